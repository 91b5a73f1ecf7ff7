/- ltklaw6.ProgWords returns true, whatever its arguments. -/
import Derived.Test.YthkffcnifhcjoaaDoorFirst
import Derived.Test.YthkffcnifhcjoaaDoorSame
import Derived.Test.YthkffcnifhcjoaaDoorRound
set_option linter.unusedSimpArgs false
set_option linter.unusedVariables false
namespace Go.Proofs.YthkffcnifhcjoaaDoor
open Go.RowKit Go.Sort

/-- A program's lines. -/
def linesOf (xs : List In) : List ByteArray := xs.map fun x => ⟨x.line.toArray⟩
theorem linesOf_len (xs : List In) : (linesOf xs).length = xs.length := by simp [linesOf]
theorem linesOf_size {xs : List In} {M : Nat} (h : ∀ x ∈ xs, x.I64s) (hl : ∀ x ∈ xs, x.l.length ≤ M) : ∀ s ∈ linesOf xs, s.size ≤ 5 + 22 * (3 + M) := by
  intro s hs
  obtain ⟨x, hx, rfl⟩ := List.mem_map.1 hs
  have h1 := In.line_len x (h x hx)
  have h2 := hl x hx
  have h3 : (⟨x.line.toArray⟩ : ByteArray).size = x.line.length := by simp [ByteArray.size]
  omega
/-- Strings of the call's own read as they should. -/
theorem own_strs {w : World} {B : Nat} {v : Value} {xs : List In} (h : w.ownsRow B 9 1 v xs.length (strV (xs.map In.line))) :
    ∃ A c, v = .slice A xs.length c ∧ Reads w w.heap.size 1 A (linesOf xs).length ((linesOf xs).map Value.string) := by
  have e : strV (xs.map In.line) = (linesOf xs).map Value.string := by simp [strV, linesOf]
  rw [e] at h
  rw [linesOf_len]
  by_cases hn : 0 < xs.length
  · obtain ⟨g, c, rfl⟩ := own_form h hn
    exact ⟨_, c, rfl, Reads.of_own h⟩
  · rcases h.2 with ⟨rfl, e⟩ | ⟨g, c, cur, rfl, _⟩
    · exact ⟨none, 0, by rw [e], by rw [e]; exact ⟨by rw [List.length_map, linesOf_len, e], fun h => absurd h (by omega)⟩⟩
    · exact ⟨_, c, rfl, Reads.of_own h⟩
/-- A block reads as a slice over its cells. -/
theorem reads_blk {w : World} {g B n size : Nat} {t : TypeId} {cs : Array Value} (h : Blk w g t cs) (hs : cs.size = n * size) (hg : g < B) : Reads w B size (some ⟨g, 0, none⟩) n cs.toList :=
  ⟨by simpa using hs, fun _ => ⟨_, rfl, hg, fun j u hj => by
    have h1 : ((⟨g, 0, none⟩ : Addr).add j) = ⟨g, j, none⟩ := by
      simp [Addr.add]
      omega
    rw [h1, h.cell j]
    simpa using hj⟩⟩
theorem reads_blk_from {w : World} {g B n size o : Nat} {t : TypeId} {cs : Array Value} {xs : List Value} (h : Blk w g t cs) (hx : xs.length = n * size) (hs : ∀ j u, xs[j]? = some u → cs[o + j]? = some u) (hg : g < B) : Reads w B size (some ⟨g, o, none⟩) n xs :=
  ⟨hx, fun _ => ⟨_, rfl, hg, fun j u hj => by
    have h1 : ((⟨g, o, none⟩ : Addr).add j) = ⟨g, o + j, none⟩ := by simp [Addr.add]
    rw [h1, h.cell (o + j)]
    exact hs j u hj⟩⟩
theorem sameI_refl (x : In) : sameI x x = true := by simp [sameI]
theorem sameP_refl (xs : List In) : sameP xs xs = true :=
  sameP_yes rfl (fun j _ x y hx hy => by rw [hx] at hy; injection hy with hy; subst hy; exact sameI_refl x)

/-- A program is printed, its lines parsed again. -/
theorem Parse_lines (xs : List In) (M : Nat) (hM : M ≤ 1000) (A : Option Addr) (c : Nat) (w : World) (hE : Env w) (hR : Reads w w.heap.size 1 A (linesOf xs).length ((linesOf xs).map Value.string)) (hx : ∀ x ∈ xs, Kind x.k ∧ x.I64s) (hl : ∀ x ∈ xs, x.l.length ≤ M) (hn : xs.length ≤ 100000) :
    Calls Tryd.prog 16 #[.slice A xs.length c] w fun e w' => (∃ A' c', e = .returned (.tuple #[.slice A' xs.length c', .int .i64 0]) ∧ InsAt w' w'.heap.size A' (xs.map canon)) ∧ Below w.heap.size w w' := by
  have h := Parse_any (linesOf xs) A c w hE hR (fun s hs => by have := linesOf_size (fun x hx' => (hx x hx').2) hl s hs; omega) (by rw [linesOf_len]; exact hn)
  rw [linesOf_len] at h
  refine h.mono fun e w' ⟨hp, hb⟩ => ⟨?_, hb⟩
  have hpl : parseS (linesOf xs) = some (xs.map canon) := parse_lines xs hx
  rw [hpl] at hp
  obtain ⟨v, ps, rfl, ho, hL⟩ := hp
  obtain ⟨A', c', rfl, hI⟩ := own_ins ho hL
  rw [List.length_map]
  exact ⟨A', c', rfl, hI⟩

def l7 (a b c : Int) : List In := [⟨1, a, b, c, []⟩, ⟨2, a, b, c, []⟩, ⟨3, a, b, 0, []⟩, ⟨4, a, b, 0, [c, a]⟩, ⟨5, a, b, 0, []⟩, ⟨6, 0, 0, 0, []⟩, ⟨7, 0, 0, 0, []⟩]
theorem l7_canon (a b c : Int) : (l7 a b c).map canon = l7 a b c := rfl
def lR : List In := [⟨6, 0, 0, 0, []⟩]
def lO : List In := [⟨6, 9, 0, 0, []⟩]
theorem lO_canon : lO.map canon = lR := rfl
theorem ok_of {k a b c : Int} {l : List Int} (hk : Kind k) (ha : I64 a) (hb : I64 b) (hc : I64 c) (hl : ∀ n ∈ l, I64 n) : Kind (In.mk k a b c l).k ∧ (In.mk k a b c l).I64s :=
  ⟨hk, ⟨⟨by have := hk.1; show -9223372036854775808 ≤ k; omega, by have := hk.2; show k ≤ 9223372036854775807; omega⟩, ha, hb, hc, hl⟩⟩
theorem l7_ok {a b c : Int} (ha : I64 a) (hb : I64 b) (hc : I64 c) : ∀ x ∈ l7 a b c, Kind x.k ∧ x.I64s := by
  have h0 : I64 0 := ⟨by decide, by decide⟩
  intro x hx
  simp only [l7, List.mem_cons, List.not_mem_nil, or_false] at hx
  rcases hx with rfl | rfl | rfl | rfl | rfl | rfl | rfl
  · exact ok_of ⟨by decide, by decide⟩ ha hb hc (by simp)
  · exact ok_of ⟨by decide, by decide⟩ ha hb hc (by simp)
  · exact ok_of ⟨by decide, by decide⟩ ha hb h0 (by simp)
  · exact ok_of ⟨by decide, by decide⟩ ha hb h0 (by intro n hn; simp at hn; rcases hn with rfl | rfl <;> assumption)
  · exact ok_of ⟨by decide, by decide⟩ ha hb h0 (by simp)
  · exact ok_of ⟨by decide, by decide⟩ h0 h0 h0 (by simp)
  · exact ok_of ⟨by decide, by decide⟩ h0 h0 h0 (by simp)
theorem lO_ok : ∀ x ∈ lO, Kind x.k ∧ x.I64s := by
  have h0 : I64 0 := ⟨by decide, by decide⟩
  intro x hx
  simp only [lO, List.mem_cons, List.not_mem_nil, or_false] at hx
  subst hx
  exact ok_of ⟨by decide, by decide⟩ ⟨by decide, by decide⟩ h0 h0 (by simp)
theorem l7_small {a b c : Int} : ∀ x ∈ l7 a b c, x.l.length ≤ 2 := by
  intro x hx
  simp only [l7, List.mem_cons, List.not_mem_nil, or_false] at hx
  rcases hx with rfl | rfl | rfl | rfl | rfl | rfl | rfl <;> simp
abbrev cells7 (a b c : Int) (L : Value) : Array Value := #[.int .i64 1, .int .i64 a, .int .i64 b, .int .i64 c, .slice none 0 0, .int .i64 2, .int .i64 a, .int .i64 b, .int .i64 c, .slice none 0 0, .int .i64 3, .int .i64 a, .int .i64 b, .int .i64 0, .slice none 0 0, .int .i64 4, .int .i64 a, .int .i64 b, .int .i64 0, L, .int .i64 5, .int .i64 a, .int .i64 b, .int .i64 0, .slice none 0 0, .int .i64 6, .int .i64 0, .int .i64 0, .int .i64 0, .slice none 0 0, .int .i64 7, .int .i64 0, .int .i64 0, .int .i64 0, .slice none 0 0]
theorem l7_ins {w : World} {g : Nat} {a b c : Int} (h1 : Blk w g 3 #[.int .i64 c, .int .i64 a]) (h2 : Blk w (g + 1) 26 (cells7 a b c (.slice (some ⟨g, 0, none⟩) 2 2))) : InsAt w w.heap.size (some ⟨g + 1, 0, none⟩) (l7 a b c) := by
  refine ⟨[(none, 0), (none, 0), (none, 0), (some ⟨g, 0, none⟩, 2), (none, 0), (none, 0), (none, 0)], ?_, reads_blk h2 rfl h2.lt⟩
  exact ⟨Reads.none_, Reads.none_, Reads.none_, reads_blk h1 rfl h1.lt, Reads.none_, Reads.none_, Reads.none_, trivial⟩
theorem l7_five {w : World} {g : Nat} {a b c : Int} {L : Value} (h2 : Blk w g 26 (cells7 a b c L)) : InsAt w w.heap.size (some ⟨g, 25, none⟩) lR := by
  refine ⟨[(none, 0)], ⟨Reads.none_, trivial⟩, reads_blk_from h2 rfl (fun j u hj => ?_) h2.lt⟩
  match j, hj with
  | 0, hj => exact hj
  | 1, hj => exact hj
  | 2, hj => exact hj
  | 3, hj => exact hj
  | 4, hj => exact hj

theorem five_at {w : World} {g : Nat} {a b c : Int} {L : Value} (h : Blk w g 26 (cells7 a b c L)) :
    w.cell? ⟨g, 25, none⟩ = some (.int .i64 6) ∧ w.cell? ⟨g, 26, none⟩ = some (.int .i64 0) ∧ w.cell? ⟨g, 27, none⟩ = some (.int .i64 0) ∧ w.cell? ⟨g, 28, none⟩ = some (.int .i64 0) ∧ w.cell? ⟨g, 29, none⟩ = some (.slice none 0 0) :=
  ⟨h.cell 25, h.cell 26, h.cell 27, h.cell 28, h.cell 29⟩
theorem lO_ins {w : World} {g : Nat} (h : Blk w g 26 #[.int .i64 6, .int .i64 9, .int .i64 0, .int .i64 0, .slice none 0 0]) : InsAt w w.heap.size (some ⟨g, 0, none⟩) lO :=
  ⟨[(none, 0)], ⟨Reads.none_, trivial⟩, reads_blk h rfl h.lt⟩

theorem same7 (a b c : Int) (A B : Option Addr) (d e : Nat) (w : World) (h1 : InsAt w w.heap.size A (l7 a b c)) (h2 : InsAt w w.heap.size B (l7 a b c)) :
    Calls Tryd.prog 17 #[.slice A (l7 a b c).length d, .slice B 7 e] w fun e w' => e = .returned (.bool true) ∧ Below w.heap.size w w' := by
  have h := Same_any (l7 a b c) (l7 a b c) A B d e w h1 h2 (fun x hx => by have := l7_small x hx; omega) (fun x hx => by have := l7_small x hx; omega) (by simp [l7]) (by simp [l7])
  rw [sameP_refl] at h
  exact h
theorem same1 (A B : Option Addr) (d e : Nat) (w : World) (h1 : InsAt w w.heap.size A lR) (h2 : InsAt w w.heap.size B lR) :
    Calls Tryd.prog 17 #[.slice A lO.length d, .slice B 1 e] w fun e w' => e = .returned (.bool true) ∧ Below w.heap.size w w' := by
  have h := Same_any lR lR A B d e w h1 h2 (by simp [lR]) (by simp [lR]) (by simp [lR]) (by simp [lR])
  rw [sameP_refl] at h
  exact h

set_option maxHeartbeats 4000000 in
set_option maxRecDepth 100000 in
theorem progWords_any (a b c : Int) (ha : I64 a) (hb : I64 b) (hc : I64 c) (w : World) (hE : Env w) :
    Calls Tryd.prog 6 #[.int .i64 a, .int .i64 b, .int .i64 c] w fun e w' => e = .returned (.bool true) ∧ Below w.heap.size w w' := by
  have HE := Lib.hid hE
  have HF := Lib.hid first_any
  have H7 := Lib.hid (l7_ok ha hb hc)
  clear hE ha hb hc
  go_enter Tryd.func6, Tryd.ntmps6
  go_upto_region 4 with (go_at_call 8; refine (HF.out w HE.out).mono ?_; rintro e w1 ⟨rfl, hb⟩; have H1 := Lib.hid hb; clear hb)
  refine boxed2 ?_
  intro W2 hB1 hB2 hB3 hB4
  have HBL := Lib.hid hB1
  have HBI := Lib.hid hB2
  have HB2 := Lib.hid (H1.out.trans (hB3.mono H1.out.size))
  have HI2 := Lib.hid (l7_ins hB1 hB2)
  clear hB1 hB2 hB3
  go_upto_region 5 with (first
    | (go_at_call 15; refine (Print_any (l7 a b c) (some ⟨w1.heap.size + 1, 0, none⟩) 7 W2 (HE.out.below HB2.out) HI2.out (fun x hx => (H7.out x hx).2) (fun x hx => by have := l7_small x hx; omega) (by simp [l7])).mono ?_; rintro e w3 ⟨v3, rfl, hown, hb⟩; obtain ⟨A3, c3, rfl, hR⟩ := own_strs hown; have HR3 := Lib.hid hR; have HB3 := Lib.hid (HB2.out.trans (hb.mono HB2.out.size)); have HI3 := Lib.hid (HI2.out.next hb); have HBI3 := Lib.hid (HBI.out.below hb HBI.out.lt); clear hown hb hR)
    | (go_at_call 16; refine (Parse_lines (l7 a b c) 2 (by omega) A3 c3 w3 (HE.out.below HB3.out) HR3.out H7.out l7_small (by simp [l7])).mono ?_; rintro e w4 ⟨⟨A4, c4, rfl, hI⟩, hb⟩; rw [l7_canon] at hI; have HX4 := Lib.hid hI; have HB4 := Lib.hid (HB3.out.trans (hb.mono HB3.out.size)); have HI4 := Lib.hid (HI3.out.next hb); have HBI4 := Lib.hid (HBI3.out.below hb HBI3.out.lt); clear hb hI))
  clear HR3 HB3 HI3 HBI3 HBL HBI HB2 HI2
  have hfive := five_at HBI4.out
  go_upto_region 6 with (fail)
  refine boxed1 ?_
  intro W5 hB1 hB2 hB3
  have HBK := Lib.hid hB1
  have hk := instr_at hB1
  have hfz := instr_fz hB1
  have hB6 := Lib.hid (hB2.setCell (p := ⟨w4.heap.size, 1, none⟩) (Nat.le_refl _) (.int .i64 9))
  clear hB1 hB2 hfive
  go_upto_region 7 with (fail)
  have HBK6 : Hid (Blk (W5.setCell ⟨w4.heap.size, 1, none⟩ (.int .i64 9)) w4.heap.size 26 #[.int .i64 6, .int .i64 9, .int .i64 0, .int .i64 0, .slice none 0 0]) := Lib.hid (HBK.out.set_ 1 (.int .i64 9))
  clear hk hfz HBK
  generalize W5.setCell ⟨w4.heap.size, 1, none⟩ (.int .i64 9) = W6 at *
  have hk6 := instr_at HBK6.out
  have hB7 : Below W6.heap.size W6 (W6.alloc (.cells #[.int .i64 6, .int .i64 9, .int .i64 0, .int .i64 0, .slice none 0 0] 26)) := (Below.refl _ _).alloc (Nat.le_refl _) _
  have HN7 := Lib.hid (lO_ins (Blk.new W6 26 #[.int .i64 6, .int .i64 9, .int .i64 0, .int .i64 0, .slice none 0 0]))
  have hb47 := hB6.out.trans (hB7.mono hB6.out.size)
  have HB7 := Lib.hid (HB4.out.trans (hb47.mono HB4.out.size))
  have HI7 := Lib.hid (HI4.out.next hb47)
  have HX7 := Lib.hid (HX4.out.next hb47)
  have HBI7 := Lib.hid (HBI4.out.below hb47 HBI4.out.lt)
  clear hB7 hb47 HB4 HI4 HX4 HBI4 hB6 HBK6
  go_upto_region 8 with (first
    | (go_at_call 15; refine (Print_any lO (some ⟨W6.heap.size, 0, none⟩) 1 _ (HE.out.below HB7.out) HN7.out (fun x hx => (lO_ok x hx).2) (by simp [lO]) (by simp [lO])).mono ?_; rintro e w8 ⟨v8, rfl, hown, hb⟩; obtain ⟨A8, c8, rfl, hR⟩ := own_strs hown; have HR8 := Lib.hid hR; have HB8 := Lib.hid (HB7.out.trans (hb.mono HB7.out.size)); have HI8 := Lib.hid (HI7.out.next hb); have HX8 := Lib.hid (HX7.out.next hb); have HBI8 := Lib.hid (HBI7.out.below hb HBI7.out.lt); clear hown hb hR)
    | (go_at_call 16; refine (Parse_lines lO 0 (by omega) A8 c8 w8 (HE.out.below HB8.out) HR8.out lO_ok (by simp [lO]) (by simp [lO])).mono ?_; rintro e w9 ⟨⟨A9, c9, rfl, hI⟩, hb⟩; rw [lO_canon] at hI; have HY9 := Lib.hid hI; have HB9 := Lib.hid (HB8.out.trans (hb.mono HB8.out.size)); have HI9 := Lib.hid (HI8.out.next hb); have HX9 := Lib.hid (HX8.out.next hb); have HBI9 := Lib.hid (HBI8.out.below hb HBI8.out.lt); clear hb hI))
  clear HR8 HB8 HI8 HX8 HBI8 HN7 HB7 HI7 HX7 HBI7 hk6
  go_wp2_with (first
    | (go_at_call 8; refine (HF.out w9 (HE.out.below HB9.out)).mono ?_; rintro e w10 ⟨rfl, hb⟩; have HB10 := Lib.hid (HB9.out.trans (hb.mono HB9.out.size)); have HI10 := Lib.hid (HI9.out.next hb); have HX10 := Lib.hid (HX9.out.next hb); have HY10 := Lib.hid (HY9.out.next hb); have HBI10 := Lib.hid (HBI9.out.below hb HBI9.out.lt); clear hb)
    | (go_at_call 17; with_reducible refine (same7 a b c A4 (some ⟨w1.heap.size + 1, 0, none⟩) c4 7 w10 HX10.out HI10.out).mono ?_; rintro e w11 ⟨rfl, hb⟩; have HB11 := Lib.hid (HB10.out.trans (hb.mono HB10.out.size)); have HY11 := Lib.hid (HY10.out.next hb); have HZ11 := Lib.hid (l7_five (HBI10.out.below hb HBI10.out.lt)); clear hb)
    | (go_at_call 17; with_reducible refine (same1 A9 (some ⟨w1.heap.size + 1, 25, none⟩) c9 2 w11 HY11.out HZ11.out).mono ?_; rintro e w12 ⟨rfl, hb⟩; have HB12 := Lib.hid (HB11.out.trans (hb.mono HB11.out.size)); clear hb))
  go_ret
  exact ⟨rfl, HB12.out⟩
end Go.Proofs.YthkffcnifhcjoaaDoor
