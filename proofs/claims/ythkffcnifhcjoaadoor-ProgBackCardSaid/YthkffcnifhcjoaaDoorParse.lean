/- prog.Parse computes parseS of any lines. -/
import Derived.Test.YthkffcnifhcjoaaDoorPrint
set_option linter.unusedSimpArgs false
set_option linter.unusedVariables false
namespace Go.Proofs.YthkffcnifhcjoaaDoor
open Go.RowKit Go.Sort

theorem parseS_append : ∀ (a b : List ByteArray), parseS (a ++ b) = (parseS a).bind fun x => (parseS b).map (x ++ ·)
  | [], b => by simp [parseS]
  | s :: a, b => by
    simp only [List.cons_append, parseS]
    rw [parseS_append a b]
    split
    · cases parseS a <;> simp [Option.map_map]
      cases parseS b <;> simp
    · simp
theorem parseS_one (s : ByteArray) : parseS [s] = if (readS s).2 then some [(readS s).1] else none := by
  simp [parseS]
theorem parseS_snoc_yes {a : List ByteArray} {s : ByteArray} {xs : List In} (h : parseS a = some xs) (hs : (readS s).2 = true) : parseS (a ++ [s]) = some (xs ++ [(readS s).1]) := by
  rw [parseS_append, h, parseS_one, hs]
  rfl
theorem parseS_none {l : List ByteArray} {s : ByteArray} (hm : s ∈ l) (hs : (readS s).2 = false) : parseS l = none := by
  induction l with
  | nil => cases hm
  | cons a l ih =>
    rcases List.mem_cons.1 hm with rfl | hm
    · simp [parseS, hs]
    · simp only [parseS]
      rw [ih hm]
      split <;> rfl
theorem parseS_len : ∀ {l : List ByteArray} {xs : List In}, parseS l = some xs → xs.length = l.length
  | [], xs, h => by simp [parseS] at h; subst h; rfl
  | s :: l, xs, h => by
    simp only [parseS] at h
    split at h
    · cases e : parseS l with
      | none => rw [e] at h; cases h
      | some ys => rw [e] at h; simp at h; subst h; simp [parseS_len e]
    · cases h

/-- The lists of instructions are rows of the call's own. -/
def ListsO (w : World) (B : Nat) : List In → List (Option Addr × Nat) → Prop
  | x :: xs, p :: ps => w.ownsRow B 3 1 (.slice p.1 x.l.length p.2) x.l.length (x.l.map (Value.int .i64)) ∧ ListsO w B xs ps
  | [], [] => True
  | _, _ => False
theorem ListsO.map {w w' : World} {B B' : Nat} (f : ∀ (A : Option Addr) (c : Nat) (l : List Int), w.ownsRow B 3 1 (.slice A l.length c) l.length (l.map (Value.int .i64)) → w'.ownsRow B' 3 1 (.slice A l.length c) l.length (l.map (Value.int .i64))) :
    ∀ {xs : List In} {ps : List (Option Addr × Nat)}, ListsO w B xs ps → ListsO w' B' xs ps
  | [], [], _ => trivial
  | x :: xs, p :: ps, h => ⟨f _ _ _ h.1, ListsO.map f h.2⟩
theorem ListsO.snoc {w : World} {B : Nat} : ∀ {xs : List In} {ps : List (Option Addr × Nat)} {x : In} {p : Option Addr × Nat}, ListsO w B xs ps → w.ownsRow B 3 1 (.slice p.1 x.l.length p.2) x.l.length (x.l.map (Value.int .i64)) → ListsO w B (xs ++ [x]) (ps ++ [p])
  | [], [], x, p, _, h => ⟨h, trivial⟩
  | y :: xs, q :: ps, x, p, h, hx => ⟨h.1, h.2.snoc hx⟩
theorem ListsO.lists {w : World} {B : Nat} : ∀ {xs : List In} {ps : List (Option Addr × Nat)}, ListsO w B xs ps → Lists w w.heap.size xs ps
  | [], [], _ => trivial
  | x :: xs, p :: ps, h => ⟨Reads.of_own h.1, h.2.lists⟩
theorem ListsO.len {w : World} {B : Nat} {xs : List In} {ps : List (Option Addr × Nat)} (h : ListsO w B xs ps) : ps.length = xs.length := h.lists.len

theorem ins_info : (Tryd.prog.info? 26).map (fun i => (i.zero, i.size, i.bytes)) = some (some (.agg #[.int .i64 0, .int .i64 0, .int .i64 0, .int .i64 0, .slice none 0 0]), 5, 56) := by kernel_rfl

/-- A new block of five cells reads as a slice of one struct. -/
theorem reads_new5 (w : World) (a b c d e : Value) (t : TypeId) : Reads (w.alloc (.cells #[a, b, c, d, e] t)) (w.heap.size + 1) 5 (some ⟨w.heap.size, 0, none⟩) 1 [a, b, c, d, e] :=
  ⟨rfl, fun _ => ⟨_, rfl, by show w.heap.size < w.heap.size + 1; omega, fun j v hj => by
    match j, hj with
    | 0, hj => simp at hj; subst hj; simp [Addr.add]
    | 1, hj => simp at hj; subst hj; simp [Addr.add]
    | 2, hj => simp at hj; subst hj; simp [Addr.add]
    | 3, hj => simp at hj; subst hj; simp [Addr.add]
    | 4, hj => simp at hj; subst hj; simp [Addr.add]
    | j + 5, hj => simp at hj⟩⟩

/-- What Parse hands back. -/
def Parsed (w w' : World) (r : Option (List In)) (e : Ending) : Prop :=
  match r with
  | none => e = .returned (.tuple #[.slice none 0 0, .int .i64 2])
  | some xs => ∃ v ps, e = .returned (.tuple #[v, .int .i64 0]) ∧ w'.ownsRow w.heap.size 26 5 v xs.length (flatI xs ps) ∧ ListsO w' w.heap.size xs ps

set_option maxHeartbeats 2000000 in
set_option maxRecDepth 100000 in
theorem Parse_any (ss : List ByteArray) (A : Option Addr) (cap : Nat) (w : World) (hE : Env w) (hI : Reads w w.heap.size 1 A ss.length (ss.map Value.string)) (hs : ∀ s ∈ ss, s.size ≤ 100000) (hn : ss.length ≤ 100000) :
    Calls Tryd.prog 16 #[.slice A ss.length cap] w fun e w' => Parsed w w' (parseS ss) e ∧ Below w.heap.size w w' := by
  obtain ⟨i1, hi1, hy0, hy1, hy2⟩ := info_parts ins_info
  have HI1 := Lib.hid hi1
  have HY := Lib.hid (And.intro hy0 (And.intro hy1 hy2))
  clear hi1 hy0 hy1 hy2
  have HP := Lib.hid (fun (j : Nat) (x : ByteArray) (h : ss[j]? = some x) => hs x (List.mem_of_getElem? h))
  have HI := Lib.hid hI
  have HE := Lib.hid hE
  clear hI hs hE
  go_enter Tryd.func16, Tryd.ntmps16
  go_wp2
  go_loopg [4, 11] ss.length (fun gg s4 s11 wr => ∃ (k : Nat) (xs : List In) (ps : List (Option Addr × Nat)), k ≤ ss.length ∧ ss.length - k ≤ gg ∧ s11 = .int .i64 k ∧
    Aside (parseS (ss.take k) = some xs) ∧ Aside (wr.ownsRow w.heap.size 26 5 s4 xs.length (flatI xs ps)) ∧ Aside (ListsO wr w.heap.size xs ps) ∧ Aside (Below w.heap.size w wr))
  case atStart => exact ⟨0, [], [], by omega, by omega, rfl, rfl, World.ownsRow_nil _ _ _ _, trivial, Below.refl _ _⟩
  case round =>
    obtain ⟨k, xs, ps, hk, hg, rfl, HM, HO, HL, BW⟩ := hrel
    have hsz := BW.out.size
    have hxl : xs.length = k := by
      have := parseS_len HM.out
      rw [List.length_take] at this
      omega
    subst hxl
    by_cases hlt : xs.length < ss.length
    · have hltz : (xs.length : Int) < (ss.length : Int) := by omega
      have hx : ss[xs.length]? = some ss[xs.length] := List.getElem?_eq_getElem hlt
      generalize ss[xs.length] = s at hx
      obtain ⟨b, o, u, hA, hb, hxu, hcell⟩ := ((HI.out.below BW.out).more hsz).get_ hlt
      subst hA
      rw [List.getElem?_map, hx] at hxu
      simp only [Option.map_some, Option.some.injEq] at hxu
      subst hxu
      have hss := HP.out _ s hx
      have HX := Lib.hid hx
      have HCall := Lib.hid (read_any s hss wr (HE.out.below BW.out))
      clear hx
      have hrs1 : parseS (ss.take (xs.length + 1)) = parseS (ss.take xs.length ++ [s]) := by
        rw [List.take_add_one, HX.out]; rfl
      cases hok : (readS s).2 with
      | true =>
        have hp1 := parseS_snoc_yes HM.out hok
        rw [hok] at HCall
        rw [← hrs1] at hp1
        generalize (readS s).1 = x at HCall hp1
        have HP1 := Lib.hid hp1
        clear hp1 hok hrs1
        unfold In.v at HCall
        go_wp2_with (first
          | (go_at_call 24; refine HCall.out.mono ?_; rintro e w2 ⟨A', c', rfl, hrd, hb2⟩; have HB2 := Lib.hid hb2; have HRD := Lib.hid hrd; clear hb2 hrd)
          | (at_builtin; refine wpList_append_any _ rfl (.tmp 22) (.tmp 24) _ rfl w.heap.size 26 i1 _ 5 56 Tryd.underlying23 HI1.out HY.out.1 HY.out.2.1 HY.out.2.2 rfl (by omega) u4 xs.length _ rfl (own_alloc (own_alloc (own_below HO.out HB2.out) _) _) (w2.heap.size + 1 + 1) (some ⟨w2.heap.size + 1, 0, none⟩) 1 1 (insCells x (A', c')) rfl (by have := reads_new5 (w2.alloc (.cells #[.int .i64 x.k, .int .i64 x.a, .int .i64 x.b, .int .i64 x.c, .slice A' x.l.length c'] 26)) (.int .i64 x.k) (.int .i64 x.a) (.int .i64 x.b) (.int .i64 x.c) (.slice A' x.l.length c') 26; rw [World.size_alloc] at this; exact this) (by simp [insCells, Value.oneCell']) (by simp only [maxLen]; omega) (by omega) (by have := HB2.out.size; simp; omega) ?_; intro v3 w3 hown3 hg3 hat3; have Hw3 := Lib.hid (And.intro hown3 (And.intro hg3 hat3)); clear hown3 hg3 hat3))
        go_roundg (ss.length - (xs.length + 1))
        case measure => omega
        case rel =>
          obtain ⟨hown3, hg3, hat3⟩ := Hw3.out
          refine ⟨xs.length + 1, xs ++ [x], ps ++ [(A', c')], by omega, by omega, by go_num, HP1.out, ?_, ?_, ?_⟩
          · show World.ownsRow _ _ _ _ _ _ _
            rw [flatI_snoc _ _ _ _ (HL.out.len)]
            simpa using hown3
          · show ListsO _ _ _ _
            have h1 : ListsO w2 w.heap.size xs ps := HL.out.map (fun _ _ _ h => own_below h HB2.out)
            have h2 := h1.snoc (x := x) (p := (A', c')) (own_base HRD.out hsz)
            have h3 : ListsO w3 w.heap.size (xs ++ [x]) (ps ++ [(A', c')]) := h2.map (fun A c l h => by
              have ha := own_alloc (own_alloc h (.cells #[.int .i64 x.k, .int .i64 x.a, .int .i64 x.b, .int .i64 x.c, .slice A' x.l.length c'] 26)) (.cells (insCells x (A', c')).toArray 26)
              refine ha.kept hg3 ?_
              exact own_ne h (own_below HO.out HB2.out) (by decide))
            exact h3
          · show Below _ _ _
            have h1 := BW.out.trans (HB2.out.mono hsz)
            exact ((h1.alloc (by have := HB2.out.size; omega) _).alloc (by have := HB2.out.size; simp; omega) _).grown hg3 (by have := HB2.out.size; simp; omega) (fun k hk => ((HO.out).lt k hk).1)
      | false =>
        have hp1 : parseS ss = none := parseS_none (List.mem_of_getElem? HX.out) hok
        have HP1 := Lib.hid hp1
        rw [hok] at HCall
        generalize (readS s).1 = x at HCall
        clear hp1 hok hrs1
        unfold In.v at HCall
        go_wp2_with (first
          | (go_at_call 24; refine HCall.out.mono ?_; rintro e w2 ⟨A', c', rfl, hrd, hb2⟩; have HB2 := Lib.hid hb2; clear hb2 hrd))
        go_ret2
        refine ⟨by rw [HP1.out]; rfl, ?_⟩
        exact (BW.out.trans (HB2.out.mono hsz)).alloc (by have := HB2.out.size; omega) _
    · have hke : xs.length = ss.length := by omega
      have hM := HM.out
      rw [List.take_of_length_le (by omega)] at hM
      have HM2 := Lib.hid hM
      clear hM
      go_wp2
      go_ret2
      refine ⟨?_, BW.out⟩
      rw [HM2.out]
      exact ⟨_, ps, rfl, HO.out, HL.out⟩
end Go.Proofs.YthkffcnifhcjoaaDoor
