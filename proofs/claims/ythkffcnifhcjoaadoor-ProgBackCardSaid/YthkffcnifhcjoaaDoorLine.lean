/- prog.line writes any instruction whose list holds at most 100000 numbers. -/
import Derived.Test.YthkffcnifhcjoaaDoorEnv
import Derived.Test.YthkffcnifhcjoaaDoorAddr
import Derived.Deep.DeepCutAuto
import Derived.Lib.ItoaLen
set_option linter.unusedSimpArgs false
set_option linter.unusedVariables false
namespace Go.Proofs.YthkffcnifhcjoaaDoor
open Go.RowKit Go.Sort

/-- An instruction. -/
structure In where
  k : Int
  a : Int
  b : Int
  c : Int
  l : List Int

def In.v (x : In) (L : Value) : Value := .agg #[.int .i64 x.k, .int .i64 x.a, .int .i64 x.b, .int .i64 x.c, L]
/-- The numbers behind the word. -/
def In.nums (x : In) : List Int := [x.a, x.b, x.c].take (wordN x.k).toNat ++ (if wordL x.k then x.l else [])
def In.line (x : In) : List UInt8 := Lib.join (wordB x.k :: x.nums.map Lib.itoa) [32]
structure In.I64s (x : In) : Prop where
  k : I64 x.k
  a : I64 x.a
  b : I64 x.b
  c : I64 x.c
  l : ∀ n ∈ x.l, I64 n

theorem In.nums_I64 {x : In} (h : x.I64s) : ∀ n ∈ x.nums, I64 n := by
  intro n hn
  unfold In.nums at hn
  rw [List.mem_append] at hn
  rcases hn with hn | hn
  · have := List.mem_of_mem_take hn
    simp at this
    rcases this with rfl | rfl | rfl
    · exact h.a
    · exact h.b
    · exact h.c
  · split at hn
    · exact h.l n hn
    · simp at hn
theorem wordN_bd (k : Int) : 0 ≤ wordN k ∧ wordN k ≤ 3 := by
  unfold wordN
  repeat' split
  all_goals decide
theorem In.nums_len (x : In) : x.nums.length ≤ 3 + x.l.length := by
  unfold In.nums
  have := wordN_bd x.k
  rw [List.length_append, List.length_take]
  split <;> simp <;> omega

theorem ints_len1 {n : List Int} : ∀ u ∈ n.map (Value.int .i64), u.oneCell' = true := ints_oneCell .i64 n

theorem itoa_len (n : Int) (h : I64 n) : (Lib.itoa n).length ≤ 21 := Lib.itoa_length_le n h.1 h.2

theorem wordB_len (k : Int) : (wordB k).length ≤ 5 := by
  unfold wordB
  repeat' split
  all_goals decide

theorem lens_itoa (l : List Int) (h : ∀ n ∈ l, I64 n) : Lib.lens (l.map Lib.itoa) ≤ 21 * l.length := by
  induction l with
  | nil => simp [Lib.lens]
  | cons n r ih =>
    have h1 := itoa_len n (h n (by simp))
    have h2 := ih (fun m hm => h m (by simp [hm]))
    simp only [Lib.lens, List.map_cons, List.sum_cons, List.length_cons] at h2 ⊢
    omega

theorem join_len_le (wrd : List UInt8) (hw : wrd.length ≤ 5) (l : List Int) (h : ∀ n ∈ l, I64 n) : (Lib.join (wrd :: l.map Lib.itoa) [32]).length ≤ 5 + 22 * l.length := by
  rw [Lib.join_length]
  have := lens_itoa l h
  have e : Lib.lens (wrd :: l.map Lib.itoa) = wrd.length + Lib.lens (l.map Lib.itoa) := by simp [Lib.lens]
  rw [e]
  simp
  omega

theorem In.line_len (x : In) (h : x.I64s) : x.line.length ≤ 5 + 22 * (3 + x.l.length) := by
  have h1 := join_len_le (wordB x.k) (wordB_len _) x.nums (In.nums_I64 h)
  have h2 := In.nums_len x
  unfold In.line
  omega

theorem strs_one {l : List ByteArray} : ∀ u ∈ l.map Value.string, u.oneCell' = true := by
  intro u hu
  simp at hu
  obtain ⟨x, _, rfl⟩ := hu
  rfl

theorem str_info : (Tryd.prog.info? 9).map (fun i => (i.zero, i.size, i.bytes)) = some (some (.string ⟨#[]⟩), 1, 16) := by kernel_rfl
theorem int_info : (Tryd.prog.info? 3).map (fun i => (i.zero, i.size, i.bytes)) = some (some (.int .i64 0), 1, 8) := by kernel_rfl

/-- A new block of one cell reads as a slice of one element. -/
theorem reads_new (w : World) (u : Value) (t : TypeId) : Reads (w.alloc (.cells #[u] t)) (w.heap.size + 1) 1 (some ⟨w.heap.size, 0, none⟩) 1 [u] :=
  ⟨rfl, fun _ => ⟨_, rfl, by show w.heap.size < w.heap.size + 1; omega, fun j v hj => by
    match j, hj with
    | 0, hj => simp at hj; subst hj; simp [Addr.add]⟩⟩

theorem own_alloc {w : World} {base : Nat} {e : TypeId} {size : Nat} {v : Value} {n : Nat} {xs : List Value} (h : w.ownsRow base e size v n xs) (o : Obj) : (w.alloc o).ownsRow base e size v n xs := h.alloc o
theorem own_base {w : World} {base base' : Nat} {e : TypeId} {size : Nat} {v : Value} {n : Nat} {xs : List Value} (h : w.ownsRow base e size v n xs) (hb : base' ≤ base) : w.ownsRow base' e size v n xs := by
  refine ⟨h.1, ?_⟩
  rcases h.2 with h2 | ⟨g, cap, cur, e1, e2, r⟩
  · exact .inl h2
  · exact .inr ⟨g, cap, cur, e1, Nat.le_trans hb e2, r⟩
theorem own_ne {w : World} {base base' : Nat} {e e' : TypeId} {size size' : Nat} {v v' : Value} {n n' : Nat} {xs xs' : List Value} (h : w.ownsRow base e size v n xs) (h' : w.ownsRow base' e' size' v' n' xs') (hne : e ≠ e') :
    v.ownBlock = none ∨ v.ownBlock ≠ v'.ownBlock := by
  rcases h.2 with ⟨rfl, _⟩ | ⟨g, cap, cur, rfl, _, hh, _⟩
  · exact .inl rfl
  · refine .inr ?_
    rcases h'.2 with ⟨rfl, _⟩ | ⟨g', cap', cur', rfl, _, hh', _⟩
    · simp [Value.ownBlock]
    · intro hg
      have hg : g = g' := by simpa [Value.ownBlock] using hg
      subst hg
      rw [hh] at hh'
      injection hh' with hh'
      injection hh' with _ ht
      exact hne ht
theorem own_form {w : World} {base : Nat} {e : TypeId} {size : Nat} {v : Value} {n : Nat} {xs : List Value} (h : w.ownsRow base e size v n xs) (hn : 0 < n) : ∃ g c, v = .slice (some ⟨g, 0, none⟩) n c := by
  rcases h.2 with ⟨_, e0⟩ | ⟨g, cap, cur, e, _⟩
  · omega
  · exact ⟨g, cap, e⟩
theorem own_below {w w' : World} {base : Nat} {e : TypeId} {size : Nat} {v : Value} {n : Nat} {xs : List Value} (h : w.ownsRow base e size v n xs) (hb : Below w.heap.size w w') : w'.ownsRow base e size v n xs :=
  h.kept (row := none) ⟨hb.os, hb.tape, hb.output, hb.size, fun k hk _ => hb.block k hk⟩ (by cases h' : v.ownBlock with
    | none => exact .inl rfl
    | some x => exact .inr (by simp))

set_option maxHeartbeats 2000000 in
set_option maxRecDepth 100000 in
theorem line_any (x : In) (A : Option Addr) (m c : Nat) (w : World) (hE : Env w) (hx : x.I64s) (hm : m ≤ 100000) (hL : Reads w w.heap.size 1 A m (x.l.map (Value.int .i64))) :
    Calls Tryd.prog 23 #[x.v (.slice A m c)] w fun e w' => e = .returned (.string ⟨x.line.toArray⟩) ∧ Below w.heap.size w w' := by
  obtain ⟨i0, hi0, hz0, hz1, hz2⟩ := info_parts int_info
  obtain ⟨i1, hi1, hy0, hy1, hy2⟩ := info_parts str_info
  have HI0 := Lib.hid hi0
  have HI1 := Lib.hid hi1
  have HZ := Lib.hid (And.intro hz0 (And.intro hz1 hz2))
  have HY := Lib.hid (And.intro hy0 (And.intro hy1 hy2))
  clear hi0 hi1 hz0 hz1 hz2 hy0 hy1 hy2
  have hlen : x.l.length = m := by have := hL.1; simpa using this
  have HN := Lib.hid (show x.nums = [x.a, x.b, x.c].take (wordN x.k).toNat ++ (if wordL x.k then x.l else []) from rfl)
  have HLn := Lib.hid (show x.line = Lib.join (wordB x.k :: x.nums.map Lib.itoa) [32] from rfl)
  have hbd := wordN_bd x.k
  have HW := Lib.hid (fun w => word_any x.k w)
  have H64 := Lib.hid (In.nums_I64 hx)
  have hnl := In.nums_len x
  rw [hlen] at hnl
  generalize x.nums = nums at HN HLn H64 hnl
  generalize x.line = line at HLn ⊢
  generalize wordN x.k = n at HW HN hbd
  generalize wordL x.k = lst at HW HN
  generalize hwl0 : wordB x.k = wrd at HW HLn
  have HWL := Lib.hid hwl0
  clear hwl0
  obtain ⟨k, a, b, cc, l⟩ := x
  unfold In.v
  dsimp only at *
  obtain ⟨hn0, hn3⟩ := hbd
  obtain ⟨n, rfl⟩ := Int.eq_ofNat_of_zero_le hn0
  clear hn0 hx
  have HLen := Lib.hid hlen
  clear hlen
  have HL := Lib.hid hL
  have HE := Lib.hid hE
  clear hL hE
  go_enter Tryd.func23, Tryd.ntmps23
  go_upto_if 26 with (go_at_call 29; refine (HW.out _).mono ?_; rintro e w1 ⟨rfl, rfl⟩)
  refine boxed2 ?_
  intro W0 hB1 hB2 hB3 hB4
  have hown : W0.ownsRow (w.heap.size + 1) 3 1 (.slice (some ⟨w.heap.size + 1, 0, none⟩) n 3) n (([a, b, cc].take n).map (Value.int .i64)) := by
    refine ⟨by simp; omega, .inr ⟨w.heap.size + 1, 3, _, rfl, Nat.le_refl _, hB2, by omega, by unfold maxLen; omega, rfl, by simp⟩⟩
  have k2 := (instr_at hB1).2.2.2.2
  have HOWN := Lib.hid hown
  have HB := Lib.hid hB3
  clear hown hB1 hB2 hB3
  go_cut [6] (fun s6 wx => ∃ A' c', s6 = .slice A' nums.length c' ∧ Aside (Reads wx wx.heap.size 1 A' nums.length (nums.map (Value.int .i64))) ∧ Aside (Below w.heap.size w wx))
  case first =>
    cases lst with
    | false =>
      go_wp2
      go_meet
      case rel =>
        have hnum := HN.out
        simp only [Bool.false_eq_true, if_false, List.append_nil] at hnum
        have h1 := HOWN.out
        have h2 : nums.length = n := by rw [hnum]; simp; omega
        refine ⟨some ⟨w.heap.size + 1, 0, none⟩, 3, by rw [h2], ?_, HB.out⟩
        show Reads _ _ _ _ _ _
        rw [h2, hnum]
        exact Reads.of_own (n := n) h1
    | true =>
      have hLW : Reads W0 W0.heap.size 1 A m (l.map (Value.int .i64)) := (HL.out.below HB.out).more HB.out.size
      have HLW := Lib.hid hLW
      clear hLW
      go_wp2_with (at_builtin; refine wpList_append_any _ rfl (.tmp 27) (.tmp 29) _ rfl (w.heap.size + 1) 3 i0 _ 1 8 Tryd.underlying24 HI0.out HZ.out.1 HZ.out.2.1 HZ.out.2.2 rfl (by omega) (.slice (some ⟨w.heap.size + 1, 0, none⟩) n 3) n (([a, b, cc].take n).map (Value.int .i64)) rfl HOWN.out W0.heap.size A m c (l.map (Value.int .i64)) rfl HLW.out ints_len1 (by simp only [maxLen]; omega) (by omega) (by omega) ?_; intro v1 w1 hown1 hg1 hat1; have Hw1 := Lib.hid (And.intro hown1 (And.intro hg1 hat1)); clear hown1 hg1 hat1)
      go_meet
      case rel =>
        obtain ⟨hown1, hg1, hat1⟩ := Hw1.out
        have hnum := HN.out
        simp only [if_true] at hnum
        have h2 : nums.length = n + m := by rw [hnum]; simp [HLen.out]; omega
        have hv : ∃ A' c', v1 = .slice A' (n + m) c' := by
          rcases hown1.2 with ⟨e, e0⟩ | ⟨g, cap, cur, e, _⟩
          · exact ⟨none, 0, by rw [e, e0]⟩
          · exact ⟨_, _, e⟩
        obtain ⟨A', c', rfl⟩ := hv
        refine ⟨A', c', by rw [h2], ?_, ?_⟩
        · show Reads _ _ _ _ _ _
          rw [h2, hnum]
          have := Reads.of_own (n := n + m) hown1
          simpa using this
        · exact HB.out.grown hg1 (by omega) (fun k hk => by simp [Value.ownBlock] at hk; omega)
  case rest =>
    obtain ⟨A', c', rfl, R, B⟩ := hcut
    clear HOWN HB k2 HL
    go_wp2
    go_loopg [7, 35] nums.length (fun gg s7 s35 wr => ∃ kk : Nat, kk ≤ nums.length ∧ nums.length - kk ≤ gg ∧ s35 = .int .i64 kk ∧
      Aside (wr.ownsRow wc.heap.size 9 1 s7 (kk + 1) (((wrd :: (nums.take kk).map Lib.itoa).map fun z => (⟨z.toArray⟩ : ByteArray)).map Value.string)) ∧ Aside (Below wc.heap.size wc wr))
    case atStart =>
      refine ⟨0, by omega, by omega, rfl, ?_, (Below.refl _ _).alloc (Nat.le_refl _) _⟩
      show World.ownsRow _ _ _ _ _ _ _
      exact World.ownsRow_lit wc #[.string ⟨wrd.toArray⟩] 1 (Nat.le_refl _) (by unfold maxLen; omega) rfl
    case round =>
      obtain ⟨kk, hkk, hg, rfl, O, BW⟩ := hrel
      by_cases hlt : kk < nums.length
      · obtain ⟨ab, ao, u, hA, hbl, hx, hcell⟩ := R.out.get_ hlt
        subst hA
        rw [List.getElem?_map, List.getElem?_eq_getElem hlt] at hx
        simp only [Option.map_some, Option.some.injEq] at hx
        have h64 := H64.out nums[kk] (List.getElem_mem hlt)
        have hEw := (HE.out.below B.out).below BW.out
        have hcw := (BW.out.cell (p := ⟨ab, ao + kk, none⟩) hbl).trans hcell
        clear hcell
        generalize hq : nums[kk] = q at hx h64
        have HQ := Lib.hid hq
        clear hq
        subst hx
        have HIT := Lib.hid (Itoa_any q h64 wr hEw)
        have hsz := BW.out.size
        have hwsz := (B.out).size
        clear hEw h64
        have hltz : (kk : Int) < (nums.length : Int) := by omega
        go_wp2_with (first
          | (go_at_call 31; refine HIT.out.mono ?_; rintro e w2 ⟨rfl, hb2⟩; have HB2 := Lib.hid hb2; clear hb2)
          | (at_builtin; refine wpList_append_any _ rfl (.tmp 39) (.tmp 42) _ rfl wc.heap.size 9 i1 _ 1 16 Tryd.underlying38 HI1.out HY.out.1 HY.out.2.1 HY.out.2.2 rfl (by omega) u7 (kk + 1) _ rfl (own_alloc (own_below O.out HB2.out) _) (w2.heap.size + 1) (some ⟨w2.heap.size, 0, none⟩) 1 1 [.string ⟨(Lib.itoa q).toArray⟩] rfl (reads_new w2 _ 9) (by simp [Value.oneCell']) (by simp only [maxLen]; omega) (by omega) (by have := HB2.out.size; simp; omega) ?_; intro v3 w3 hown3 hg3 hat3; have Hw3 := Lib.hid (And.intro hown3 (And.intro hg3 hat3)); clear hown3 hg3 hat3))
        go_roundg (nums.length - (kk + 1))
        case measure => omega
        case rel =>
          obtain ⟨hown3, hg3, hat3⟩ := Hw3.out
          refine ⟨kk + 1, by omega, by omega, by go_num, ?_, ?_⟩
          · show World.ownsRow _ _ _ _ _ _ _
            have e : nums.take (kk + 1) = nums.take kk ++ [q] := by
              rw [List.take_succ_eq_append_getElem hlt, HQ.out]
            rw [e]
            simpa using hown3
          · show Below _ _ _
            have h1 := BW.out.trans (HB2.out.mono hsz)
            exact (h1.alloc (by have := HB2.out.size; omega) _).grown hg3 (by have := HB2.out.size; simp; omega) (fun k hk => ((O.out).lt k hk).1)
      · have : kk = nums.length := by omega
        subst this
        have hO := O.out
        rw [List.take_of_length_le (Nat.le_refl _)] at hO
        have hv : ∃ g cap, u7 = .slice (some ⟨g, 0, none⟩) (nums.length + 1) cap ∧ g < wr.heap.size ∧ nums.length + 1 ≤ cap := by
          rcases hO.2 with ⟨e, e0⟩ | ⟨g, cap, cur, e, _, hh, hc, _⟩
          · omega
          · refine ⟨g, cap, e, ?_, hc⟩
            rcases Nat.lt_or_ge g wr.heap.size with hlt | hge
            · exact hlt
            · rw [Array.getElem?_eq_none hge] at hh; cases hh
        obtain ⟨g, cap, rfl, hg1, hcap⟩ := hv
        have hwl : wrd.length ≤ 5 := by rw [← HWL.out]; exact wordB_len _
        have hJ := Tryd.strings_Join g 0 cap ((wrd :: nums.map Lib.itoa).map fun z => (⟨z.toArray⟩ : ByteArray)) ⟨#[32]⟩ wr
          (fun j x hj => by
            have h1 := hO.cells (g := g) rfl j (.string x) (by rw [List.getElem?_map, hj]; rfl)
            unfold Addr.add at h1
            split at h1
            · rename_i hz; subst hz; simpa using h1
            · exact h1)
          hg1 (by simp; omega) (by simpa using hcap)
          (by
            have e : ((wrd :: nums.map Lib.itoa).map fun z => (⟨z.toArray⟩ : ByteArray)).map (·.data.toList) = wrd :: nums.map Lib.itoa := by
              rw [List.map_map]; exact List.map_id _
            rw [e]
            have := join_len_le wrd hwl nums (H64.out)
            have h3 : (⟨#[32]⟩ : ByteArray).data.toList = [32] := rfl
            rw [h3]
            omega)
        have e : ((wrd :: nums.map Lib.itoa).map fun z => (⟨z.toArray⟩ : ByteArray)).map (·.data.toList) = wrd :: nums.map Lib.itoa := by
          rw [List.map_map]; exact List.map_id _
        rw [e] at hJ
        simp only [List.length_map, List.length_cons] at hJ
        rw [← HLn.out] at hJ
        have HJ := Lib.hid hJ
        clear hJ e hwl hO
        have hltz : ¬ (nums.length : Int) < (nums.length : Int) := by omega
        go_wp2_with (go_at_call 32; refine HJ.out.mono ?_; rintro e w2 ⟨rfl, hb2⟩; have HB2 := Lib.hid hb2; clear hb2)
        go_ret
        refine ⟨rfl, ?_⟩
        have h1 := BW.out.trans (HB2.out.mono BW.out.size)
        exact B.out.trans (h1.mono B.out.size)
end Go.Proofs.YthkffcnifhcjoaaDoor
