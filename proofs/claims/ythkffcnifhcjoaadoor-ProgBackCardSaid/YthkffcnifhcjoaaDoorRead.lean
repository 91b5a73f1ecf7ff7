/- What prog.read computes of a line, in plain Lean. -/
import Derived.Test.YthkffcnifhcjoaaDoorLine
import Derived.Lib.AtoiAll
import Derived.Lib.AtoiErrMem
set_option linter.unusedSimpArgs false
set_option linter.unusedVariables false
namespace Go.Proofs.YthkffcnifhcjoaaDoor
open Go.RowKit Go.Sort

/-- A piece as a number. -/
def atoi? (z : List UInt8) : Option Int := match Lib.atoiAll z with | .ok v => some v | _ => none
/-- The kind whose word it is, of so many numbers at least. -/
def kindOk (f0 : List UInt8) (m : Int) (k : Int) : Bool := f0 == wordB k && decide (wordN k ≤ m)
def kindOf (f0 : List UInt8) (m : Int) : Option Int := [1, 2, 3, 4, 5, 6, 7].find? (kindOk f0 m)
/-- The instruction of a kind and numbers. -/
def mkIn (k : Int) (ns : List Int) : In :=
  { k := k, a := if 0 < wordN k then ns.getD 0 0 else 0, b := if 1 < wordN k then ns.getD 1 0 else 0, c := if 2 < wordN k then ns.getD 2 0 else 0, l := if wordL k then ns.drop 2 else [] }
def pieces (s : ByteArray) : List ByteArray := Lib.splitB ⟨#[32]⟩ 0 (Lib.countB s ⟨#[32]⟩) s
def noIn : In := ⟨0, 0, 0, 0, []⟩
/-- prog.read, behind the split. -/
def readP (p0 : ByteArray) (rest : List ByteArray) (s : List UInt8) : In × Bool :=
  match kindOf p0.data.toList (rest.length : Int) with
  | none => (noIn, false)
  | some k =>
    match (rest.map (·.data.toList)).mapM atoi? with
    | none => (noIn, false)
    | some ns => (mkIn k ns, (mkIn k ns).line == s)
/-- prog.read. -/
def readS (s : ByteArray) : In × Bool := readP ((pieces s).headD ⟨#[]⟩) ((pieces s).drop 1) s.data.toList

theorem atoi_some {z : List UInt8} {v : Int} (h : atoi? z = some v) : Lib.atoiAll z = .ok v := by
  unfold atoi? at h
  cases e : Lib.atoiAll z
  · rename_i u
    rw [e] at h; injection h with h; rw [h]
  · rw [e] at h; cases h
  · rw [e] at h; cases h

theorem Atoi_yes (s : ByteArray) (hs : s.size ≤ 100000) (v : Int) (h : atoi? s.data.toList = some v) (w : World) :
    Calls Tryd.prog 34 #[.string s] w fun e w' => e = .returned (.tuple #[.int .i64 v, .nilIface]) ∧ Below w.heap.size w w' :=
  (Tryd.strconv_Atoi_ok s (by omega) v (atoi_some h) w).mono fun e w' ⟨he, hw⟩ => ⟨he, by
    rcases hw with rfl | ⟨t, rfl⟩
    · exact Below.refl _ _
    · exact Lib.bytesWorld_below _ _ _⟩

/-- An error of strconv's: a pointer to a new block. -/
def AnErr (e : Ending) : Prop := ∃ (x : Int) (N : Nat), e = .returned (.tuple #[.int .i64 x, .iface 85 (.pointer (some ⟨N, 0, none⟩))])
theorem Atoi_no (s : ByteArray) (hs : s.size ≤ 100000) (h : atoi? s.data.toList = none) (w : World) (hE : Env w) :
    Calls Tryd.prog 34 #[.string s] w fun e w' => AnErr e ∧ Below w.heap.size w w' := by
  unfold atoi? at h
  cases h1 : Lib.atoiAll s.data.toList
  · rw [h1] at h; cases h
  · obtain ⟨tp, p, hv⟩ := hE.es
    exact (Any.strconv_Atoi_syntax_var Tryd.laysC172 s (by omega) h1 tp p w hv).mono fun e w' ⟨N, he, _, _, hb⟩ => ⟨⟨0, N, he⟩, hb⟩
  · obtain ⟨tp, p, hv⟩ := hE.er
    exact (Tryd.strconv_Atoi_range_var s (by omega) h1 tp p w hv).mono fun e w' ⟨N, he, _, _, hb⟩ => ⟨⟨_, N, he⟩, hb⟩

theorem pieces_len (s : ByteArray) : (pieces s).length = Lib.countB s ⟨#[32]⟩ + 1 := Lib.splitB_all _ (by decide) 0 _ s rfl
theorem pieces_le (s : ByteArray) : (pieces s).length ≤ s.size + 1 := by
  rw [pieces_len]
  have := Lib.countB_le ⟨#[32]⟩ (by decide) s.size s (Nat.le_refl _)
  omega
theorem splitB_sizes (sep : ByteArray) : ∀ (k : Nat) (s : ByteArray), ∀ p ∈ Lib.splitB sep 0 k s, p.size ≤ s.size
  | 0, s, p, hp => by simp [Lib.splitB] at hp; subst hp; omega
  | k + 1, s, p, hp => by
    unfold Lib.splitB at hp
    split at hp
    · simp at hp; subst hp; omega
    · simp only [List.mem_cons] at hp
      rcases hp with rfl | hp
      · simp [ByteArray.size_extract]; omega
      · have := splitB_sizes sep k _ p hp
        simp [ByteArray.size_extract] at this
        omega
theorem pieces_sizes (s : ByteArray) : ∀ p ∈ pieces s, p.size ≤ s.size := splitB_sizes _ _ s

theorem kindOf_none {f0 : List UInt8} {m : Int} (h : ∀ j : Nat, 1 ≤ j → j < 8 → kindOk f0 m j = false) : kindOf f0 m = none := by
  unfold kindOf
  have h1 := h 1 (by omega) (by omega)
  have h2 := h 2 (by omega) (by omega)
  have h3 := h 3 (by omega) (by omega)
  have h4 := h 4 (by omega) (by omega)
  have h5 := h 5 (by omega) (by omega)
  have h6 := h 6 (by omega) (by omega)
  have h7 := h 7 (by omega) (by omega)
  simp only [Int.cast_ofNat_Int] at h1 h2 h3 h4 h5 h6 h7
  simp [List.find?, h1, h2, h3, h4, h5, h6, h7]
theorem kindOf_found {f0 : List UInt8} {m : Int} (k : Nat) (h1 : 1 ≤ k) (h7 : k ≤ 7) (h : ∀ j : Nat, 1 ≤ j → j < k → kindOk f0 m j = false) (hk : kindOk f0 m k = true) : kindOf f0 m = some (k : Int) := by
  unfold kindOf
  have e : k = 1 ∨ k = 2 ∨ k = 3 ∨ k = 4 ∨ k = 5 ∨ k = 6 ∨ k = 7 := by omega
  have g : ∀ j : Nat, 1 ≤ j → j < k → kindOk f0 m (OfNat.ofNat j) = false := h
  rcases e with rfl | rfl | rfl | rfl | rfl | rfl | rfl <;> simp only [Int.cast_ofNat_Int] at hk
  · simp [List.find?, hk]
  · simp [List.find?, hk, show kindOk f0 m 1 = false from h 1 (by omega) (by omega)]
  · simp [List.find?, hk, show kindOk f0 m 1 = false from h 1 (by omega) (by omega), show kindOk f0 m 2 = false from h 2 (by omega) (by omega)]
  · simp [List.find?, hk, show kindOk f0 m 1 = false from h 1 (by omega) (by omega), show kindOk f0 m 2 = false from h 2 (by omega) (by omega), show kindOk f0 m 3 = false from h 3 (by omega) (by omega)]
  · simp [List.find?, hk, show kindOk f0 m 1 = false from h 1 (by omega) (by omega), show kindOk f0 m 2 = false from h 2 (by omega) (by omega), show kindOk f0 m 3 = false from h 3 (by omega) (by omega), show kindOk f0 m 4 = false from h 4 (by omega) (by omega)]
  · simp [List.find?, hk, show kindOk f0 m 1 = false from h 1 (by omega) (by omega), show kindOk f0 m 2 = false from h 2 (by omega) (by omega), show kindOk f0 m 3 = false from h 3 (by omega) (by omega), show kindOk f0 m 4 = false from h 4 (by omega) (by omega), show kindOk f0 m 5 = false from h 5 (by omega) (by omega)]
  · simp [List.find?, hk, show kindOk f0 m 1 = false from h 1 (by omega) (by omega), show kindOk f0 m 2 = false from h 2 (by omega) (by omega), show kindOk f0 m 3 = false from h 3 (by omega) (by omega), show kindOk f0 m 4 = false from h 4 (by omega) (by omega), show kindOk f0 m 5 = false from h 5 (by omega) (by omega), show kindOk f0 m 6 = false from h 6 (by omega) (by omega)]

theorem mapM_len {α β : Type} (f : α → Option β) : ∀ (l : List α) (r : List β), l.mapM f = some r → r.length = l.length
  | [], r, h => by simp at h; subst h; rfl
  | x :: l, r, h => by
    simp only [List.mapM_cons, Option.bind_eq_bind, Option.bind_eq_some_iff, Option.pure_def, Option.some.injEq] at h
    obtain ⟨y, _, ys, hys, rfl⟩ := h
    simp [mapM_len f l ys hys]
theorem mapM_snoc {α β : Type} (f : α → Option β) (l : List α) (x : α) (r : List β) (y : β) (h : l.mapM f = some r) (hx : f x = some y) : (l ++ [x]).mapM f = some (r ++ [y]) := by
  rw [List.mapM_append, h]
  simp [hx]
theorem mapM_none {α β : Type} (f : α → Option β) (l : List α) (x : α) (hm : x ∈ l) (hx : f x = none) : l.mapM f = none := by
  induction l with
  | nil => cases hm
  | cons a l ih =>
    rw [List.mapM_cons]
    rcases List.mem_cons.1 hm with rfl | hm
    · simp [hx]
    · rw [ih hm]
      cases f a <;> rfl

theorem atoi_I64 {z : List UInt8} {v : Int} (h : atoi? z = some v) : I64 v := by
  have h := atoi_some h
  unfold Lib.atoiAll at h
  cases z with
  | nil => cases h
  | cons c r =>
    dsimp only at h
    split at h
    · cases h
    · cases h
    · rename_i u _
      split at h
      · cases h
      · split at h
        · cases h
        · injection h with h
          subst h
          unfold I64
          split <;> omega
theorem mapM_mem {α β : Type} (f : α → Option β) : ∀ (l : List α) (r : List β), l.mapM f = some r → ∀ y ∈ r, ∃ x ∈ l, f x = some y
  | [], r, h, y, hy => by simp at h; subst h; cases hy
  | a :: l, r, h, y, hy => by
    simp only [List.mapM_cons, Option.bind_eq_bind, Option.bind_eq_some_iff, Option.pure_def, Option.some.injEq] at h
    obtain ⟨b, hb, ys, hys, rfl⟩ := h
    rcases List.mem_cons.1 hy with rfl | hy
    · exact ⟨a, by simp, hb⟩
    · obtain ⟨x, hx, e⟩ := mapM_mem f l ys hys y hy
      exact ⟨x, by simp [hx], e⟩
theorem getD_I64 {ns : List Int} (h : ∀ n ∈ ns, I64 n) (j : Nat) : I64 (ns.getD j 0) := by
  unfold List.getD
  cases e : ns[j]? with
  | none => exact ⟨by simp, by simp⟩
  | some x => exact h x (List.mem_of_getElem? e)
theorem mkIn_I64s {k : Int} {ns : List Int} (hk : I64 k) (h : ∀ n ∈ ns, I64 n) : (mkIn k ns).I64s := by
  have h0 : I64 0 := ⟨by decide, by decide⟩
  refine ⟨hk, ?_, ?_, ?_, ?_⟩
  · unfold mkIn; dsimp only; split
    · exact getD_I64 h 0
    · exact h0
  · unfold mkIn; dsimp only; split
    · exact getD_I64 h 1
    · exact h0
  · unfold mkIn; dsimp only; split
    · exact getD_I64 h 2
    · exact h0
  · unfold mkIn; dsimp only; split
    · intro n hn; exact h n (List.mem_of_mem_drop hn)
    · intro n hn; cases hn
theorem mkIn_len (k : Int) (ns : List Int) : (mkIn k ns).l.length ≤ ns.length := by
  unfold mkIn
  dsimp only
  split
  · rw [List.length_drop]; omega
  · simp
theorem len_two {l : List Int} (h : l.length = 2) : ∃ a b, l = [a, b] := by
  match l, h with
  | [a, b], _ => exact ⟨a, b, rfl⟩
theorem wordL_N {k : Int} (h : wordL k = true) : wordN k = 2 := by
  unfold wordL at h
  have : k = 4 := of_decide_eq_true h
  subst this
  rfl
theorem mk_A {k v : Int} (hn : 0 < wordN k) : mkIn k ([] ++ [v]) = { mkIn k [] with a := v } := by
  unfold mkIn
  simp [hn]
theorem mk_B {k v n0 : Int} (hn : 1 < wordN k) : mkIn k ([n0] ++ [v]) = { mkIn k [n0] with b := v } := by
  unfold mkIn
  simp [hn]
theorem mk_C {k v n0 n1 : Int} (hn : 2 < wordN k) : mkIn k ([n0, n1] ++ [v]) = { mkIn k [n0, n1] with c := v } := by
  have hl : wordL k = false := by
    cases h : wordL k with
    | false => rfl
    | true => have := wordL_N h; omega
  unfold mkIn
  simp [hn, hl]
theorem getD_snoc (ns : List Int) (v : Int) (j : Nat) (h : j < ns.length) : (ns ++ [v]).getD j 0 = ns.getD j 0 := by
  simp [List.getD, List.getElem?_append_left h]
theorem mk_D {k v : Int} {ns : List Int} (hl : wordL k = true) (h2 : 2 ≤ ns.length) : mkIn k (ns ++ [v]) = { mkIn k ns with l := (mkIn k ns).l ++ [v] } := by
  have hn := wordL_N hl
  unfold mkIn
  rw [getD_snoc ns v 0 (by omega), getD_snoc ns v 1 (by omega)]
  simp only [hn, hl, if_true]
  rw [List.drop_append_of_le_length h2]
  simp
theorem mk_E {k v : Int} {ns : List Int} (hl : wordL k = false) (h0 : ns.length = 0 → wordN k ≤ 0) (h1 : ns.length = 1 → wordN k ≤ 1) (h2 : ns.length = 2 → wordN k ≤ 2) : mkIn k (ns ++ [v]) = mkIn k ns := by
  have hb := wordN_bd k
  have e : ∀ j : Nat, (j : Int) < wordN k → (ns.length = j → wordN k ≤ j) → (ns ++ [v]).getD j 0 = ns.getD j 0 := by
    intro j hj hne
    rcases Nat.lt_trichotomy j ns.length with h | h | h
    · exact getD_snoc ns v j h
    · have := hne h.symm; omega
    · unfold List.getD
      rw [List.getElem?_eq_none (by simp; omega), List.getElem?_eq_none (by omega)]
  unfold mkIn
  simp only [hl]
  congr 1
  · split
    · exact e 0 (by assumption) h0
    · rfl
  · split
    · exact e 1 (by assumption) h1
    · rfl
  · split
    · exact e 2 (by assumption) h2
    · rfl

theorem Split_any (s : ByteArray) (hs : s.size ≤ 100000) (w : World) (hE : Env w) : ∃ p0 rest, pieces s = p0 :: rest ∧
    Calls Tryd.prog 33 #[.string s, .string ⟨#[32]⟩] w fun e w' => e = .returned (.slice (some ⟨w.heap.size, 0, none⟩) (rest.length + 1) (rest.length + 1)) ∧ w' = w.alloc (.cells ((p0 :: rest).map Value.string).toArray 9) := by
  have h := Tryd.strings_Split_shaped s ⟨#[32]⟩ w hE.sh (by omega) (by decide)
  rw [← pieces_len s] at h
  change Calls _ _ _ _ (fun e w' => _ ∧ w' = w.alloc (.cells ((pieces s).map Value.string).toArray _)) at h
  have hl := pieces_len s
  cases e : pieces s with
  | nil => rw [e] at hl; simp at hl
  | cons p0 rest => exact ⟨p0, rest, rfl, by rw [e] at h; exact h⟩
end Go.Proofs.YthkffcnifhcjoaaDoor
