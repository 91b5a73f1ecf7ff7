/- A line that an instruction is written as is read as that instruction, what its word does not name being 0: in plain Lean. -/
import Derived.Test.YthkffcnifhcjoaaDoorParse
import Derived.Lib.SplitLaws
set_option linter.unusedSimpArgs false
set_option linter.unusedVariables false
namespace Go.Proofs.YthkffcnifhcjoaaDoor
open Go.RowKit Go.Sort

/-! ### numerals -/
theorem digit_byte {u : Nat} (h : u < 10) : (UInt8.ofNat (48 + u)).toNat = 48 + u := by
  rw [UInt8.toNat_ofNat']
  omega
theorem parse_dec : ∀ (n u : Nat) (r : List UInt8), u ≤ n → u < 18446744073709551616 → Lib.parseUint10 0 (Lib.decDigits u ++ r) = Lib.parseUint10 u r := by
  intro n
  induction n with
  | zero =>
    intro u r hu h
    have : u = 0 := by omega
    subst this
    rw [Lib.decDigits, dif_pos (by omega)]
    simp only [List.cons_append, List.nil_append, Lib.parseUint10]
    rw [digit_byte (by omega)]
    simp
  | succ n ih =>
    intro u r hu h
    rw [Lib.decDigits]
    split
    · rename_i h10
      simp only [List.cons_append, List.nil_append, Lib.parseUint10]
      rw [digit_byte h10, if_pos (by omega), if_neg (by omega), if_neg (by omega)]
      congr 1
      omega
    · rename_i h10
      rw [List.append_assoc, ih (u / 10) _ (by omega) (by omega)]
      simp only [List.cons_append, List.nil_append, Lib.parseUint10]
      rw [digit_byte (by omega), if_pos (by omega), if_neg (by omega), if_neg (by omega)]
      congr 1
      omega
theorem dec_bytes : ∀ (n u : Nat), u ≤ n → Lib.decDigits u ≠ [] ∧ ∀ b ∈ Lib.decDigits u, 48 ≤ b.toNat ∧ b.toNat ≤ 57 := by
  intro n
  induction n with
  | zero =>
    intro u hu
    have : u = 0 := by omega
    subst this
    rw [Lib.decDigits, dif_pos (by omega)]
    refine ⟨by simp, fun b hb => ?_⟩
    simp only [List.mem_singleton] at hb
    subst hb
    rw [digit_byte (by omega)]
    omega
  | succ n ih =>
    intro u hu
    rw [Lib.decDigits]
    split
    · rename_i h10
      refine ⟨by simp, fun b hb => ?_⟩
      simp only [List.mem_singleton] at hb
      subst hb
      rw [digit_byte h10]
      omega
    · rename_i h10
      refine ⟨by simp, fun b hb => ?_⟩
      rcases List.mem_append.1 hb with hb | hb
      · exact (ih (u / 10) (by omega)).2 b hb
      · simp only [List.mem_singleton] at hb
        subst hb
        rw [digit_byte (by omega)]
        omega
theorem mag_dec (u : Nat) (h : u < 18446744073709551616) : Lib.parseMag (Lib.decDigits u) = .ok u := by
  unfold Lib.parseMag
  rw [if_neg (dec_bytes u u (Nat.le_refl _)).1]
  have := parse_dec u u [] (Nat.le_refl _) h
  rw [List.append_nil] at this
  rw [this]
  rfl
theorem atoi_itoa (n : Int) (h : I64 n) : atoi? (Lib.itoa n) = some n := by
  obtain ⟨h1, h2⟩ := h
  by_cases hn : n < 0
  · have hi : Lib.itoa n = 45 :: Lib.decDigits n.natAbs := by unfold Lib.itoa; rw [if_pos hn]
    have e : Lib.atoiAll (45 :: Lib.decDigits n.natAbs) = .ok n := by
      unfold Lib.atoiAll
      have e45 : (45 : UInt8).toNat = 45 := rfl
      simp only [e45, or_true, if_true, mag_dec n.natAbs (by omega), not_true, false_and, if_false, true_and]
      rw [if_neg (by omega)]
      congr 1
      omega
    unfold atoi?
    rw [hi, e]
  · have hi : Lib.itoa n = Lib.decDigits n.toNat := by unfold Lib.itoa; rw [if_neg hn]
    have hd := dec_bytes n.toNat n.toNat (Nat.le_refl _)
    have hm := mag_dec n.toNat (by omega)
    cases hl : Lib.decDigits n.toNat with
    | nil => exact absurd hl hd.1
    | cons c r =>
      have hc := hd.2 c (by rw [hl]; simp)
      rw [hl] at hm
      have n1 : ¬ c.toNat = 43 := by omega
      have n2 : ¬ c.toNat = 45 := by omega
      have e : Lib.atoiAll (c :: r) = .ok n := by
        unfold Lib.atoiAll
        simp only [n1, n2, or_self, if_false, hm, not_false_iff, true_and, false_and]
        rw [if_neg (by omega)]
        congr 1
        omega
      unfold atoi?
      rw [hi, hl, e]
theorem itoa_no32 (n : Int) : (32 : UInt8) ∉ Lib.itoa n := by
  intro hm
  have e32 : (32 : UInt8).toNat = 32 := rfl
  unfold Lib.itoa at hm
  split at hm
  · rcases List.mem_cons.1 hm with h | h
    · exact absurd h (by decide)
    · have := (dec_bytes _ _ (Nat.le_refl _)).2 _ h
      omega
  · have := (dec_bytes _ _ (Nat.le_refl _)).2 _ hm
    omega
theorem word_no32 (k : Int) : (32 : UInt8) ∉ wordB k := by
  unfold wordB
  repeat' split
  all_goals decide
theorem nums_atoi : ∀ (l : List Int), (∀ n ∈ l, I64 n) → (l.map Lib.itoa).mapM atoi? = some l
  | [], _ => rfl
  | n :: l, h => by
    rw [List.map_cons, List.mapM_cons, atoi_itoa n (h n (by simp)), nums_atoi l (fun m hm => h m (by simp [hm]))]
    rfl

/-! ### pieces -/
theorem index_miss32 : ∀ (x : List UInt8), (32 : UInt8) ∉ x → Lib.index x [32] = -1
  | [], _ => rfl
  | b :: l, h => by
    have h1 : b ≠ 32 := fun e => h (by simp [e])
    have h2 := index_miss32 l (fun e => h (by simp [e]))
    have hp : ([32] : List UInt8).isPrefixOf (b :: l) = false := by simp [List.isPrefixOf, Ne.symm h1]
    rw [Lib.index, hp, h2]
    rfl
theorem index_hit32 : ∀ (x t : List UInt8), (32 : UInt8) ∉ x → Lib.index (x ++ 32 :: t) [32] = x.length
  | [], t, _ => by simp [Lib.index, List.isPrefixOf]
  | b :: l, t, h => by
    have h1 : b ≠ 32 := fun e => h (by simp [e])
    have h2 := index_hit32 l t (fun e => h (by simp [e]))
    have hp : ([32] : List UInt8).isPrefixOf (b :: (l ++ 32 :: t)) = false := by simp [List.isPrefixOf, Ne.symm h1]
    rw [List.cons_append, Lib.index, hp, h2]
    have : ((l.length : Int) == -1) = false := by
      rw [beq_eq_false_iff_ne]
      omega
    rw [this]
    simp
theorem tail32 (y : List UInt8) (r : List (List UInt8)) : Lib.joinTail [32] (y :: r) = 32 :: (y ++ Lib.joinTail [32] r) := by
  simp [Lib.joinTail]
theorem splitK_join : ∀ (rest : List (List UInt8)) (x : List UInt8) (k : Nat), (32 : UInt8) ∉ x → (∀ y ∈ rest, (32 : UInt8) ∉ y) → rest.length ≤ k → Lib.splitK [32] 0 k (x ++ Lib.joinTail [32] rest) = x :: rest
  | [], x, k, hx, _, _ => by
    have e : x ++ Lib.joinTail [32] [] = x := by simp [Lib.joinTail]
    rw [e]
    cases k with
    | zero => rfl
    | succ k => rw [Lib.splitK, if_pos (by rw [index_miss32 x hx]; rfl)]
  | y :: rest, x, 0, _, _, hk => by simp at hk
  | y :: rest, x, k + 1, hx, hr, hk => by
    rw [tail32, Lib.splitK, index_hit32 x _ hx]
    have : ((x.length : Int) == -1) = false := by
      rw [beq_eq_false_iff_ne]
      omega
    rw [this]
    simp only [Bool.false_eq_true, if_false, Int.toNat_natCast, Nat.add_zero, List.length_cons, List.length_nil]
    rw [List.take_left' rfl]
    have hd : (x ++ 32 :: (y ++ Lib.joinTail [32] rest)).drop (x.length + (0 + 1)) = y ++ Lib.joinTail [32] rest := by
      rw [List.drop_append]
      simp
    rw [hd, splitK_join rest y k (hr y (by simp)) (fun z hz => hr z (by simp [hz])) (by simpa using hk)]
theorem count_tail : ∀ (rest : List (List UInt8)), rest.length ≤ (Lib.joinTail [32] rest).count 32
  | [] => Nat.le_refl _
  | y :: rest => by
    rw [tail32, List.count_cons_self, List.count_append, List.length_cons]
    have := count_tail rest
    omega
theorem pieces_join (x : List UInt8) (rest : List (List UInt8)) (hx : (32 : UInt8) ∉ x) (hr : ∀ y ∈ rest, (32 : UInt8) ∉ y) :
    (pieces ⟨(Lib.join (x :: rest) [32]).toArray⟩).map (·.data.toList) = x :: rest := by
  unfold pieces
  rw [Lib.splitB_data]
  have e : (⟨(Lib.join (x :: rest) [32]).toArray⟩ : ByteArray).data.toList = x ++ Lib.joinTail [32] rest := by rw [← Lib.join_cons]
  have e2 : (⟨#[32]⟩ : ByteArray).data.toList = [32] := rfl
  unfold Lib.countB
  rw [e, e2, Lib.count_one]
  refine splitK_join rest x _ hx hr ?_
  rw [List.count_append]
  have := count_tail rest
  omega

/-! ### lines -/
/-- The instruction that a line names. -/
def canon (x : In) : In := mkIn x.k x.nums
def Kind (k : Int) : Prop := 1 ≤ k ∧ k ≤ 7
theorem kind_cases {k : Int} (h : Kind k) : k = 1 ∨ k = 2 ∨ k = 3 ∨ k = 4 ∨ k = 5 ∨ k = 6 ∨ k = 7 := by
  obtain ⟨h1, h2⟩ := h
  omega
theorem nums_len (x : In) : wordN x.k ≤ (x.nums.length : Int) := by
  have := wordN_bd x.k
  unfold In.nums
  rw [List.length_append, List.length_take]
  simp only [List.length_cons, List.length_nil]
  omega
theorem kindOf_word {k m : Int} (h : Kind k) (hm : wordN k ≤ m) : kindOf (wordB k) m = some k := by
  have hk : kindOk (wordB k) m k = true := by
    unfold kindOk
    rw [decide_eq_true hm]
    simp
  have hno : ∀ j : Int, wordB k ≠ wordB j → kindOk (wordB k) m j = false := by
    intro j hj
    unfold kindOk
    rw [beq_eq_false_iff_ne.2 hj]
    rfl
  rcases kind_cases h with rfl | rfl | rfl | rfl | rfl | rfl | rfl
  · exact kindOf_found 1 (by omega) (by omega) (fun j h1 h2 => by omega) hk
  · exact kindOf_found 2 (by omega) (by omega) (fun j h1 h2 => hno j (by have : j = 1 := by omega
                                                                         subst this; decide)) hk
  · exact kindOf_found 3 (by omega) (by omega) (fun j h1 h2 => hno j (by have : j = 1 ∨ j = 2 := by omega
                                                                         rcases this with rfl | rfl <;> decide)) hk
  · exact kindOf_found 4 (by omega) (by omega) (fun j h1 h2 => hno j (by have : j = 1 ∨ j = 2 ∨ j = 3 := by omega
                                                                         rcases this with rfl | rfl | rfl <;> decide)) hk
  · exact kindOf_found 5 (by omega) (by omega) (fun j h1 h2 => hno j (by have : j = 1 ∨ j = 2 ∨ j = 3 ∨ j = 4 := by omega
                                                                         rcases this with rfl | rfl | rfl | rfl <;> decide)) hk
  · exact kindOf_found 6 (by omega) (by omega) (fun j h1 h2 => hno j (by have : j = 1 ∨ j = 2 ∨ j = 3 ∨ j = 4 ∨ j = 5 := by omega
                                                                         rcases this with rfl | rfl | rfl | rfl | rfl <;> decide)) hk
  · exact kindOf_found 7 (by omega) (by omega) (fun j h1 h2 => hno j (by have : j = 1 ∨ j = 2 ∨ j = 3 ∨ j = 4 ∨ j = 5 ∨ j = 6 := by omega
                                                                         rcases this with rfl | rfl | rfl | rfl | rfl | rfl <;> decide)) hk
theorem canon_nums {x : In} (h : Kind x.k) : (canon x).nums = x.nums := by
  obtain ⟨k, a, b, c, l⟩ := x
  rcases kind_cases h with e | e | e | e | e | e | e <;> simp only at e <;> subst e <;> rfl
theorem canon_k (x : In) : (canon x).k = x.k := rfl
theorem canon_line {x : In} (h : Kind x.k) : (canon x).line = x.line := by
  unfold In.line
  rw [canon_nums h, canon_k]
theorem read_line {x : In} (h : Kind x.k) (h64 : x.I64s) : readS ⟨x.line.toArray⟩ = (canon x, true) := by
  have hp : (pieces ⟨x.line.toArray⟩).map (·.data.toList) = wordB x.k :: x.nums.map Lib.itoa := by
    refine pieces_join _ _ (word_no32 _) (fun y hy => ?_)
    obtain ⟨n, _, rfl⟩ := List.mem_map.1 hy
    exact itoa_no32 n
  unfold readS
  cases hpp : pieces ⟨x.line.toArray⟩ with
  | nil => rw [hpp] at hp; cases hp
  | cons p0 rest =>
    rw [hpp] at hp
    simp only [List.map_cons, List.cons.injEq] at hp
    obtain ⟨hp0, hpr⟩ := hp
    have hrl : rest.length = x.nums.length := by
      have := congrArg List.length hpr
      simpa using this
    simp only [List.headD_cons, List.drop_succ_cons, List.drop_zero]
    unfold readP
    rw [hp0, hrl, kindOf_word h (nums_len x)]
    simp only
    rw [hpr, nums_atoi _ (In.nums_I64 h64)]
    simp only
    have hc : mkIn x.k x.nums = canon x := rfl
    rw [hc, canon_line h]
    simp
theorem parse_lines : ∀ (xs : List In), (∀ x ∈ xs, Kind x.k ∧ x.I64s) → parseS (xs.map fun x => ⟨x.line.toArray⟩) = some (xs.map canon)
  | [], _ => rfl
  | x :: xs, h => by
    obtain ⟨h1, h2⟩ := h x (by simp)
    simp only [List.map_cons, parseS]
    rw [read_line h1 h2, parse_lines xs (fun y hy => h y (by simp [hy]))]
    rfl
/-- What is read is small. -/
theorem parse_small : ∀ {ss : List ByteArray} {xs : List In} {M : Nat}, parseS ss = some xs → (∀ s ∈ ss, s.size ≤ M) → ∀ x ∈ xs, x.l.length ≤ M
  | [], xs, M, h, _, x, hx => by simp [parseS] at h; subst h; cases hx
  | s :: ss, xs, M, h, hs, x, hx => by
    simp only [parseS] at h
    split at h
    · rename_i hok
      obtain ⟨ys, hy, rfl⟩ := Option.map_eq_some_iff.1 h
      rcases List.mem_cons.1 hx with rfl | hx
      · have hle := pieces_le s
        have hsz := hs s (by simp)
        unfold readS readP at hok ⊢
        split
        · simp [noIn]
        · split
          · simp [noIn]
          · rename_i ns hns
            have h1 := mapM_len _ _ _ hns
            have h2 := mkIn_len (by assumption) ns
            simp only [List.length_map, List.length_drop] at h1
            refine Nat.le_trans h2 ?_
            omega
      · exact parse_small hy (fun t ht => hs t (by simp [ht])) x hx
    · cases h
end Go.Proofs.YthkffcnifhcjoaaDoor
