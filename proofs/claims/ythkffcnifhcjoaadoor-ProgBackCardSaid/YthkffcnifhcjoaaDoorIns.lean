/- What a slice of instructions reads as. -/
import Derived.Test.YthkffcnifhcjoaaDoorMayJ
set_option linter.unusedSimpArgs false
set_option linter.unusedVariables false
namespace Go.Proofs.YthkffcnifhcjoaaDoor
open Go.RowKit Go.Sort

/-- An instruction's cells, its list's slice given. -/
def insCells (x : In) (p : Option Addr × Nat) : List Value := [.int .i64 x.k, .int .i64 x.a, .int .i64 x.b, .int .i64 x.c, .slice p.1 x.l.length p.2]
def flatI : List In → List (Option Addr × Nat) → List Value
  | x :: xs, p :: ps => insCells x p ++ flatI xs ps
  | _, _ => []
theorem flatI_len : ∀ (xs : List In) (ps : List (Option Addr × Nat)), ps.length = xs.length → (flatI xs ps).length = xs.length * 5
  | [], [], _ => rfl
  | x :: xs, p :: ps, h => by
    simp only [flatI, List.length_append, List.length_cons]
    have := flatI_len xs ps (by simpa using h)
    rw [this]
    simp [insCells]
    omega
theorem flatI_get : ∀ (xs : List In) (ps : List (Option Addr × Nat)) (k : Nat) (x : In) (p : Option Addr × Nat), xs[k]? = some x → ps[k]? = some p → ∀ i, i < 5 → (flatI xs ps)[k * 5 + i]? = (insCells x p)[i]?
  | x :: xs, p :: ps, 0, y, q, hx, hp, i, hi => by
    simp at hx hp
    subst hx hp
    simp only [flatI]
    rw [List.getElem?_append_left (by simp [insCells]; omega)]
    simp
  | x :: xs, p :: ps, k + 1, y, q, hx, hp, i, hi => by
    simp only [flatI]
    rw [List.getElem?_append_right (by simp [insCells]; omega)]
    have := flatI_get xs ps k y q (by simpa using hx) (by simpa using hp) i hi
    rw [← this]
    congr 1
    simp [insCells]
    omega
  | [], _, _, _, _, hx, _, _, _ => by simp at hx
  | _ :: _, [], _, _, _, _, hp, _, _ => by simp at hp
theorem flatI_snoc : ∀ (xs : List In) (ps : List (Option Addr × Nat)) (x : In) (p : Option Addr × Nat), ps.length = xs.length → flatI (xs ++ [x]) (ps ++ [p]) = flatI xs ps ++ insCells x p
  | [], [], x, p, _ => by simp [flatI]
  | y :: xs, q :: ps, x, p, h => by
    simp only [List.cons_append, flatI, List.append_assoc]
    rw [flatI_snoc xs ps x p (by simpa using h)]
theorem flatI_append : ∀ (xs : List In) (ps : List (Option Addr × Nat)) (ys : List In) (qs : List (Option Addr × Nat)), ps.length = xs.length → flatI (xs ++ ys) (ps ++ qs) = flatI xs ps ++ flatI ys qs
  | [], [], ys, qs, _ => by simp [flatI]
  | y :: xs, q :: ps, ys, qs, h => by
    simp only [List.cons_append, flatI, List.append_assoc]
    rw [flatI_append xs ps ys qs (by simpa using h)]
theorem flatI_one : ∀ (xs : List In) (ps : List (Option Addr × Nat)), ∀ u ∈ flatI xs ps, u.oneCell' = true
  | [], _, u, h => by simp [flatI] at h
  | _ :: _, [], u, h => by simp [flatI] at h
  | x :: xs, p :: ps, u, h => by
    simp only [flatI, List.mem_append] at h
    rcases h with h | h
    · simp [insCells] at h
      rcases h with rfl | rfl | rfl | rfl | rfl <;> rfl
    · exact flatI_one xs ps u h

/-- The lists of instructions read as they should, below block B. -/
def Lists (w : World) (B : Nat) : List In → List (Option Addr × Nat) → Prop
  | x :: xs, p :: ps => Reads w B 1 p.1 x.l.length (x.l.map (Value.int .i64)) ∧ Lists w B xs ps
  | [], [] => True
  | _, _ => False
theorem Lists.len {w : World} {B : Nat} : ∀ {xs : List In} {ps : List (Option Addr × Nat)}, Lists w B xs ps → ps.length = xs.length
  | [], [], _ => rfl
  | x :: xs, p :: ps, h => by simp [Lists.len h.2]
  | [], _ :: _, h => h.elim
  | _ :: _, [], h => h.elim
theorem Lists.get {w : World} {B : Nat} : ∀ {xs : List In} {ps : List (Option Addr × Nat)}, Lists w B xs ps → ∀ (k : Nat) (x : In) (p : Option Addr × Nat), xs[k]? = some x → ps[k]? = some p → Reads w B 1 p.1 x.l.length (x.l.map (Value.int .i64))
  | x :: xs, p :: ps, h, 0, y, q, hx, hp => by simp at hx hp; subst hx hp; exact h.1
  | x :: xs, p :: ps, h, k + 1, y, q, hx, hp => h.2.get k y q (by simpa using hx) (by simpa using hp)
  | [], [], _, k, _, _, hx, _ => by simp at hx
theorem Lists.map {w w' : World} {B B' : Nat} (f : ∀ (A : Option Addr) (l : List Int), Reads w B 1 A l.length (l.map (Value.int .i64)) → Reads w' B' 1 A l.length (l.map (Value.int .i64))) :
    ∀ {xs : List In} {ps : List (Option Addr × Nat)}, Lists w B xs ps → Lists w' B' xs ps
  | [], [], _ => trivial
  | x :: xs, p :: ps, h => ⟨f _ _ h.1, Lists.map f h.2⟩
theorem Lists.snoc {w : World} {B : Nat} : ∀ {xs : List In} {ps : List (Option Addr × Nat)} {x : In} {p : Option Addr × Nat}, Lists w B xs ps → Reads w B 1 p.1 x.l.length (x.l.map (Value.int .i64)) → Lists w B (xs ++ [x]) (ps ++ [p])
  | [], [], x, p, _, h => ⟨h, trivial⟩
  | y :: xs, q :: ps, x, p, h, hx => ⟨h.1, h.2.snoc hx⟩
theorem Lists.append {w : World} {B : Nat} : ∀ {xs : List In} {ps : List (Option Addr × Nat)} {ys : List In} {qs : List (Option Addr × Nat)}, Lists w B xs ps → Lists w B ys qs → Lists w B (xs ++ ys) (ps ++ qs)
  | [], [], _, _, _, h => h
  | y :: xs, q :: ps, ys, qs, h, hx => ⟨h.1, h.2.append hx⟩
theorem Lists.at_ {w : World} {B : Nat} {xs : List In} {ps : List (Option Addr × Nat)} (h : Lists w B xs ps) {k : Nat} {x : In} (hx : xs[k]? = some x) : ∃ p, ps[k]? = some p := by
  have := h.len
  obtain ⟨hk, _⟩ := List.getElem?_eq_some_iff.1 hx
  exact ⟨ps[k]'(by omega), List.getElem?_eq_getElem (by omega)⟩

/-- The slice of address A holds the instructions xs, below block B. -/
def InsAt (w : World) (B : Nat) (A : Option Addr) (xs : List In) : Prop := ∃ ps, Lists w B xs ps ∧ Reads w B 5 A xs.length (flatI xs ps)
theorem InsAt.keep {w w' : World} {B : Nat} {A : Option Addr} {xs : List In} (h : InsAt w B A xs) (hk : ∀ p : Addr, p.block < B → w'.cell? p = w.cell? p) : InsAt w' B A xs := by
  obtain ⟨ps, h1, h2⟩ := h
  exact ⟨ps, h1.map (fun _ _ h => h.keep hk), h2.keep hk⟩
theorem InsAt.more {w : World} {B B' : Nat} {A : Option Addr} {xs : List In} (h : InsAt w B A xs) (hB : B ≤ B') : InsAt w B' A xs := by
  obtain ⟨ps, h1, h2⟩ := h
  exact ⟨ps, h1.map (fun _ _ h => h.more hB), h2.more hB⟩
theorem InsAt.below {w w' : World} {B : Nat} {A : Option Addr} {xs : List In} (h : InsAt w B A xs) (hb : Below B w w') : InsAt w' B A xs := h.keep fun _ hp => hb.cell hp
theorem InsAt.next {w w' : World} {A : Option Addr} {xs : List In} (h : InsAt w w.heap.size A xs) (hb : Below w.heap.size w w') : InsAt w' w'.heap.size A xs := (h.below hb).more hb.size
theorem InsAt.nil (w : World) (B : Nat) (A : Option Addr) : InsAt w B A [] := ⟨[], trivial, ⟨rfl, fun h => absurd h (by simp)⟩⟩

/-- The cells of instruction k. -/
theorem InsAt.get {w : World} {B : Nat} {A : Option Addr} {xs : List In} (h : InsAt w B A xs) {k : Nat} {x : In} (hx : xs[k]? = some x) :
    ∃ b o A' c', A = some ⟨b, o, none⟩ ∧ b < B ∧ Reads w B 1 A' x.l.length (x.l.map (Value.int .i64)) ∧
      w.cell? ⟨b, o + k * 5, none⟩ = some (.int .i64 x.k) ∧ w.cell? ⟨b, o + k * 5 + 1, none⟩ = some (.int .i64 x.a) ∧ w.cell? ⟨b, o + k * 5 + 2, none⟩ = some (.int .i64 x.b) ∧
      w.cell? ⟨b, o + k * 5 + 3, none⟩ = some (.int .i64 x.c) ∧ w.cell? ⟨b, o + k * 5 + 4, none⟩ = some (.slice A' x.l.length c') := by
  obtain ⟨ps, h1, h2⟩ := h
  obtain ⟨p, hp⟩ := h1.at_ hx
  obtain ⟨hk, _⟩ := List.getElem?_eq_some_iff.1 hx
  obtain ⟨ad, hA, hb, hc⟩ := h2.2 (by omega)
  have hg := flatI_get xs ps k x p hx hp
  have hfl := flatI_len xs ps h1.len
  have h0 := hc 0 _ (List.getElem?_eq_getElem (by omega))
  have hs := cell_spot h0
  obtain ⟨b, o, s⟩ := ad
  simp only [Addr.add, if_true] at hs
  subst hs
  have hcell : ∀ i u, i < 5 → (insCells x p)[i]? = some u → w.cell? ⟨b, o + (k * 5 + i), none⟩ = some u := by
    intro i u hi hu
    have := hc (k * 5 + i) u (by rw [hg i hi]; exact hu)
    unfold Addr.add at this
    split at this
    · rename_i hz; rw [hz]; exact this
    · exact this
  refine ⟨b, o, p.1, p.2, hA, hb, h1.get k x p hx hp, ?_, ?_, ?_, ?_, ?_⟩
  · exact hcell 0 _ (by omega) rfl
  · exact hcell 1 _ (by omega) rfl
  · exact hcell 2 _ (by omega) rfl
  · exact hcell 3 _ (by omega) rfl
  · exact hcell 4 _ (by omega) rfl
end Go.Proofs.YthkffcnifhcjoaaDoor
