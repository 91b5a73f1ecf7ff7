/- A program that the call itself has made: its row, its lists, and what an append or a store of one instruction makes of it. -/
import Derived.Test.YthkffcnifhcjoaaDoorParse
set_option linter.unusedSimpArgs false
set_option linter.unusedVariables false
namespace Go.Proofs.YthkffcnifhcjoaaDoor
open Go.RowKit Go.Sort

/-- What is parsed reads as instructions. -/
theorem own_ins {w : World} {B : Nat} {v : Value} {xs : List In} {ps : List (Option Addr × Nat)} (h : w.ownsRow B 26 5 v xs.length (flatI xs ps)) (hL : ListsO w B xs ps) :
    ∃ A c, v = .slice A xs.length c ∧ InsAt w w.heap.size A xs := by
  by_cases hn : 0 < xs.length
  · obtain ⟨g, c, rfl⟩ := own_form h hn
    exact ⟨_, c, rfl, ps, hL.lists, Reads.of_own h⟩
  · rcases h.2 with ⟨rfl, e⟩ | ⟨g, c, cur, rfl, _⟩
    · have : xs = [] := List.length_eq_zero_iff.1 (by omega)
      subst this
      exact ⟨none, 0, rfl, InsAt.nil _ _ _⟩
    · exact ⟨_, c, rfl, ps, hL.lists, Reads.of_own h⟩

theorem set_right {α : Type} (s t : List α) (i j : Nat) (x : α) (h : i = s.length + j) : (s ++ t).set i x = s ++ t.set j x := by
  subst h
  rw [List.set_append_right _ _ (by omega)]
  congr 2
  omega
theorem flatI_set : ∀ (xs : List In) (ps : List (Option Addr × Nat)) (k : Nat) (x : In) (p : Option Addr × Nat), ps.length = xs.length → k < xs.length →
    (((((flatI xs ps).set (k * 5) (.int .i64 x.k)).set (k * 5 + 1) (.int .i64 x.a)).set (k * 5 + 2) (.int .i64 x.b)).set (k * 5 + 3) (.int .i64 x.c)).set (k * 5 + 4) (.slice p.1 x.l.length p.2) = flatI (xs.set k x) (ps.set k p)
  | [], _, k, _, _, _, hk => by simp at hk
  | _ :: _, [], _, _, _, hl, _ => by simp at hl
  | y :: xs, q :: ps, 0, x, p, hl, hk => by simp [flatI, insCells]
  | y :: xs, q :: ps, k + 1, x, p, hl, hk => by
    have ih := flatI_set xs ps k x p (by simpa using hl) (by simpa using hk)
    simp only [List.set_cons_succ, flatI]
    rw [← ih, set_right _ _ _ (k * 5) _ (by simp [insCells]; omega), set_right _ _ _ (k * 5 + 1) _ (by simp [insCells]; omega), set_right _ _ _ (k * 5 + 2) _ (by simp [insCells]; omega), set_right _ _ _ (k * 5 + 3) _ (by simp [insCells]; omega), set_right _ _ _ (k * 5 + 4) _ (by simp [insCells]; omega)]

theorem ListsO.set {w : World} {B : Nat} : ∀ {xs : List In} {ps : List (Option Addr × Nat)} {k : Nat} {x : In} {p : Option Addr × Nat}, ListsO w B xs ps → w.ownsRow B 3 1 (.slice p.1 x.l.length p.2) x.l.length (x.l.map (Value.int .i64)) → ListsO w B (xs.set k x) (ps.set k p)
  | [], [], _, _, _, h, _ => h
  | y :: xs, q :: ps, 0, x, p, h, hx => ⟨hx, h.2⟩
  | y :: xs, q :: ps, k + 1, x, p, h, hx => ⟨h.1, h.2.set hx⟩
  | [], _ :: _, _, _, _, h, _ => h.elim
  | _ :: _, [], _, _, _, h, _ => h.elim

/-- A program of the call's own. -/
def OI (w : World) (B : Nat) (v : Value) (xs : List In) : Prop := ∃ ps, w.ownsRow B 26 5 v xs.length (flatI xs ps) ∧ ListsO w B xs ps

section
variable {w w' : World} {B : Nat} {v : Value} {xs : List In}
theorem OI.nil (w : World) (B : Nat) : OI w B (.slice none 0 0) [] := ⟨[], World.ownsRow_nil _ _ _ _, trivial⟩
theorem OI.below (h : OI w B v xs) (hb : Below w.heap.size w w') : OI w' B v xs :=
  let ⟨ps, h1, h2⟩ := h
  ⟨ps, own_below h1 hb, h2.map (fun _ _ _ h => own_below h hb)⟩
theorem OI.alloc (h : OI w B v xs) (o : Obj) : OI (w.alloc o) B v xs :=
  let ⟨ps, h1, h2⟩ := h
  ⟨ps, own_alloc h1 o, h2.map (fun _ _ _ h => own_alloc h o)⟩
/-- What an append of one instruction makes of it. -/
theorem OI.pushed (h : OI w B v xs) : ∃ ps, ps.length = xs.length ∧ w.ownsRow B 26 5 v xs.length (flatI xs ps) ∧
    ∀ (w3 : World) (v3 : Value) (x : In) (A : Option Addr) (c : Nat), w3.ownsRow B 26 5 v3 (xs.length + 1) (flatI xs ps ++ insCells x (A, c)) → w.grownBy w3 v.ownBlock →
      w.ownsRow B 3 1 (.slice A x.l.length c) x.l.length (x.l.map (Value.int .i64)) → OI w3 B v3 (xs ++ [x]) := by
  obtain ⟨ps, h1, h2⟩ := h
  refine ⟨ps, h2.len, h1, fun w3 v3 x A c ho hg hx => ⟨ps ++ [(A, c)], ?_, ?_⟩⟩
  · rw [flatI_snoc _ _ _ _ h2.len]
    simpa using ho
  · have hk : ∀ (A : Option Addr) (c : Nat) (l : List Int), w.ownsRow B 3 1 (.slice A l.length c) l.length (l.map (Value.int .i64)) → w3.ownsRow B 3 1 (.slice A l.length c) l.length (l.map (Value.int .i64)) :=
      fun A c l h => h.kept hg (own_ne h h1 (by decide))
    exact (h2.map hk).snoc (hk _ _ _ hx)
theorem OI.ins (h : OI w B v xs) : ∃ A c, v = .slice A xs.length c ∧ InsAt w w.heap.size A xs :=
  let ⟨_, h1, h2⟩ := h
  own_ins h1 h2
theorem OI.form (h : OI w B v xs) (hn : 0 < xs.length) : ∃ g c, v = .slice (some ⟨g, 0, none⟩) xs.length c ∧ B ≤ g ∧ g < w.heap.size := by
  obtain ⟨ps, h1, h2⟩ := h
  obtain ⟨g, c, rfl⟩ := own_form h1 hn
  obtain ⟨h3, h4⟩ := h1.lt g rfl
  exact ⟨g, c, rfl, h3, h4⟩
theorem OI.insAt {g n c : Nat} (h : OI w B (.slice (some ⟨g, 0, none⟩) n c) xs) : InsAt w w.heap.size (some ⟨g, 0, none⟩) xs := by
  obtain ⟨A, c', e, hI⟩ := h.ins
  injection e with e1
  subst e1
  exact hI
theorem OI.at_ {g n c : Nat} (h : OI w B (.slice (some ⟨g, 0, none⟩) n c) xs) (hn : xs.length = n) (k : Nat) (hk : k < n) :
    ∃ a0 a1 a2 a3 a4, w.cell? ⟨g, k * 5, none⟩ = some a0 ∧ w.cell? ⟨g, k * 5 + 1, none⟩ = some a1 ∧ w.cell? ⟨g, k * 5 + 2, none⟩ = some a2 ∧ w.cell? ⟨g, k * 5 + 3, none⟩ = some a3 ∧ w.cell? ⟨g, k * 5 + 4, none⟩ = some a4 := by
  subst hn
  obtain ⟨ps, h1, h2⟩ := h
  have hl := flatI_len xs ps h2.len
  have hc : ∀ i, i < 5 → ∃ a, w.cell? ⟨g, k * 5 + i, none⟩ = some a := fun i hi => by
    rw [h1.cellAt (k * 5 + i) (by omega)]
    exact ⟨_, List.getElem?_eq_getElem (by omega)⟩
  obtain ⟨a0, h0⟩ := hc 0 (by omega)
  obtain ⟨a1, h1'⟩ := hc 1 (by omega)
  obtain ⟨a2, h2'⟩ := hc 2 (by omega)
  obtain ⟨a3, h3'⟩ := hc 3 (by omega)
  obtain ⟨a4, h4'⟩ := hc 4 (by omega)
  exact ⟨a0, a1, a2, a3, a4, h0, h1', h2', h3', h4'⟩
theorem OI.fz {g n c : Nat} (h : OI w B (.slice (some ⟨g, 0, none⟩) n c) xs) (hn : xs.length = n) (k : Nat) :
    w.frozen? ⟨g, k * 5, none⟩ = false ∧ w.frozen? ⟨g, k * 5 + 1, none⟩ = false ∧ w.frozen? ⟨g, k * 5 + 2, none⟩ = false ∧ w.frozen? ⟨g, k * 5 + 3, none⟩ = false ∧ w.frozen? ⟨g, k * 5 + 4, none⟩ = false := by
  subst hn
  obtain ⟨ps, h1, h2⟩ := h
  exact ⟨h1.frozenAt _, h1.frozenAt _, h1.frozenAt _, h1.frozenAt _, h1.frozenAt _⟩
/-- An instruction has been stored at k: the world gets a name. -/
theorem OI.store {Q : World → Prop} {g n c : Nat} (h : OI w B (.slice (some ⟨g, 0, none⟩) n c) xs) (hn : xs.length = n) (k : Nat) (hk : k < n) (x : In) (A : Option Addr) (c' : Nat)
    (hx : w.ownsRow B 3 1 (.slice A x.l.length c') x.l.length (x.l.map (Value.int .i64)))
    (hQ : ∀ W0, OI W0 B (.slice (some ⟨g, 0, none⟩) n c) (xs.set k x) → w.grownBy W0 (some g) → Q W0) :
    Q (((((w.setCell ⟨g, k * 5, none⟩ (.int .i64 x.k)).setCell ⟨g, k * 5 + 1, none⟩ (.int .i64 x.a)).setCell ⟨g, k * 5 + 2, none⟩ (.int .i64 x.b)).setCell ⟨g, k * 5 + 3, none⟩ (.int .i64 x.c)).setCell ⟨g, k * 5 + 4, none⟩ (.slice A x.l.length c')) := by
  subst hn
  obtain ⟨ps, h1, h2⟩ := h
  have s0 := h1.stored (k * 5) (.int .i64 x.k)
  have s1 := s0.1.stored (k * 5 + 1) (.int .i64 x.a)
  have s2 := s1.1.stored (k * 5 + 2) (.int .i64 x.b)
  have s3 := s2.1.stored (k * 5 + 3) (.int .i64 x.c)
  have s4 := s3.1.stored (k * 5 + 4) (.slice A x.l.length c')
  have hg : w.grownBy _ (some g) := ((((s0.2).trans s1.2).trans s2.2).trans s3.2).trans s4.2
  refine hQ _ ⟨ps.set k (A, c'), ?_, ?_⟩ hg
  · have := s4.1
    rw [flatI_set xs ps k x (A, c') h2.len hk] at this
    rw [List.length_set]
    exact this
  · have hk : ∀ (A : Option Addr) (c : Nat) (l : List Int), w.ownsRow B 3 1 (.slice A l.length c) l.length (l.map (Value.int .i64)) → World.ownsRow _ B 3 1 (.slice A l.length c) l.length (l.map (Value.int .i64)) :=
      fun A c l h => h.kept hg (own_ne h h1 (by decide))
    exact (h2.map hk).set (hk _ _ _ hx)
end
end Go.Proofs.YthkffcnifhcjoaaDoor
