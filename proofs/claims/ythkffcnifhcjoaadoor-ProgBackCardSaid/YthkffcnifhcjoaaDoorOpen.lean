/- Arguments opened to cells: a configuration, a list of numbers, a list of instructions. -/
import Derived.Test.YthkffcnifhcjoaaDoorIns
import Derived.Test.YthkffcnifhcjoaaDoorShape
import Derived.Deep.Slices
import Derived.Deep.Fields
import Derived.ChangeSame
import Derived.Lib.SmallJoins
import Derived.ProofKit
set_option linter.unusedSimpArgs false
set_option linter.unusedVariables false
namespace Go.Proofs.YthkffcnifhcjoaaDoor
open Go.RowKit Go.Sort Go.Joins Go.ChangeShapes Go.WideShapes Go.Deep

section
variable {H : Type} {enc : TypeId × Value → H} {P : Program} {w : World} {base : Nat} {spare : Nat → Bool} {held : Bool}
theorem open_slice_fields {t e : TypeId} {fs : Array Field} {fuel : Nat} {cs : List Value} {x : DataW H × List MemPlace} (ht : P.underlying t = some (.slice e)) (he : P.underlying e = some (.struct fs))
    (hone : oneCellFields P fs = true) (hC : P.cellsOf e = fs.size) (h : DataW.trod enc P w base spare held fuel t cs = some x) :
    (cs = [.slice none 0 0] ∧ x = (.nil, [])) ∨
    ∃ (a : Addr) (len cap m : Nat) (D : Nat → DataW H) (Pl : Nat → List MemPlace), cs = [.slice (some a) len cap] ∧ base ≤ a.block ∧ len ≤ cap ∧ cap ≤ maxLen ∧ m = (if spare a.block then cap else len) ∧
      x = (.slice ((List.range len).map D) ((List.range (m - len)).map fun j => D (len + j)), MemPlace.row a (m * fs.size) ++ (List.range m).flatMap Pl) ∧
      ∀ i, i < m → ∃ (ys : List (DataW H × List MemPlace)) (n : Nat), D i = .agg (ys.map (·.1)) ∧ Pl i = ys.flatMap (·.2) ∧ ys.length = fs.size ∧
        ∀ (j : Nat) (f : Field), fs[j]? = some f → ∃ (v : Value) (y : DataW H × List MemPlace), w.cell? (a.add (i * fs.size + j)) = some v ∧ ys[j]? = some y ∧ DataW.trod enc P w base spare held n f.type [v] = some y := by
  rcases open_slice ht h with h0 | ⟨a, len, cap, m, n, D, Pl, hcs, hb, hl, hm, hmm, hx, hi⟩
  · exact .inl h0
  · refine .inr ⟨a, len, cap, m, D, Pl, hcs, hb, hl, hm, hmm, by rw [hC] at hx; exact hx, fun i him => ?_⟩
    obtain ⟨cs', hc, ht'⟩ := hi i him
    rw [hC] at hc
    obtain ⟨ys, n', hn', hy, hlen, hyl, hf⟩ := DataW.trod_struct he ht'
    obtain ⟨_, hcl, hat⟩ := World.cells?_some hc
    simp only [Prod.mk.injEq] at hy
    refine ⟨ys, n', hy.1, hy.2, hyl, fun j f hj => ?_⟩
    obtain ⟨ho, hk⟩ := hone_of hone j f hj
    have hjl : j < fs.size := (Array.getElem?_eq_some_iff.1 hj).1
    have hcell := hat j hjl
    have hv : cs'[j]? = some (cs'[j]'(by omega)) := List.getElem?_eq_getElem (by omega)
    have h1 := hf j f hj
    rw [ho, hk] at h1
    have hone' : (cs'.drop j).take 1 = [cs'[j]'(by omega)] := by
      rw [List.drop_eq_getElem_cons (by omega)]
      rfl
    rw [hone'] at h1
    have hys : ys[j]? = some (ys[j]'(by omega)) := List.getElem?_eq_getElem (by omega)
    refine ⟨_, _, ?_, hys, h1.trans hys⟩
    rw [← Go.Deep.add_add, hcell, hv]

theorem all_map {α β : Type} {f : α → β} : ∀ {l : List β}, (∀ u ∈ l, ∃ z, u = f z) → ∃ zs : List α, l = zs.map f
  | [], _ => ⟨[], rfl⟩
  | a :: l, h => by
    obtain ⟨z, hz⟩ := h a (by simp)
    obtain ⟨zs, hzs⟩ := all_map (l := l) (fun u hu => h u (List.mem_cons_of_mem _ hu))
    exact ⟨z :: zs, by rw [hz, hzs]; rfl⟩

/-- A struct of whole numbers alone. -/
theorem open_nums {r : Reach} {b0 : Nat} {t : TypeId} {fs : Array Field} {v : Value} {d : DataW H} {p : List MemPlace} (hs : P.underlying t = some (.struct fs)) (hone : oneCellFields P fs = true) (hC : P.cellsOf t = fs.size)
    {ti : TypeId} (hti : P.underlying ti = some (.int .i64)) (hi : (fs.toList.all fun f => f.type == ti) = true) (hv : Value.okWide P w r b0 t v) (h : DataW.Trod enc P w base spare held t v d p) :
    ∃ zs : List Int, v = .agg (zs.map (Value.int .i64)).toArray ∧ zs.length = fs.size := by
  obtain ⟨cs, rfl, hsz⟩ := okWide_struct hs hv
  obtain ⟨fuel, hf⟩ := h
  obtain ⟨xs, n, _, hx, _, hlen, hg⟩ := DataW.trod_struct hs hf
  obtain ⟨l⟩ := cs
  have hl : l.length = fs.size := hsz.trans hC
  have hall : ∀ u ∈ l, ∃ z, u = Value.int .i64 z := by
    intro u hu
    obtain ⟨j, hj, rfl⟩ := List.getElem_of_mem hu
    have hfj : fs[j]? = some (fs[j]'(by omega)) := Array.getElem?_eq_getElem (by omega)
    obtain ⟨ho, hk⟩ := hone_of hone j _ hfj
    have h1 := hg j _ hfj
    have hy : xs[j]? = some (xs[j]'(by omega)) := List.getElem?_eq_getElem (by omega)
    rw [hy, ho, hk] at h1
    have ht := List.all_eq_true.1 hi (fs[j]'(by omega)) (by simp)
    rw [beq_iff_eq.1 ht] at h1
    obtain ⟨z, hz, _⟩ := DataW.trod_int hti h1
    have h2 : (l.drop j).take 1 = [l[j]] := by
      rw [List.drop_eq_getElem_cons hj]
      rfl
    have h3 : (Value.agg ⟨l⟩).cells.toList = l := rfl
    rw [h3, h2] at hz
    injection hz with hz
    exact ⟨z, hz⟩
  obtain ⟨zs, rfl⟩ := all_map hall
  exact ⟨zs, by simp, by simpa using hl⟩
end

section
variable {H : Type} {enc : TypeId × Value → H} {w : World} {base : Nat} {spare : Nat → Bool} {held : Bool}

theorem i64_of_wf {n : Int} (h : (Lit.int .i64 n).wf = true) : I64 n := by
  have e1 : IntKind.i64.min = -9223372036854775808 := rfl
  have e2 : IntKind.i64.max = 9223372036854775807 := rfl
  simp [Lit.wf, e1, e2] at h
  exact h

set_option maxRecDepth 100000 in
theorem open_conf {r : Reach} {b0 : Nat} {v : Value} {d : DataW H} {p : List MemPlace} (hv : Value.okWide Tryd.prog w r b0 30 v) (h : DataW.Trod enc Tryd.prog w base spare held 30 v d p) : ∃ c : Cf, v = c.v := by
  obtain ⟨zs, rfl, hz⟩ := open_nums Tryd.underlying30 (by kernel_rfl) (by kernel_rfl) Tryd.underlying3 (by rfl) hv h
  match zs, hz with
  | [c0, c1, c2, c3, c4, c5, c6, c7, c8, c9, c10, c11], _ => exact ⟨⟨c0, c1, c2, c3, c4, c5, c6, c7, c8, c9, c10, c11⟩, rfl⟩

/-- A cell of a world lies in it. -/
theorem lt_of_cell {ad : Addr} {u : Value} (h : w.cell? ad = some u) : ad.block < w.heap.size := World.block_lt_of_cell? _ _ h

/-- A slice of whole numbers that came in. -/
theorem open_list {n : Nat} {v : Value} {y : DataW H × List MemPlace} (h : DataW.trod enc Tryd.prog w base (fun _ => true) held n 24 [v] = some y) :
    ∃ (A : Option Addr) (zs : List Int) (cap : Nat), v = .slice A zs.length cap ∧ Reads w w.heap.size 1 A zs.length (zs.map (Value.int .i64)) ∧ ∀ z ∈ zs, I64 z := by
  rcases open_ints Tryd.underlying24 Tryd.underlying3 (by kernel_rfl) h with ⟨hc, _⟩ | ⟨a, len, cap, zs, hc, _, hl, _, hz, _, hcell, hwf⟩
  · injection hc with hc
    exact ⟨none, [], 0, hc, ⟨rfl, fun h => absurd h (by simp)⟩, by simp⟩
  · injection hc with hc
    simp only [if_true] at hz
    have hlz : (zs.take len).length = len := by rw [List.length_take]; omega
    refine ⟨some a, zs.take len, cap, by rw [hlz]; exact hc, ⟨by simp, fun hp => ⟨a, rfl, ?_, ?_⟩⟩, fun z hz => i64_of_wf (hwf z (List.mem_of_mem_take hz))⟩
    · have := lt_of_cell (hcell 0 (by omega))
      rwa [block_of_add] at this
    · intro j u hj
      rw [List.getElem?_map, List.getElem?_take] at hj
      split at hj
      · rename_i hjl
        have hjz : zs[j]? = some (zs[j]'(by omega)) := List.getElem?_eq_getElem (by omega)
        rw [hjz] at hj
        simp only [Option.map_some, Option.some.injEq] at hj
        rw [hcell j (by omega), List.getD_eq_getElem?_getD, hjz, ← hj]
        rfl
      · simp at hj

theorem build {C : Nat → In → (Option Addr × Nat) → Prop} : ∀ (len : Nat), (∀ i, i < len → ∃ x p, C i x p) → ∃ (xs : List In) (ps : List (Option Addr × Nat)), xs.length = len ∧ ps.length = len ∧ ∀ i x p, xs[i]? = some x → ps[i]? = some p → C i x p
  | 0, _ => ⟨[], [], rfl, rfl, by simp⟩
  | len + 1, h => by
    obtain ⟨xs, ps, h1, h2, h3⟩ := build len (fun i hi => h i (by omega))
    obtain ⟨x, p, hx⟩ := h len (by omega)
    refine ⟨xs ++ [x], ps ++ [p], by simp [h1], by simp [h2], fun i y q hy hq => ?_⟩
    rcases Nat.lt_or_ge i len with hi | hi
    · rw [List.getElem?_append_left (by omega)] at hy hq
      exact h3 i y q hy hq
    · rw [List.getElem?_append_right (by omega)] at hy hq
      have : i - xs.length = 0 := by
        obtain ⟨hlt, _⟩ := List.getElem?_eq_some_iff.1 hy
        simp at hlt
        omega
      rw [this] at hy
      have : i - ps.length = 0 := by omega
      rw [this] at hq
      simp at hy hq
      subst hy hq
      have : i = len := by omega
      subst this
      exact hx
theorem Lists.of_get {w : World} {B : Nat} : ∀ {xs : List In} {ps : List (Option Addr × Nat)}, xs.length = ps.length → (∀ (i : Nat) (x : In) (p : Option Addr × Nat), xs[i]? = some x → ps[i]? = some p → Reads w B 1 p.1 x.l.length (x.l.map (Value.int .i64))) → Lists w B xs ps
  | [], [], _, _ => trivial
  | x :: xs, p :: ps, hl, h => ⟨h 0 x p rfl rfl, Lists.of_get (by simpa using hl) (fun i y q hy hq => h (i + 1) y q (by simpa using hy) (by simpa using hq))⟩
  | [], _ :: _, hl, _ => by simp at hl
  | _ :: _, [], hl, _ => by simp at hl

/-- A slice of instructions that came in. -/
theorem open_ins {v : Value} {d : DataW H} {p : List MemPlace} (hv : ∃ a len cap, v = .slice a len cap) (h : DataW.Trod enc Tryd.prog w base (fun _ => true) held 23 v d p) :
    ∃ (A : Option Addr) (xs : List In) (cap : Nat), v = .slice A xs.length cap ∧ InsAt w w.heap.size A xs ∧ ∀ x ∈ xs, x.I64s := by
  obtain ⟨a, len, cap, rfl⟩ := hv
  obtain ⟨fuel, hf⟩ := h
  rcases open_slice_fields Tryd.underlying23 Tryd.underlying26 (by kernel_rfl) (by kernel_rfl) hf with ⟨hc, _⟩ | ⟨ad, len', cap', m, D, Pl, hc, _, hl, _, hm, _, hi⟩
  · have hc : Value.slice a len cap = .slice none 0 0 := by simpa [Value.cells] using hc
    injection hc with h1 h2 h3
    subst h1 h2 h3
    exact ⟨none, [], 0, rfl, InsAt.nil _ _ _, by simp⟩
  · have hc : Value.slice a len cap = .slice (some ad) len' cap' := by simpa [Value.cells] using hc
    injection hc with h1 h2 h3
    subst h1 h2 h3
    simp only [if_true] at hm
    subst hm
    have hb := build (C := fun i x p => (∀ j u, (insCells x p)[j]? = some u → w.cell? (ad.add (i * 5 + j)) = some u) ∧ Reads w w.heap.size 1 p.1 x.l.length (x.l.map (Value.int .i64)) ∧ x.I64s) len (by
      intro i hil
      obtain ⟨ys, n, _, _, _, hg⟩ := hi i (by omega)
      obtain ⟨v0, y0, hc0, _, ht0⟩ := hg 0 _ rfl
      obtain ⟨v1, y1, hc1, _, ht1⟩ := hg 1 _ rfl
      obtain ⟨v2, y2, hc2, _, ht2⟩ := hg 2 _ rfl
      obtain ⟨v3, y3, hc3, _, ht3⟩ := hg 3 _ rfl
      obtain ⟨v4, y4, hc4, _, ht4⟩ := hg 4 _ rfl
      obtain ⟨k0, e0, _, w0⟩ := DataW.trod_int Tryd.underlying3 ht0
      obtain ⟨k1, e1, _, w1⟩ := DataW.trod_int Tryd.underlying3 ht1
      obtain ⟨k2, e2, _, w2⟩ := DataW.trod_int Tryd.underlying3 ht2
      obtain ⟨k3, e3, _, w3⟩ := DataW.trod_int Tryd.underlying3 ht3
      injection e0 with e0
      injection e1 with e1
      injection e2 with e2
      injection e3 with e3
      subst e0 e1 e2 e3
      obtain ⟨A', zs, c', rfl, hR, h64⟩ := open_list ht4
      refine ⟨⟨k0, k1, k2, k3, zs⟩, (A', c'), ?_, hR, ⟨i64_of_wf w0, i64_of_wf w1, i64_of_wf w2, i64_of_wf w3, h64⟩⟩
      intro j u hj
      match j, hj with
      | 0, hj => simp [insCells] at hj; subst hj; exact hc0
      | 1, hj => simp [insCells] at hj; subst hj; exact hc1
      | 2, hj => simp [insCells] at hj; subst hj; exact hc2
      | 3, hj => simp [insCells] at hj; subst hj; exact hc3
      | 4, hj => simp [insCells] at hj; subst hj; exact hc4)
    obtain ⟨xs, ps, hx, hp, hall⟩ := hb
    have hL : Lists w w.heap.size xs ps := Lists.of_get (by omega) (fun i x p h1 h2 => (hall i x p h1 h2).2.1)
    have hpair : ∀ i (h : i < len), xs[i]? = some (xs[i]'(by omega)) ∧ ps[i]? = some (ps[i]'(by omega)) := fun i h => ⟨List.getElem?_eq_getElem (by omega), List.getElem?_eq_getElem (by omega)⟩
    have hR : Reads w w.heap.size 5 (some ad) xs.length (flatI xs ps) := by
      refine ⟨flatI_len xs ps (by omega), fun hn => ⟨ad, rfl, ?_, fun j u hj => ?_⟩⟩
      · obtain ⟨h1, h2⟩ := hpair 0 (by omega)
        have := lt_of_cell ((hall 0 _ _ h1 h2).1 0 _ rfl)
        rwa [block_of_add] at this
      · have hjl : j < xs.length * 5 := by
          rw [← flatI_len xs ps (by omega)]
          exact (List.getElem?_eq_some_iff.1 hj).1
        have hdm : j / 5 * 5 + j % 5 = j := by omega
        obtain ⟨h1, h2⟩ := hpair (j / 5) (by omega)
        have hg := flatI_get xs ps (j / 5) _ _ h1 h2 (j % 5) (by omega)
        rw [hdm, hj] at hg
        have := (hall (j / 5) _ _ h1 h2).1 (j % 5) u hg.symm
        rwa [hdm] at this
    refine ⟨some ad, xs, _, by rw [hx], ⟨ps, hL, hR⟩, fun x hx' => ?_⟩
    obtain ⟨i, hi, rfl⟩ := List.getElem_of_mem hx'
    obtain ⟨h1, h2⟩ := hpair i (by omega)
    exact (hall i _ _ h1 h2).2.2
/-- .. and how many they are at most. -/
theorem open_prog {v : Value} {d : DataW H} {p : List MemPlace} (hv : ∃ a len cap, v = .slice a len cap) (h : DataW.Trod enc Tryd.prog w base (fun _ => true) held 23 v d p) :
    ∃ (A : Option Addr) (xs : List In) (cap : Nat), v = .slice A xs.length cap ∧ InsAt w w.heap.size A xs ∧ (∀ x ∈ xs, x.I64s) ∧ xs.length ≤ 9223372036854775807 := by
  obtain ⟨a, len, cap, rfl⟩ := hv
  obtain ⟨fuel, hf⟩ := h
  rcases open_slice_fields Tryd.underlying23 Tryd.underlying26 (by kernel_rfl) (by kernel_rfl) hf with ⟨hc, _⟩ | ⟨ad, len', cap', m, D, Pl, hc, _, hl, hmax, hm, _, hi⟩
  · have hc : Value.slice a len cap = .slice none 0 0 := by simpa [Value.cells] using hc
    injection hc with h1 h2 h3
    subst h1 h2 h3
    exact ⟨none, [], 0, rfl, InsAt.nil _ _ _, by simp, by simp⟩
  · have hc : Value.slice a len cap = .slice (some ad) len' cap' := by simpa [Value.cells] using hc
    injection hc with h1 h2 h3
    subst h1 h2 h3
    simp only [if_true] at hm
    subst hm
    have hb := build (C := fun i x p => (∀ j u, (insCells x p)[j]? = some u → w.cell? (ad.add (i * 5 + j)) = some u) ∧ Reads w w.heap.size 1 p.1 x.l.length (x.l.map (Value.int .i64)) ∧ x.I64s) len (by
      intro i hil
      obtain ⟨ys, n, _, _, _, hg⟩ := hi i (by omega)
      obtain ⟨v0, y0, hc0, _, ht0⟩ := hg 0 _ rfl
      obtain ⟨v1, y1, hc1, _, ht1⟩ := hg 1 _ rfl
      obtain ⟨v2, y2, hc2, _, ht2⟩ := hg 2 _ rfl
      obtain ⟨v3, y3, hc3, _, ht3⟩ := hg 3 _ rfl
      obtain ⟨v4, y4, hc4, _, ht4⟩ := hg 4 _ rfl
      obtain ⟨k0, e0, _, w0⟩ := DataW.trod_int Tryd.underlying3 ht0
      obtain ⟨k1, e1, _, w1⟩ := DataW.trod_int Tryd.underlying3 ht1
      obtain ⟨k2, e2, _, w2⟩ := DataW.trod_int Tryd.underlying3 ht2
      obtain ⟨k3, e3, _, w3⟩ := DataW.trod_int Tryd.underlying3 ht3
      injection e0 with e0
      injection e1 with e1
      injection e2 with e2
      injection e3 with e3
      subst e0 e1 e2 e3
      obtain ⟨A', zs, c', rfl, hR, h64⟩ := open_list ht4
      refine ⟨⟨k0, k1, k2, k3, zs⟩, (A', c'), ?_, hR, ⟨i64_of_wf w0, i64_of_wf w1, i64_of_wf w2, i64_of_wf w3, h64⟩⟩
      intro j u hj
      match j, hj with
      | 0, hj => simp [insCells] at hj; subst hj; exact hc0
      | 1, hj => simp [insCells] at hj; subst hj; exact hc1
      | 2, hj => simp [insCells] at hj; subst hj; exact hc2
      | 3, hj => simp [insCells] at hj; subst hj; exact hc3
      | 4, hj => simp [insCells] at hj; subst hj; exact hc4)
    obtain ⟨xs, ps, hx, hp, hall⟩ := hb
    have hL : Lists w w.heap.size xs ps := Lists.of_get (by omega) (fun i x p h1 h2 => (hall i x p h1 h2).2.1)
    have hpair : ∀ i (h : i < len), xs[i]? = some (xs[i]'(by omega)) ∧ ps[i]? = some (ps[i]'(by omega)) := fun i h => ⟨List.getElem?_eq_getElem (by omega), List.getElem?_eq_getElem (by omega)⟩
    have hR : Reads w w.heap.size 5 (some ad) xs.length (flatI xs ps) := by
      refine ⟨flatI_len xs ps (by omega), fun hn => ⟨ad, rfl, ?_, fun j u hj => ?_⟩⟩
      · obtain ⟨h1, h2⟩ := hpair 0 (by omega)
        have := lt_of_cell ((hall 0 _ _ h1 h2).1 0 _ rfl)
        rwa [block_of_add] at this
      · have hjl : j < xs.length * 5 := by
          rw [← flatI_len xs ps (by omega)]
          exact (List.getElem?_eq_some_iff.1 hj).1
        have hdm : j / 5 * 5 + j % 5 = j := by omega
        obtain ⟨h1, h2⟩ := hpair (j / 5) (by omega)
        have hg := flatI_get xs ps (j / 5) _ _ h1 h2 (j % 5) (by omega)
        rw [hdm, hj] at hg
        have := (hall (j / 5) _ _ h1 h2).1 (j % 5) u hg.symm
        rwa [hdm] at this
    refine ⟨some ad, xs, _, by rw [hx], ⟨ps, hL, hR⟩, fun x hx' => ?_, by unfold maxLen at hmax; omega⟩
    obtain ⟨i, hi, rfl⟩ := List.getElem_of_mem hx'
    obtain ⟨h1, h2⟩ := hpair i (by omega)
    exact (hall i _ _ h1 h2).2.2
end
end Go.Proofs.YthkffcnifhcjoaaDoor
