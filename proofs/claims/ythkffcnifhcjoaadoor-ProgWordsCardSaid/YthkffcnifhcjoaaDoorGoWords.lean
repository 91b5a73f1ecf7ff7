/- The statement ProgWords, its card tied to the program, holds; no condition beside the given ones. -/
import Derived.Test.YthkffcnifhcjoaaDoorLawWords
import Derived.Test.YthkffcnifhcjoaaDoorOpen
import Derived.Test.YthkffcnifhcjoaaDoorRow
import Derived.Test.YthkffcnifhcjoaaDoorTie
import Derived.Test.YthkffcnifhcjoaaDoorCards
import Derived.JoinedCond
import Derived.OpenShut
import Derived.SevenTiedAt
set_option linter.unusedSimpArgs false
set_option linter.unusedVariables false
namespace Go.Proofs.YthkffcnifhcjoaaDoor
open Go.ChangeShapes Go.WideShapes Go.ChangeAt Go.RowKit Go.Lib

noncomputable abbrev wordsArgs : Array Value := #[.int .i64 0, .int .i64 0, .int .i64 0]

theorem words_witness (os : Os) {H : Type} (enc : TypeId × Value → H) :
    (OpenSpec.ofChange Rows.progWordsSpec).preRow enc Tryd.prog Tryd.f6 Rows.progWordsRow.domain false Rows.progWordsRow.laid ((laidWorld os #[]).forCall (fun _ _ => 0) ⟨#[], wordsArgs, []⟩).memory wordsArgs := by
  have hw : (DataW.whole enc Tryd.prog ((laidWorld os #[]).forCall (fun _ _ => 0) ⟨#[], wordsArgs, []⟩).memory Tryd.f6.params.toList (OpenSpec.ofChange Rows.progWordsSpec).vars false wordsArgs.toList 8).map (fun x => (x.1, x.2.1)) =
      some ([.lit (.int .i64 0), .lit (.int .i64 0), .lit (.int .i64 0)], []) := by kernel_rfl
  obtain ⟨⟨x1, x2, x3⟩, hx, hx1⟩ := Option.map_eq_some_iff.1 hw
  simp only [Prod.mk.injEq] at hx1
  obtain ⟨rfl, rfl⟩ := hx1
  exact OpenSpec.preRow_of_cond 8 hx (by kernel_rfl) (fun k hk => by cases hk) (by kernel_rfl) (laid_met os _)

set_option maxRecDepth 100000 in
set_option maxHeartbeats 2000000 in
theorem words_lifted (os : Os) (started : os.Started) (H : Type) (enc : TypeId × Value → H) (F : Stop.Interp) :
    ReturnsInHanded {} Tryd.checked os 6 .any ((OpenSpec.ofChange Rows.progWordsSpec).preRow enc Tryd.prog Tryd.f6 Rows.progWordsRow.domain false Rows.progWordsRow.laid) (((OpenSpec.ofChange Rows.progWordsSpec).at F).post enc Tryd.prog Tryd.f6 false true false false) := by
  refine returnsInHanded_of_row (C := Tryd.checked) (s := OpenSpec.ofChange Rows.progWordsSpec) ownKnobIs started (by kernel_rfl) Tryd.func6
    (witness_row_atRef (enc := enc) (C := Tryd.checked) false (laidWorld os #[]) wordsArgs rfl (by kernel_rfl) (by kernel_rfl) (by kernel_rfl) (words_witness os enc)) ?_
  intro W base args ds gs before hval0 hW hcnd0 _ _ hL hS _
  have hval : ∀ (j : Nat) t v, Tryd.f6.params[j]? = some t → args[j]? = some v → Value.okWide Tryd.prog W .any base t v := hval0
  have hW' := hW
  obtain ⟨p, q, hA0, hV0, rfl, _, _⟩ := hW
  have hA : DataW.TrodAll enc Tryd.prog W 0 (fun _ => true) true Tryd.f6.params.toList args.toList ds p := hA0
  rw [Tryd.params6] at hA hval
  obtain ⟨v0, vs0, d0, ds0, p0, q0, hargs, rfl, rfl, h0, r0⟩ := trodAll_cons hA
  obtain ⟨v1, vs1, d1, ds1, p1, q1, rfl, rfl, rfl, h1, r1⟩ := trodAll_cons r0
  obtain ⟨v2, vs2, d2, ds2, p2, q2, rfl, rfl, rfl, h2, r2⟩ := trodAll_cons r1
  obtain ⟨rfl, rfl, rfl⟩ := trodAll_nil r2
  obtain rfl : args = #[v0, v1, v2] := by cases args; simp_all
  obtain ⟨rfl, rfl⟩ := trodVars_none hV0
  obtain ⟨a, rfl, rfl, rfl, wa⟩ := open_int Tryd.underlying3 (hval 0 _ v0 rfl rfl) h0
  obtain ⟨b, rfl, rfl, rfl, wb⟩ := open_int Tryd.underlying3 (hval 1 _ v1 rfl rfl) h1
  obtain ⟨r, rfl, rfl, rfl, wr⟩ := open_int Tryd.underlying3 (hval 2 _ v2 rfl rfl) h2
  clear hA0 hval0 hcnd0 hV0
  have hE : Env W := env_of_laid hL hS
  have walk : Calls Tryd.prog 6 #[.int .i64 a, .int .i64 b, .int .i64 r] W fun e w' => e = .returned (.bool true) ∧ Below W.heap.size W w' := by
    exact progWords_any a b r (i64_of_wf wa) (i64_of_wf wb) (i64_of_wf wr) W hE
  refine walk.mono fun e W' ⟨he, bel⟩ => ?_
  subst he
  exact ⟨_, rfl, _, _, _, [], _, [], hW', trodAll_mk1 (shut_bool Tryd.underlying4 _),
    trodAll_cons_mk (shut_int Tryd.underlying3 wa)
      (trodAll_cons_mk (shut_int Tryd.underlying3 wb)
        (trodAll_cons_mk (shut_int Tryd.underlying3 wr) trodAll_mk0)), rfl, bel.frame _, fun h => by cases h⟩

theorem progWords_over : Rows.ProgWordsSaid :=
  OpenClaim.holds_of_cond 6 Tryd.f6 rfl rfl rfl rfl rfl rfl rfl ⟨rfl, rfl, rfl, rfl, rfl⟩ rfl rfl rfl rfl rfl (by kernel_rfl) Tryd.func6 (by kernel_rfl)
    (of_decide_eq_true (by kernel_rfl)) (by unfold Func.isWrapper; first | (rw [if_pos (by decide +kernel)]; kernel_rfl) | (rw [if_neg (by decide +kernel)]; exact ⟨rfl, rfl⟩))
    (fun os started H enc _ F => by rw [OpenClaim.pre_eq_preRow]; exact words_lifted os started H enc F)

/-- THE TIED CARD. -/
theorem progWords_card : Rows.ProgWordsCardSaid :=
  Claim7.holds_tied_plain_at .later [] [.data, .data, .data, .data, .sentinel, .sentinel, .pinned] true Rows.progWordsCard.stood.harness true
    progWords_over (fun _ h => by cases h) (by kernel_rfl) (fun _ h => by cases h) progWords_row_tie rfl ⟨rfl, rfl⟩ (by kernel_rfl) rfl
    (fun f fn hf hfn => by
      obtain rfl : f = 6 := Option.some.inj ((show Tryd.prog.funcNamed "latchkey/ltklaw6.ProgWords" = some 6 by kernel_rfl).symm.trans hf) |>.symm
      obtain rfl : fn = Tryd.f6 := (Option.some.inj (Tryd.func6.symm.trans hfn)).symm
      exact ⟨by kernel_rfl, fun j t ht => by
        rw [Tryd.params6] at ht
        have hall : (Tryd.f6.params.toList.all fun t => !Tryd.prog.wantsStandIn t) = true := by kernel_rfl
        rw [Tryd.params6] at hall
        have := List.all_eq_true.1 hall t (List.mem_of_getElem? (by simpa using ht))
        exact Bool.not_eq_true' _ |>.mp this⟩)
    (by kernel_rfl)
#print axioms progWords_card
end Go.Proofs.YthkffcnifhcjoaaDoor
