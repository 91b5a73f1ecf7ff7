/- ltklaw6.first returns true. -/
import Derived.Test.YthkffcnifhcjoaaDoorOwn
import Derived.Test.YthkffcnifhcjoaaDoorCheck
set_option linter.unusedSimpArgs false
set_option linter.unusedVariables false
namespace Go.Proofs.YthkffcnifhcjoaaDoor
open Go.RowKit Go.Sort

def smallC : Cf := ⟨2, 2, 2, 2, 1, 0, 4, 9, 9, 0, 9, 0⟩
set_option maxHeartbeats 1000000 in
theorem small_any (w : World) : Calls Tryd.prog 10 #[] w fun e w' => e = .returned smallC.v ∧ Below w.heap.size w w' := by
  go_enter Tryd.func10, Tryd.ntmps10
  go_wp2
  refine boxed1 ?_
  intro W0 hB1 hB2 hB3
  refine bodyPost_ret (v := smallC.v) (by simp [results, Tryd.results10, go_sem, conf_at hB1, smallC, Cf.v]) rfl ⟨rfl, hB2⟩

def s1 : ByteArray := ⟨#[106, 117, 109, 112, 32, 48, 32, 48]⟩
def s2 : ByteArray := ⟨#[106, 117, 109, 112, 32, 48, 32, 32, 48]⟩
theorem parse1 : parseS [s1] = some [⟨5, 0, 0, 0, []⟩] := by kernel_rfl
theorem parse2 : parseS [s2] = none := by kernel_rfl
theorem chk1 : chkP smallC [⟨5, 0, 0, 0, []⟩] = 2 := by kernel_rfl

set_option maxHeartbeats 2000000 in
set_option maxRecDepth 100000 in
theorem first_any (w : World) (hE : Env w) : Calls Tryd.prog 8 #[] w fun e w' => e = .returned (.bool true) ∧ Below w.heap.size w w' := by
  have hP1 := fun (W : World) (hE : Env W) => Parse_any [s1] (some ⟨W.heap.size, 0, none⟩) 1 (W.alloc (.cells #[.string s1] 9)) (hE.below ((Below.refl _ _).alloc (Nat.le_refl _) _)) (by have := reads_new W (.string s1) 9; simpa using this) (by simp [s1]; decide) (by simp)
  have hP2 := fun (W : World) (hE : Env W) => Parse_any [s2] (some ⟨W.heap.size, 0, none⟩) 1 (W.alloc (.cells #[.string s2] 9)) (hE.below ((Below.refl _ _).alloc (Nat.le_refl _) _)) (by have := reads_new W (.string s2) 9; simpa using this) (by simp [s2]; decide) (by simp)
  rw [parse1] at hP1
  rw [parse2] at hP2
  unfold Parsed at hP1 hP2
  have HP1 := Lib.hid hP1
  have HP2 := Lib.hid hP2
  have HE := Lib.hid hE
  clear hP1 hP2 hE
  go_enter Tryd.func8, Tryd.ntmps8
  go_wp2_with fail
  refine (HP1.out _ HE.out).mono ?_
  rintro e w1 ⟨⟨v, ps, rfl, hown, hL⟩, hb⟩
  obtain ⟨A, c, rfl, hI⟩ := own_ins hown hL
  have hB1 : Below w.heap.size w w1 := ((Below.refl _ _).alloc (Nat.le_refl _) _).trans (hb.mono (by simp))
  have HB1 := Lib.hid hB1
  have HI := Lib.hid hI
  clear hown hL hb hI hB1
  go_wp2_with fail
  refine (HP2.out _ (HE.out.below HB1.out)).mono ?_
  rintro e w2 ⟨rfl, hb⟩
  have hB2 : Below w1.heap.size w1 w2 := ((Below.refl _ _).alloc (Nat.le_refl _) _).trans (hb.mono (by simp))
  have HB2 := Lib.hid (HB1.out.trans (hB2.mono HB1.out.size))
  have HI2 := Lib.hid (HI.out.next hB2)
  clear HI hb hB2
  go_wp2_with (first
    | (go_at_call 10; refine (small_any w2).mono ?_; rintro e w3 ⟨rfl, hb3⟩; have HB3 := Lib.hid hb3; clear hb3)
    | (go_at_call 9; refine (PCheck_any smallC [⟨5, 0, 0, 0, []⟩] A c w3 (HI2.out.next HB3.out) (by simp) (by simp)).mono ?_; rw [chk1]; rintro e w4 ⟨rfl, hb4⟩; have HB4 := Lib.hid hb4; clear hb4))
  have h3 := HB2.out.trans (HB3.out.mono HB2.out.size)
  go_ret
  exact ⟨rfl, h3.trans (HB4.out.mono h3.size)⟩
end Go.Proofs.YthkffcnifhcjoaaDoor
