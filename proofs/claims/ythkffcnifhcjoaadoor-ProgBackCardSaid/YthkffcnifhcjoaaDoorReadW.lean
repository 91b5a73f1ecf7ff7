/- prog.read computes readS of any line of at most 100000 bytes. -/
import Derived.Test.YthkffcnifhcjoaaDoorRead
set_option linter.unusedSimpArgs false
set_option linter.unusedVariables false
namespace Go.Proofs.YthkffcnifhcjoaaDoor
open Go.RowKit Go.Sort

set_option maxHeartbeats 2000000 in
set_option maxRecDepth 100000 in
theorem read_any (s : ByteArray) (hs : s.size ≤ 100000) (w : World) (hE : Env w) :
    Calls Tryd.prog 24 #[.string s] w fun e w' => ∃ A c, e = .returned (.tuple #[(readS s).1.v (.slice A (readS s).1.l.length c), .bool (readS s).2]) ∧ w'.ownsRow w.heap.size 3 1 (.slice A (readS s).1.l.length c) (readS s).1.l.length ((readS s).1.l.map (Value.int .i64)) ∧ Below w.heap.size w w' := by
  obtain ⟨i0, hi0, hz0, hz1, hz2⟩ := info_parts int_info
  have HI0 := Lib.hid hi0
  have HZ := Lib.hid (And.intro hz0 (And.intro hz1 hz2))
  clear hi0 hz0 hz1 hz2
  obtain ⟨p0, rest, hps, hsp⟩ := Split_any s hs (w.alloc (.cells #[.int .i64 0, .int .i64 0, .int .i64 0, .int .i64 0, .slice none 0 0] 26)) (hE.below ((Below.refl _ _).alloc (Nat.le_refl _) _))
  have hr : readS s = readP p0 rest s.data.toList := by unfold readS; rw [hps]; rfl
  have hle := pieces_le s
  have hsz := pieces_sizes s
  rw [hps] at hle hsz
  simp only [List.length_cons] at hle
  have HR := Lib.hid hr
  generalize readS s = res at HR ⊢
  have HSZ := Lib.hid hsz
  have HSP := Lib.hid hsp
  have HE := Lib.hid hE
  clear hE hr hsz hsp hps
  go_enter Tryd.func24, Tryd.ntmps24
  go_wp2_with (go_at_call 33; refine HSP.out.mono ?_; rintro e w1 ⟨rfl, rfl⟩)
  refine boxed2 ?_
  intro W0 hB1 hB2 hB3 hB4
  have k0 : W0.cell? ⟨w.heap.size + 1, 0, none⟩ = some (.string p0) := hB2.cell 0
  have HB1 := Lib.hid hB1
  have HB2 := Lib.hid hB2
  have HB3 := Lib.hid hB3
  clear hB1 hB2 hB3
  go_loopg [5] 8 (fun gg s5 wr => ∃ k : Nat, 1 ≤ k ∧ k ≤ 8 ∧ 8 - k ≤ gg ∧ s5 = .int .i64 k ∧ wr = W0 ∧ Aside (∀ j : Nat, 1 ≤ j → j < k → kindOk p0.data.toList (rest.length : Int) j = false))
  case atStart => exact ⟨1, by omega, by omega, by omega, rfl, rfl, fun j h1 h2 => by omega⟩
  case round =>
    obtain ⟨k, hk1, hk8, hg, rfl, rfl, HK⟩ := hrel
    obtain ⟨wo, rfl⟩ : ∃ wo : World, wo = wr := ⟨_, rfl⟩
    by_cases hlt : k ≤ 7
    · have HW := Lib.hid (word_any k wo)
      have hbd := wordN_bd k
      generalize hn : wordN (k : Int) = n at HW hbd
      generalize hwl : wordL (k : Int) = lst at HW
      generalize hwb : wordB (k : Int) = wrd at HW
      have HH := Lib.hid (And.intro hn (And.intro hwl hwb))
      clear hn hwl hwb
      obtain ⟨hn0, hn3⟩ := hbd
      obtain ⟨n, rfl⟩ := Int.eq_ofNat_of_zero_le hn0
      clear hn0
      by_cases hw : p0.toList = wrd
      · by_cases hm : rest.length < n
        · go_wp2_with (go_at_call 29; refine HW.out.mono ?_; rintro e w1 ⟨rfl, rfl⟩)
          go_roundg (8 - (k + 1))
          case measure => omega
          case rel =>
            refine ⟨k + 1, by omega, by omega, by omega, by go_num, rfl, (show Aside _ from ?_)⟩
            intro j h1 h2
            by_cases e : j = k
            · subst e
              unfold kindOk
              rw [HH.out.1]
              simp; intro _; omega
            · exact HK.out j h1 (by omega)
        · have hfound : kindOf p0.data.toList (rest.length : Int) = some (k : Int) := kindOf_found k hk1 hlt HK.out (by
            unfold kindOk
            rw [HH.out.1, HH.out.2.2, ← hw, ByteArray.toList_eq]
            simp; omega)
          have HF := Lib.hid hfound
          have HWD := Lib.hid hw
          go_upto_block 2 with (go_at_call 29; refine HW.out.mono ?_; rintro e w1 ⟨rfl, rfl⟩)
          clear hfound
          generalize hh0 : w.heap.size = hz at *
          have Hh := Lib.hid hh0
          clear hh0
          go_cut [9, 41] (fun s9 _ wc => s9 = .pointer (some ⟨hz + 2, 0, none⟩) ∧ Aside (∃ ns A c, (rest.map (·.data.toList)).mapM atoi? = some ns ∧
            Blk wc (hz + 2) 26 #[.int .i64 k, .int .i64 (mkIn k ns).a, .int .i64 (mkIn k ns).b, .int .i64 (mkIn k ns).c, .slice A (mkIn k ns).l.length c] ∧
            wc.ownsRow (hz + 3) 3 1 (.slice A (mkIn k ns).l.length c) (mkIn k ns).l.length ((mkIn k ns).l.map (Value.int .i64)) ∧ Below (hz + 2) wo wc))
          case first =>
            refine boxed1 ?_
            intro W1 hC1 hC2 hC3
            have HC1 := Lib.hid hC1
            have HC2 := Lib.hid hC2
            clear hC1 hC2
            rcases Nat.eq_zero_or_pos rest.length with hre | hre
            · have hre0 : rest = [] := List.eq_nil_of_length_eq_zero hre
              subst hre0
              go_wp2
              go_loopg [43] 0 (fun gg s43 wi => s43 = .int .i64 0 ∧ wi = W1)
              case atStart => exact ⟨rfl, rfl⟩
              case round =>
                obtain ⟨rfl, rfl⟩ := hrel
                go_wp2
                go_meet
                case rel =>
                  refine ⟨rfl, [], none, 0, rfl, ?_, ?_, ?_⟩
                  · have := HC1.out
                    rw [hB4] at this
                    have e : mkIn (k : Int) [] = ⟨k, 0, 0, 0, []⟩ := by unfold mkIn; simp
                    rw [e]
                    exact this
                  · have e : mkIn (k : Int) [] = ⟨k, 0, 0, 0, []⟩ := by unfold mkIn; simp
                    rw [e]
                    exact World.ownsRow_nil _ _ _ _
                  · rw [← hB4]; exact HC2.out
            · have hre1 : rest ≠ [] := by intro e; rw [e] at hre; simp at hre
              go_wp2
              go_loopg [43] rest.length (fun gg s43 wi => ∃ (i : Nat) (ns : List Int) (Lv : Value), i ≤ rest.length ∧ rest.length - i ≤ gg ∧ s43 = .int .i64 i ∧
                Aside (((rest.take i).map (·.data.toList)).mapM atoi? = some ns) ∧
                Aside (Blk wi (hz + 2) 26 #[.int .i64 k, .int .i64 (mkIn k ns).a, .int .i64 (mkIn k ns).b, .int .i64 (mkIn k ns).c, Lv]) ∧
                Aside (wi.ownsRow (hz + 3) 3 1 Lv (mkIn k ns).l.length ((mkIn k ns).l.map (Value.int .i64))) ∧ Aside (Below (hz + 2) wo wi))
              case atStart =>
                have e : mkIn (k : Int) [] = ⟨k, 0, 0, 0, []⟩ := by unfold mkIn; simp
                refine ⟨0, [], .slice none 0 0, by omega, by omega, rfl, rfl, ?_, ?_, ?_⟩
                · show Blk _ _ _ _
                  rw [e, ← hB4]; exact HC1.out
                · show World.ownsRow _ _ _ _ _ _ _
                  rw [e]; exact World.ownsRow_nil _ _ _ _
                · show Below _ _ _
                  rw [← hB4]; exact HC2.out
              case round =>
                obtain ⟨i, ns, Lv, hi, hgi, rfl, HM, HBi, HO, HBe⟩ := hrel
                by_cases hil : i < rest.length
                · have hpc : wr.cell? ⟨hz + 1, 1 + i, none⟩ = some (.string rest[i]) := by
                    rw [HBe.out.cell (p := ⟨hz + 1, 1 + i, none⟩) (by show hz + 1 < hz + 2; omega), HB2.out.cell]
                    simp [Nat.add_comm 1 i, hil]
                  have hpz : rest[i].size ≤ 100000 := by
                    have := HSZ.out rest[i] (List.mem_cons_of_mem _ (List.getElem_mem hil))
                    omega
                  generalize hpi : rest[i] = pc at hpc hpz
                  have HPI := Lib.hid hpi
                  have HPZ := Lib.hid hpz
                  clear hpi hpz
                  have hiz : (i : Int) < (rest.length : Int) := by omega
                  have hEi : Env wr := (HE.out.below (w' := wo) (by rw [Hh.out]; exact HB3.out)).below (HBe.out.mono (by omega))
                  have HEi := Lib.hid hEi
                  clear hEi
                  have hnsl : ns.length = i := by
                    have := mapM_len _ _ _ HM.out
                    simp at this; omega
                  have HNL := Lib.hid hnsl
                  clear hnsl
                  go_upto_block 3 with (fail)
                  go_cut [9] (fun s9 wc => s9 = .pointer (some ⟨hz + 2, 0, none⟩) ∧ Aside (∃ (v : Int) (Lv' : Value), atoi? pc.data.toList = some v ∧
                      Blk wc (hz + 2) 26 #[.int .i64 k, .int .i64 (mkIn k (ns ++ [v])).a, .int .i64 (mkIn k (ns ++ [v])).b, .int .i64 (mkIn k (ns ++ [v])).c, Lv'] ∧
                      wc.ownsRow (hz + 3) 3 1 Lv' (mkIn k (ns ++ [v])).l.length ((mkIn k (ns ++ [v])).l.map (Value.int .i64)) ∧ Below (hz + 2) wo wc))
                  case first =>
                    cases hat : atoi? pc.data.toList with
                    | none =>
                      have hbl := HBi.out.lt
                      have HNo := Lib.hid (Atoi_no pc HPZ.out hat wr HEi.out)
                      have hres : res = (noIn, false) := by
                        rw [HR.out]
                        unfold readP
                        rw [HF.out]
                        dsimp only
                        rw [mapM_none atoi? _ pc.data.toList (by rw [← HPI.out]; exact List.mem_map_of_mem (List.getElem_mem hil)) hat]
                      have HRes := Lib.hid hres
                      clear hat hres
                      go_wp2_with (go_at_call 34; refine HNo.out.mono ?_; rintro e w2 ⟨⟨x, N, rfl⟩, hb2⟩; have hB1' := ((HB1.out.below HBe.out (by omega)).below hb2 (by have := HBe.out.size; omega)); have hk1' := instr_at hB1'; have hf1' := instr_fz hB1'; have HB2' := Lib.hid (And.intro hB1' hb2); clear hb2 hB1')
                      refine stored5 HB2'.out.1 ?_
                      intro W3 hB3' hG3
                      refine bodyPost_ret (v := .tuple #[.agg #[.int .i64 0, .int .i64 0, .int .i64 0, .int .i64 0, .slice none 0 0], .bool false]) (by simp [results, Tryd.results24, go_sem, instr_at hB3']) rfl ?_
                      rw [HRes.out]
                      refine ⟨none, 0, rfl, World.ownsRow_nil _ _ _ _, ?_⟩
                      have h1 := HB3.out.trans (HBe.out.mono (show hz ≤ hz + 2 by omega))
                      have h2 := h1.trans (HB2'.out.2.mono (by have := h1.size; omega))
                      rw [Hh.out]
                      exact h2.grown hG3 (by have := HB2'.out.2.size; omega) (fun j hj => by injection hj with hj; omega)
                    | some v =>
                      have HY := Lib.hid (Atoi_yes pc HPZ.out v hat)
                      have HAT := Lib.hid hat
                      clear hat
                      go_upto_block 4 with (go_at_call 34; refine (HY.out _).mono ?_; rintro e w2 ⟨rfl, hb2⟩; have HB2' := Lib.hid hb2; clear hb2)
                      have hBi2 := HBi.out.below HB2'.out HBi.out.lt
                      have hk2 := instr_at hBi2
                      have hf2 := instr_fz hBi2
                      have hO2 := own_below HO.out HB2'.out
                      have hBe2 := HBe.out.trans (HB2'.out.mono (by have := HBi.out.lt; omega))
                      have HBi2 := Lib.hid hBi2
                      have HO2 := Lib.hid hO2
                      have HBe2 := Lib.hid hBe2
                      have hsz2 : hz + 3 ≤ w2.heap.size := hBi2.lt
                      clear hBi2 hO2 hBe2 HB2' HY hpc HBi HO HBe
                      by_cases hA : i = 0 ∧ 0 < n
                      · obtain ⟨rfl, hn0⟩ := hA
                        have hns : ns = [] := List.eq_nil_of_length_eq_zero HNL.out
                        subst hns
                        have hn0z : (0 : Int) < (n : Int) := by omega
                        go_wp2
                        go_meet
                        case rel =>
                          refine ⟨rfl, v, Lv, HAT.out, ?_, ?_, ?_⟩
                          · rw [mk_A (by rw [HH.out.1]; omega)]
                            exact HBi2.out.set_ 1 (.int .i64 v)
                          · rw [mk_A (by rw [HH.out.1]; omega)]
                            exact ownsRow_setCell_below HO2.out (by show hz + 2 < hz + 3; omega) _
                          · exact HBe2.out.setCell (Nat.le_refl _) _
                      · by_cases hB : i = 1 ∧ 1 < n
                        · obtain ⟨rfl, hn0⟩ := hB
                          obtain ⟨n0, hns⟩ : ∃ n0, ns = [n0] := List.length_eq_one_iff.1 HNL.out
                          subst hns
                          have hn0z : (1 : Int) < (n : Int) := by omega
                          clear hA
                          go_wp2
                          go_meet
                          case rel =>
                            refine ⟨rfl, v, Lv, HAT.out, ?_, ?_, ?_⟩
                            · rw [mk_B (by rw [HH.out.1]; omega)]
                              exact HBi2.out.set_ 2 (.int .i64 v)
                            · rw [mk_B (by rw [HH.out.1]; omega)]
                              exact ownsRow_setCell_below HO2.out (by show hz + 2 < hz + 3; omega) _
                            · exact HBe2.out.setCell (Nat.le_refl _) _
                        · by_cases hC : i = 2 ∧ 2 < n
                          · obtain ⟨rfl, hn0⟩ := hC
                            obtain ⟨n0, n1, hns⟩ : ∃ n0 n1, ns = [n0, n1] := len_two HNL.out
                            subst hns
                            have hn0z : (2 : Int) < (n : Int) := by omega
                            clear hA hB
                            go_wp2
                            go_meet
                            case rel =>
                              refine ⟨rfl, v, Lv, HAT.out, ?_, ?_, ?_⟩
                              · rw [mk_C (by rw [HH.out.1]; omega)]
                                exact HBi2.out.set_ 3 (.int .i64 v)
                              · rw [mk_C (by rw [HH.out.1]; omega)]
                                exact ownsRow_setCell_below HO2.out (by show hz + 2 < hz + 3; omega) _
                              · exact HBe2.out.setCell (Nat.le_refl _) _
                          · cases lst with
                            | false =>
                              have hmk : mkIn k (ns ++ [v]) = mkIn k ns := mk_E HH.out.2.1 (by rw [HH.out.1, HNL.out]; omega) (by rw [HH.out.1, HNL.out]; omega) (by rw [HH.out.1, HNL.out]; omega)
                              have HMK := Lib.hid hmk
                              clear hmk
                              have h4 : (i = 0 ∧ n = 0) ∨ (i = 1 ∧ n ≤ 1) ∨ (i = 2 ∧ n ≤ 2) ∨ 3 ≤ i := by omega
                              clear hA hB hC
                              rcases h4 with ⟨rfl, rfl⟩ | ⟨rfl, hh⟩ | ⟨rfl, hh⟩ | hh
                              · go_wp2
                                go_meet
                                case rel =>
                                  refine ⟨rfl, v, Lv, HAT.out, ?_, ?_, HBe2.out⟩
                                  · rw [HMK.out]; exact HBi2.out
                                  · rw [HMK.out]; exact HO2.out
                              · go_wp2
                                go_meet
                                case rel =>
                                  refine ⟨rfl, v, Lv, HAT.out, ?_, ?_, HBe2.out⟩
                                  · rw [HMK.out]; exact HBi2.out
                                  · rw [HMK.out]; exact HO2.out
                              · go_wp2
                                go_meet
                                case rel =>
                                  refine ⟨rfl, v, Lv, HAT.out, ?_, ?_, HBe2.out⟩
                                  · rw [HMK.out]; exact HBi2.out
                                  · rw [HMK.out]; exact HO2.out
                              · have e0 : ((i : Int) == 0) = false := beq_eq_false_iff_ne.2 (by omega)
                                have e1 : ((i : Int) == 1) = false := beq_eq_false_iff_ne.2 (by omega)
                                have e2 : ((i : Int) == 2) = false := beq_eq_false_iff_ne.2 (by omega)
                                go_wp2
                                go_meet
                                case rel =>
                                  refine ⟨rfl, v, Lv, HAT.out, ?_, ?_, HBe2.out⟩
                                  · rw [HMK.out]; exact HBi2.out
                                  · rw [HMK.out]; exact HO2.out
                            | true =>
                              have hn2 : n = 2 := by
                                have := wordL_N HH.out.2.1
                                rw [HH.out.1] at this
                                omega
                              subst hn2
                              have hi2 : 2 ≤ i := by omega
                              clear hA hB hC
                              have hmk : mkIn k (ns ++ [v]) = { mkIn k ns with l := (mkIn k ns).l ++ [v] } := mk_D HH.out.2.1 (by rw [HNL.out]; omega)
                              have HMK := Lib.hid hmk
                              have hll : (mkIn (k : Int) ns).l.length ≤ i := by
                                unfold mkIn
                                dsimp only
                                split
                                · rw [List.length_drop, HNL.out]; omega
                                · simp
                              clear hmk
                              have e0 : ((i : Int) == 0) = false := beq_eq_false_iff_ne.2 (by omega)
                              have e1 : ((i : Int) == 1) = false := beq_eq_false_iff_ne.2 (by omega)
                              have hi4 : i = 2 ∨ 3 ≤ i := by omega
                              clear e0 e1
                              rcases hi4 with rfl | hi4
                              all_goals
                                go_wp2_with (at_builtin; refine wpList_append_any _ rfl (.tmp 86) (.tmp 88) _ rfl (hz + 3) 3 i0 _ 1 8 Tryd.underlying24 HI0.out HZ.out.1 HZ.out.2.1 HZ.out.2.2 rfl (by omega) Lv _ _ rfl (own_alloc HO2.out _) (w2.heap.size + 1) (some ⟨w2.heap.size, 0, none⟩) 1 1 [.int .i64 v] rfl (reads_new w2 _ 3) (by simp [Value.oneCell']) (by simp only [maxLen]; omega) (by omega) (by simp; omega) ?_; intro v3 w3 hown3 hg3 hat3; have hBx := (HBi2.out.alloc (.cells #[.int .i64 v] 3)).grown hg3 (fun e => by have := (HO2.out.lt _ e.symm).1; omega); have hx4 := (instr_at hBx).2.2.2.2; have hf4 := (instr_fz hBx).2.2.2.2; obtain ⟨g3, c3, rfl⟩ := own_form hown3 (by omega); have Hw3 := Lib.hid (And.intro hBx (And.intro hown3 (And.intro hg3 hat3))); clear hBx hown3 hg3 hat3)
                                go_meet
                                case rel =>
                                  obtain ⟨hBx, hown3, hg3, hat3⟩ := Hw3.out
                                  refine ⟨rfl, v, .slice (some ⟨g3, 0, none⟩) ((mkIn (k : Int) ns).l.length + 1) c3, HAT.out, ?_, ?_, ?_⟩
                                  · rw [HMK.out]; exact hBx.set_ 4 _
                                  · rw [HMK.out]
                                    have := ownsRow_setCell_below hown3 (a := ⟨hz + 2, 4, none⟩) (by show hz + 2 < hz + 3; omega) (.slice (some ⟨g3, 0, none⟩) ((mkIn (k : Int) ns).l.length + 1) c3)
                                    simpa using this
                                  · exact (((HBe2.out.alloc (by omega) _).grown hg3 (by simp; omega) (fun j hj => by have := (HO2.out.lt _ hj).1; omega)).setCell (Nat.le_refl _) _)
                  case rest =>
                    obtain ⟨rfl, v, Lv', hat, hB', hO', hBe'⟩ := hcut
                    have HAT := Lib.hid hat
                    have HB' := Lib.hid hB'
                    have HO' := Lib.hid hO'
                    have HBe' := Lib.hid hBe'
                    clear hat hB' hO' hBe' hpc
                    go_wp2
                    go_roundg (rest.length - (i + 1))
                    case measure => omega
                    case rel =>
                      refine ⟨i + 1, ns ++ [v], Lv', by omega, by omega, by go_num, (show Aside _ from ?_), HB'.out, HO'.out, HBe'.out⟩
                      have e : rest.take (i + 1) = rest.take i ++ [pc] := by
                        rw [List.take_succ_eq_append_getElem hil, HPI.out]
                      show ((rest.take (i + 1)).map (·.data.toList)).mapM atoi? = some (ns ++ [v])
                      rw [e, List.map_append]
                      exact mapM_snoc _ _ _ _ _ HM.out HAT.out
                · have hi' : i = rest.length := by omega
                  subst hi'
                  go_wp2
                  go_meet
                  case rel =>
                    refine ⟨rfl, ?_⟩
                    have hM := HM.out
                    rw [List.take_of_length_le (Nat.le_refl _)] at hM
                    have hO := HO.out
                    have hv : ∃ A c, Lv = .slice A (mkIn (k : Int) ns).l.length c := by
                      rcases hO.2 with ⟨e, e0⟩ | ⟨g, cap, cur, e, _⟩
                      · exact ⟨none, 0, by rw [e, e0]⟩
                      · exact ⟨_, _, e⟩
                    obtain ⟨A, c, rfl⟩ := hv
                    exact ⟨ns, A, c, hM, HBi.out, hO, HBe.out⟩
          case rest =>
            obtain ⟨rfl, ns, A, c, hM, hBx, hRd, hBe⟩ := hcut
            have hk2 := instr_at hBx
            have HM := Lib.hid hM
            have HBX := Lib.hid hBx
            have HRD := Lib.hid hRd
            have HBE := Lib.hid hBe
            clear hM hBx hRd hBe
            have h64 : (mkIn (k : Int) ns).I64s := mkIn_I64s ⟨by omega, by omega⟩ (fun y hy => by
              obtain ⟨x, _, e⟩ := mapM_mem _ _ _ HM.out y hy
              exact atoi_I64 e)
            have hres : res = (mkIn k ns, (mkIn k ns).line == s.data.toList) := by
              rw [HR.out]
              unfold readP
              rw [HF.out]
              dsimp only
              rw [HM.out]
            have HRes := Lib.hid hres
            have hln := mkIn_len (k : Int) ns
            have hkk : (mkIn (k : Int) ns).k = k := rfl
            have hLine := fun W (hW : Below wc.heap.size wc W) => line_any (mkIn k ns) A (mkIn (k : Int) ns).l.length c W (((HE.out.below (w' := wo) (by rw [Hh.out]; exact HB3.out)).below (HBE.out.mono (by omega))).below hW) h64 (by have h1 := mapM_len _ _ _ HM.out; have h2 := mkIn_len (k : Int) ns; simp at h1; omega) (Reads.of_own (own_below HRD.out hW))
            unfold In.v at hLine
            rw [hkk] at hLine
            have HLine := Lib.hid hLine
            clear hLine hres h64
            generalize mkIn (k : Int) ns = x at *
            have hB1 := HB1.out.below HBE.out (by omega)
            have k1 := instr_at hB1
            have f1 := instr_fz hB1
            have HB1w := Lib.hid hB1
            clear hB1
            have hwcs := HBX.out.lt
            go_wp2_with fail
            go_region_with (go_at_call 23; refine (HLine.out _ ((Below.refl _ _).drew)).mono ?_; rintro e w2 ⟨rfl, hb2⟩; have hBx2 := Blk.below (w := wc.drew) HB1w.out hb2 HB1w.out.lt; have hBy2 := Blk.below (w := wc.drew) HBX.out hb2 HBX.out.lt; have hk3 := instr_at hBx2; have hf3 := instr_fz hBx2; have hk4 := instr_at hBy2; have HB2x := Lib.hid (And.intro hBx2 (show Below wc.heap.size wc w2 from (Below.refl wc.heap.size wc).drew.trans hb2)); clear hBx2 hBy2 hb2)
            all_goals
              go_wp2
              refine stored5 HB2x.out.1 ?_
              intro W3 hB3' hG3
              refine bodyPost_ret (v := .tuple #[.agg #[.int .i64 k, .int .i64 x.a, .int .i64 x.b, .int .i64 x.c, .slice A x.l.length c], .bool (x.line == s.data.toList)]) (by simp [results, Tryd.results24, go_sem, instr_at hB3', ByteArray.toList_eq]) rfl ?_
              rw [HRes.out]
              refine ⟨A, c, ?_, ?_, ?_⟩
              · unfold In.v; rw [hkk]
              · have h1 := own_below HRD.out HB2x.out.2
                have h2 := h1.kept hG3 (by
                  cases e : (Value.slice A x.l.length c).ownBlock with
                  | none => exact .inl rfl
                  | some j => exact .inr (by intro e2; have := (h1.lt j e).1; injection e2 with e2; omega))
                rw [Hh.out]
                exact own_base h2 (by omega)
              · have h1 := HB3.out.trans (HBE.out.mono (show hz ≤ hz + 2 by omega))
                have h2 := h1.trans (HB2x.out.2.mono (by omega))
                rw [Hh.out]
                exact h2.grown hG3 (by have := HB2x.out.2.size; omega) (fun j hj => by injection hj with hj; omega)
      · go_wp2_with (go_at_call 29; refine HW.out.mono ?_; rintro e w1 ⟨rfl, rfl⟩)
        go_roundg (8 - (k + 1))
        case measure => omega
        case rel =>
          refine ⟨k + 1, by omega, by omega, by omega, by go_num, rfl, (show Aside _ from ?_)⟩
          intro j h1 h2
          by_cases e : j = k
          · subst e
            unfold kindOk
            rw [HH.out.2.2]
            simp; intro hh; exact absurd ((ByteArray.toList_eq p0).trans hh) hw
          · exact HK.out j h1 (by omega)
    · have hk : k = 8 := by omega
      subst hk
      have k1 := instr_at HB1.out
      have k2 := instr_fz HB1.out
      have hres : res = (noIn, false) := by
        rw [HR.out]
        unfold readP
        rw [kindOf_none (fun j h1 h2 => HK.out j h1 h2)]
      have HRes := Lib.hid hres
      clear hres
      go_wp2
      refine stored5 HB1.out ?_
      intro W3 hB3' hG3
      refine bodyPost_ret (v := .tuple #[.agg #[.int .i64 0, .int .i64 0, .int .i64 0, .int .i64 0, .slice none 0 0], .bool false]) (by simp [results, Tryd.results24, go_sem, instr_at hB3']) rfl ?_
      rw [HRes.out]
      refine ⟨none, 0, rfl, World.ownsRow_nil _ _ _ _, ?_⟩
      exact HB3.out.grown hG3 (by omega) (fun j hj => by injection hj with hj; omega)
end Go.Proofs.YthkffcnifhcjoaaDoor
