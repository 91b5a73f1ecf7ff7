/- ltklaw6.ProgBack returns true, whatever its arguments. -/
import Derived.Test.YthkffcnifhcjoaaDoorBack
import Derived.Test.YthkffcnifhcjoaaDoorLawAddr
set_option linter.unusedSimpArgs false
set_option linter.unusedVariables false
namespace Go.Proofs.YthkffcnifhcjoaaDoor
open Go.RowKit Go.Sort

/-- The address of an instruction is a word. -/
theorem Addr_some (c : Cf) (hok : c.ok = true) (x : In) (regs : List Int) (A : Option Addr) (cap : Nat) : ∃ a, 0 ≤ a ∧ a < c.words ∧ ∀ (W : World) (L : Value), Reads W W.heap.size 1 A regs.length (regs.map (Value.int .i64)) →
    Calls Tryd.prog 12 #[c.v, x.v L, .slice A regs.length cap] W fun e w' => e = .returned (.int .i64 a) ∧ Below W.heap.size W w' := by
  have hw := words_pos hok
  by_cases h1 : x.c = -1
  · refine ⟨_, (wrapZ_bd x.b c.words hw).1, (wrapZ_bd x.b c.words hw).2, fun W L _ => ?_⟩
    obtain ⟨k, a, b, cc, l⟩ := x
    simp only at h1
    subst h1
    exact Addr_minus c k a b L _ W
  · by_cases h2 : x.c < 0 ∨ (regs.length : Int) ≤ x.c
    · refine ⟨0, by omega, by omega, fun W L _ => ?_⟩
      exact Addr_out c x.k x.a x.b x.c L A regs.length cap W h1 h2
    · have hlt : x.c.toNat < regs.length := by omega
      refine ⟨_, (wrapZ_bd (wrap64 (x.b + regs[x.c.toNat])) c.words hw).1, (wrapZ_bd (wrap64 (x.b + regs[x.c.toNat])) c.words hw).2, fun W L hR => ?_⟩
      obtain ⟨rb, ro, u, rfl, _, hu, hcell⟩ := hR.get_ hlt
      rw [List.getElem?_map, List.getElem?_eq_getElem hlt] at hu
      simp only [Option.map_some, Option.some.injEq] at hu
      subst hu
      exact Addr_reg c x.k x.a x.b x.c _ L rb ro regs.length cap W (by omega) (by omega) hcell

set_option maxHeartbeats 4000000 in
set_option maxRecDepth 100000 in
theorem progBack_skip (c : Cf) (xs : List In) (A B : Option Addr) (n d1 d2 : Nat) (w : World) (hE : Env w) (hx : InsAt w w.heap.size A xs) (nx : xs.length ≤ 9223372036854775807)
    (hs : fewB xs = false ∨ (fewB xs = true ∧ (100 < (n : Int) ∨ ((n : Int) ≤ 100 ∧ chkP c xs ≠ 0)))) :
    Calls Tryd.prog 7 #[c.v, .slice A xs.length d1, .slice B n d2] w fun e w' => e = .returned (.bool true) ∧ Below w.heap.size w w' := by
  have HE := Lib.hid hE
  have HF := Lib.hid first_any
  have HX := Lib.hid (fun W (hb : Below w.heap.size w W) => Few_any xs A d1 W (hx.next hb) nx)
  have HC := Lib.hid (fun (hf : fewB xs = true) W (hb : Below w.heap.size w W) => PCheck_any c xs A d1 W (hx.next hb) (fun x h => by have := (fewB_bounds hf).2 x h; omega) (by have := (fewB_bounds hf).1; omega))
  clear hE hx
  generalize chkP c xs = ck at HC hs
  generalize fewB xs = bx at HX hs HC
  obtain ⟨c0, c1, c2, c3, c4, c5, c6, c7, c8, c9, c10, c11⟩ := c
  unfold Cf.v at *
  dsimp only at *
  have hs' : bx = false ∨ (bx = true ∧ 100 < (n : Int)) ∨ (bx = true ∧ (n : Int) ≤ 100 ∧ (ck == 0) = false ∧ (ck != 0) = true) := by
    rcases hs with h | ⟨h, h2 | ⟨h2, h3⟩⟩
    · exact .inl h
    · exact .inr (.inl ⟨h, h2⟩)
    · exact .inr (.inr ⟨h, h2, beq_eq_false_iff_ne.2 h3, bne_iff_ne.2 h3⟩)
  clear hs
  rcases hs' with rfl | ⟨rfl, h2⟩ | ⟨rfl, h2, h3, h4⟩
  all_goals
    go_enter Tryd.func7, Tryd.ntmps7
    go_upto_region 1 with (fail)
    refine boxed1 ?_
    intro W0 hB1 hB2 hB3
    have HBK := Lib.hid hB1
    have HB0 := Lib.hid hB2
    clear hB1 hB2
    go_upto_region 3 with (go_at_call 8; refine (HF.out W0 (HE.out.below HB0.out)).mono ?_; rintro e w1 ⟨rfl, hb⟩; have H1 := Lib.hid (HB0.out.trans (hb.mono HB0.out.size)); have hk := conf_at (HBK.out.below hb HBK.out.lt); clear hb)
    go_wp2_with (first
      | (go_at_call 14; refine (HX.out w1 H1.out).mono ?_; rintro e w2 ⟨rfl, rfl⟩)
      | (go_at_call 9; refine (HC.out (by trivial) w1 H1.out).mono ?_; rintro e w3 ⟨rfl, hb⟩; have H3 := Lib.hid (H1.out.trans (hb.mono H1.out.size)); clear hb)
      | (go_at_call 8; first | (refine (HF.out _ (HE.out.below H3.out)).mono ?_; rintro e w4 ⟨rfl, hb⟩; have H4 := Lib.hid (H3.out.trans (hb.mono H3.out.size)); clear hb) | (refine (HF.out _ (HE.out.below H1.out)).mono ?_; rintro e w4 ⟨rfl, hb⟩; have H4 := Lib.hid (H1.out.trans (hb.mono H1.out.size)); clear hb)))
    go_ret
    exact ⟨rfl, H4.out⟩

set_option maxHeartbeats 8000000 in
set_option maxRecDepth 100000 in
theorem progBack_main (c : Cf) (xs : List In) (regs : List Int) (A B : Option Addr) (d1 d2 : Nat) (w : World) (hE : Env w) (hx : InsAt w w.heap.size A xs) (ox : ∀ x ∈ xs, x.I64s) (hR : Reads w w.heap.size 1 B regs.length (regs.map (Value.int .i64)))
    (fx : fewB xs = true) (hn : (regs.length : Int) ≤ 100) (hck : chkP c xs = 0) :
    Calls Tryd.prog 7 #[c.v, .slice A xs.length d1, .slice B regs.length d2] w fun e w' => e = .returned (.bool true) ∧ Below w.heap.size w w' := by
  obtain ⟨nx, lx⟩ := fewB_bounds fx
  obtain ⟨hok, hlen, hmay⟩ := chk_inv hck
  have hkind : ∀ x ∈ xs, Kind x.k ∧ x.I64s := fun x h => by
    obtain ⟨j, hj, rfl⟩ := List.getElem_of_mem h
    exact ⟨may_kind (hmay j _ (List.getElem?_eq_getElem hj)), ox _ h⟩
  have hck2 : chkP c (xs.map canon) = 0 := by
    refine chkP_yes _ _ hok (by rw [List.length_map]; exact hlen) (fun j hj x hxj => ?_)
    rw [List.getElem?_map] at hxj
    obtain ⟨y, hy, rfl⟩ := Option.map_eq_some_iff.1 hxj
    rw [List.length_map]
    exact may_canon (hmay j y hy)
  have hlines : linesOf (xs.map canon) = linesOf xs := by
    unfold linesOf
    rw [List.map_map]
    exact List.map_congr_left fun x h => by simp only [Function.comp]; rw [canon_line (hkind x h).1]
  have hcan : ∀ x ∈ xs.map canon, x.I64s ∧ x.l.length ≤ 1000 := fun x h => by
    obtain ⟨y, hy, rfl⟩ := List.mem_map.1 h
    have h64 := (hkind y hy).2
    refine ⟨mkIn_I64s h64.k (In.nums_I64 h64), ?_⟩
    have h1 := mkIn_len y.k y.nums
    have h2 := In.nums_len y
    have h3 := lx y hy
    show (mkIn y.k y.nums).l.length ≤ 1000
    omega
  have HE := Lib.hid hE
  have HF := Lib.hid first_any
  have HX := Lib.hid hx
  have HFX := Lib.hid (fun W (hb : Below w.heap.size w W) => Few_any xs A d1 W (hx.next hb) (by omega))
  rw [fx] at HFX
  have HC := Lib.hid (fun W (hb : Below w.heap.size w W) => PCheck_any c xs A d1 W (hx.next hb) (fun x h => by have := lx x h; omega) (by omega))
  rw [hck] at HC
  have HC2 := Lib.hid (fun A d W hI => PCheck_any c (xs.map canon) A d W hI (fun x h => (hcan x h).2) (by rw [List.length_map]; omega))
  rw [hck2, List.length_map] at HC2
  have e3 : strV (xs.map In.line) = (linesOf xs).map Value.string := by simp [strV, linesOf]
  have e4 : strV ((xs.map canon).map In.line) = (linesOf xs).map Value.string := by rw [← hlines]; simp [strV, linesOf]
  have HP := Lib.hid (fun W (hb : Below w.heap.size w W) => Print_any xs A d1 W (hE.below hb) (hx.next hb) ox (fun x h => by have := lx x h; omega) (by omega))
  have HP2 := Lib.hid (fun A d W hE hI => Print_any (xs.map canon) A d W hE hI (fun x h => (hcan x h).1) (fun x h => (hcan x h).2) (by rw [List.length_map]; omega))
  rw [List.length_map, e4] at HP2
  rw [e3] at HP
  clear e3 e4
  have HPa := Lib.hid (fun A d W hE hR => Parse_lines xs 100 (by omega) A d W hE hR hkind lx (by omega))
  rw [linesOf_len] at HPa
  have HS := Lib.hid (fun A d W hI => Same_refl (xs.map canon) A A xs.length xs.length d d (by rw [List.length_map]) (by rw [List.length_map]) W hI hI (fun x h => by have := (hcan x h).2; omega) (by rw [List.length_map]; omega))
  have HT := Lib.hid (fun A B d e W hA hB => Texts_same (linesOf xs) xs.length (linesOf_len xs) (by omega) A B d e W hA hB)
  have HA := Lib.hid (fun x => Addr_some c hok x regs B d2)
  have HWd := Lib.hid (fun W => Words_any c W)
  have HMay := Lib.hid hmay
  have HR := Lib.hid hR
  clear hE hx ox hR fx hck nx lx hok hmay hkind hck2 hlines hcan
  generalize hnx : xs.length = m at *
  generalize c.words = wds at *
  have HNX := Lib.hid hnx
  clear hnx
  obtain ⟨c0, c1, c2, c3, c4, c5, c6, c7, c8, c9, c10, c11⟩ := c
  unfold Cf.v at *
  dsimp only at *
  go_enter Tryd.func7, Tryd.ntmps7
  go_upto_region 1 with (fail)
  refine boxed1 ?_
  intro W0 hB1 hB2 hB3
  have HBK := Lib.hid hB1
  have HB0 := Lib.hid hB2
  clear hB1 hB2
  go_upto_region 3 with (go_at_call 8; refine (HF.out W0 (HE.out.below HB0.out)).mono ?_; rintro e w1 ⟨rfl, hb⟩; have H1 := Lib.hid (HB0.out.trans (hb.mono HB0.out.size)); have HBK1 := Lib.hid (HBK.out.below hb HBK.out.lt); have hk := conf_at HBK1.out; clear hb)
  go_wp2_with (first
    | (go_at_call 14; refine (HFX.out w1 H1.out).mono ?_; rintro e w2 ⟨rfl, rfl⟩)
    | (go_at_call 9; refine (HC.out w1 H1.out).mono ?_; rintro e w3 ⟨rfl, hb⟩; have H3 := Lib.hid (H1.out.trans (hb.mono H1.out.size)); have HBK3 := Lib.hid (HBK1.out.below hb HBK1.out.lt); clear hb))
  clear hk HBK HBK1 HB0
  have hHX := Lib.hid (HX.out.next H3.out)
  go_loopg [7, 8] m (fun gg s7 s8 wr => ∃ k : Nat, k ≤ m ∧ m - k ≤ gg ∧ s7 = .int .i64 k ∧ Aside (Below w.heap.size w wr) ∧ Aside (Blk wr w.heap.size 30 #[.int .i64 c0, .int .i64 c1, .int .i64 c2, .int .i64 c3, .int .i64 c4, .int .i64 c5, .int .i64 c6, .int .i64 c7, .int .i64 c8, .int .i64 c9, .int .i64 c10, .int .i64 c11]))
  case atStart => exact ⟨0, by omega, by omega, rfl, H3.out, HBK3.out⟩
  case round =>
    obtain ⟨k, hk, hgg, rfl, BW, BC⟩ := hrel
    by_cases hlt : k < m
    · have hltz : (k : Int) < (m : Int) := by omega
      have hx : xs[k]? = some (xs[k]'(by have := HNX.out; omega)) := List.getElem?_eq_getElem _
      generalize (xs[k]'(by have := HNX.out; omega)) = x at hx
      obtain ⟨b, o, A', c', hA, hb, hr, e0, e1, e2, e3, e4⟩ := (HX.out.next BW.out).get hx
      subst hA
      have HXm := Lib.hid (HMay.out k x hx)
      obtain ⟨a, ha0, ha1, hcall⟩ := HA.out x
      have HCall := Lib.hid (fun W (hW : Below wr.heap.size wr W) => hcall W (.slice A' x.l.length c') ((HR.out.below (BW.out.trans (hW.mono BW.out.size))).more (Nat.le_trans BW.out.size hW.size)))
      unfold In.v at HCall
      have kc := fun d os => conf_at (BC.out.regrown d os)
      have hb' : b < wr.heap.size := hb
      have x0 := fun d os => ((below_regrown wr d os).cell (p := ⟨b, o + k * 5, none⟩) hb).trans e0
      have x1 := fun d os => ((below_regrown wr d os).cell (p := ⟨b, o + k * 5 + 1, none⟩) hb).trans e1
      have x2 := fun d os => ((below_regrown wr d os).cell (p := ⟨b, o + k * 5 + 2, none⟩) hb).trans e2
      have x3 := fun d os => ((below_regrown wr d os).cell (p := ⟨b, o + k * 5 + 3, none⟩) hb).trans e3
      have x4 := fun d os => ((below_regrown wr d os).cell (p := ⟨b, o + k * 5 + 4, none⟩) hb).trans e4
      have E0 := Lib.hid e0
      have E2 := Lib.hid e2
      clear hx hcall hr e0 e1 e2 e3 e4
      go_upto_region 8 with (fail)
      refine wp_region_quiet_below (by kernel_rfl) (by kernel_rfl) ?_
      iterate 6 quiet_step (fail)
      quiet_step (exact quietly (fun W hb => HCall.out W hb) _ _)
      iterate 1 quiet_step (fail)
      refine wpQuiet_nil ?_
      intro W4 hw'
      have hb4 : Below wr.heap.size wr W4 := by
        obtain ⟨⟨dq, osq⟩, hw''⟩ := hw'
        subst hw''
        exact below_regrown wr dq osq
      have HB4 := Lib.hid (BW.out.trans (hb4.mono BW.out.size))
      have HC4 := Lib.hid (BC.out.below hb4 BC.out.lt)
      have y0 := (hb4.cell (p := ⟨b, o + k * 5, none⟩) hb).trans E0.out
      have y2 := (hb4.cell (p := ⟨b, o + k * 5 + 2, none⟩) hb).trans E2.out
      have kc4 := conf_at HC4.out
      have hb4' : b < W4.heap.size := Nat.lt_of_lt_of_le hb hb4.size
      clear kc x0 x1 x2 x3 x4 hw' hb4 BC
      have hB := HXm.out
      have hcs : ((x.k == 5) = true ∧ (x.k == 4) = false ∧ (k : Int) < x.b ∧ x.b ≤ (m : Int)) ∨ ((x.k == 5) = false ∧ (x.k == 4) = true ∧ knownK x.b = true) ∨ ((x.k == 5) = false ∧ (x.k == 4) = false) := by
        by_cases h5 : x.k = 5
        · obtain ⟨j1, j2⟩ := may_jump_inv hB h5
          exact .inl ⟨beq_iff_eq.2 h5, beq_eq_false_iff_ne.2 (by omega), j1, j2⟩
        · by_cases h4 : x.k = 4
          · exact .inr (.inl ⟨beq_eq_false_iff_ne.2 h5, beq_iff_eq.2 h4, may_calc_inv hB h4⟩)
          · exact .inr (.inr ⟨beq_eq_false_iff_ne.2 h5, beq_eq_false_iff_ne.2 h4⟩)
      have HK := Lib.hid (fun W => KnownK_any x.b W)
      clear hB HCall HXm E0 E2
      generalize x.k = xk at *
      generalize x.b = xb at *
      rcases hcs with ⟨h5, h4, j1, j2⟩ | ⟨h5, h4, j1⟩ | ⟨h5, h4⟩
      · obtain rfl := beq_iff_eq.1 h5
        clear h5 h4
        go_wp2_with (go_at_call 11; refine (HWd.out _).mono ?_; rintro e w5 ⟨rfl, hb5⟩; have HB5 := Lib.hid hb5; have y0' := (hb5.cell (p := ⟨b, o + k * 5, none⟩) hb4').trans y0; have y2' := (hb5.cell (p := ⟨b, o + k * 5 + 2, none⟩) hb4').trans y2; clear hb5)
        go_roundg (m - (k + 1))
        case measure => omega
        case rel => exact ⟨k + 1, by omega, Nat.le_refl _, by go_num, HB4.out.trans (HB5.out.mono HB4.out.size), HC4.out.below HB5.out HC4.out.lt⟩
      · obtain rfl := beq_iff_eq.1 h4
        rw [j1] at HK
        clear h5 h4 j1
        go_wp2_with (first
          | (go_at_call 11; refine (HWd.out _).mono ?_; rintro e w5 ⟨rfl, hb5⟩; have HB5 := Lib.hid hb5; have y0' := (hb5.cell (p := ⟨b, o + k * 5, none⟩) hb4').trans y0; have y2' := (hb5.cell (p := ⟨b, o + k * 5 + 2, none⟩) hb4').trans y2; clear hb5)
          | (go_at_call 18; refine (HK.out _).mono ?_; rintro e w6 ⟨rfl, rfl⟩))
        go_roundg (m - (k + 1))
        case measure => omega
        case rel => exact ⟨k + 1, by omega, Nat.le_refl _, by go_num, HB4.out.trans (HB5.out.mono HB4.out.size), HC4.out.below HB5.out HC4.out.lt⟩
      · go_wp2_with (go_at_call 11; refine (HWd.out _).mono ?_; rintro e w5 ⟨rfl, hb5⟩; have HB5 := Lib.hid hb5; have y0' := (hb5.cell (p := ⟨b, o + k * 5, none⟩) hb4').trans y0; have y2' := (hb5.cell (p := ⟨b, o + k * 5 + 2, none⟩) hb4').trans y2; clear hb5)
        go_roundg (m - (k + 1))
        case measure => omega
        case rel => exact ⟨k + 1, by omega, Nat.le_refl _, by go_num, HB4.out.trans (HB5.out.mono HB4.out.size), HC4.out.below HB5.out HC4.out.lt⟩
    · have hkm : k = m := by omega
      subst hkm
      go_upto_region 12 with (go_at_call 15; with_reducible refine (HP.out wr BW.out).mono ?_; rintro e w4 ⟨v4, rfl, hown, hb⟩; have H4 := Lib.hid (BW.out.trans (hb.mono BW.out.size)); have HBK4 := Lib.hid (BC.out.below hb BC.out.lt); obtain ⟨A4, c4', rfl, hR4⟩ := own_reads hown; have HR4 := Lib.hid hR4; clear hown hb hR4)
      go_upto_region 13 with (go_at_call 16; with_reducible refine (HPa.out A4 c4' w4 (HE.out.below H4.out) HR4.out).mono ?_; rintro e w5 ⟨⟨A5, c5', rfl, hI⟩, hb⟩; have H5 := Lib.hid (H4.out.trans (hb.mono H4.out.size)); have HX5 := Lib.hid hI; have HBK5 := Lib.hid (HBK4.out.below hb HBK4.out.lt); have HR5 := Lib.hid ((HR4.out.below hb).more hb.size); clear hI hb)
      clear HR4 HBK4
      go_wp2_with (first
        | (go_at_call 8; refine (HF.out w5 (HE.out.below H5.out)).mono ?_; rintro e w6 ⟨rfl, hb⟩; have H6 := Lib.hid (H5.out.trans (hb.mono H5.out.size)); have HX6 := Lib.hid (HX5.out.next hb); have HBK6 := Lib.hid (HBK5.out.below hb HBK5.out.lt); have HR6 := Lib.hid ((HR5.out.below hb).more hb.size); clear hb)
        | (go_at_call 15; with_reducible refine (HP2.out A5 c5' w6 (HE.out.below H6.out) HX6.out).mono ?_; rintro e w7 ⟨v7, rfl, hown, hb⟩; have H7 := Lib.hid (H6.out.trans (hb.mono H6.out.size)); have HX7 := Lib.hid (HX6.out.next hb); have HBK7 := Lib.hid (HBK6.out.below hb HBK6.out.lt); have HR7 := Lib.hid ((HR6.out.below hb).more hb.size); obtain ⟨A7, c7', rfl, hR7⟩ := own_reads hown; have HS7 := Lib.hid hR7; clear hown hb hR7)
        | (go_at_call 19; with_reducible refine (HT.out A7 A4 c7' c4' w7 HS7.out HR7.out).mono ?_; rintro e w8 ⟨rfl, hb⟩; have H8 := Lib.hid (H7.out.trans (hb.mono H7.out.size)); have HX8 := Lib.hid (HX7.out.next hb); have HBK8 := Lib.hid (HBK7.out.below hb HBK7.out.lt); have kc8 := conf_at HBK8.out; clear hb)
        | (go_at_call 9; with_reducible refine (HC2.out A5 c5' w8 HX8.out).mono ?_; rintro e w9 ⟨rfl, hb⟩; have H9 := Lib.hid (H8.out.trans (hb.mono H8.out.size)); have HX9 := Lib.hid (HX8.out.next hb); clear hb)
        | (go_at_call 17; with_reducible refine (HS.out A5 c5' w9 HX9.out).mono ?_; rintro e w10 ⟨rfl, hb⟩; have H10 := Lib.hid (H9.out.trans (hb.mono H9.out.size)); clear hb))
      go_ret
      exact ⟨rfl, H10.out⟩
end Go.Proofs.YthkffcnifhcjoaaDoor
