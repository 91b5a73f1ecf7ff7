/- ltklaw6.ProgLines returns true, whatever its arguments. -/
import Derived.Test.YthkffcnifhcjoaaDoorLawWords
import Derived.Test.YthkffcnifhcjoaaDoorFew
set_option linter.unusedSimpArgs false
set_option linter.unusedVariables false
namespace Go.Proofs.YthkffcnifhcjoaaDoor
open Go.RowKit Go.Sort

section
variable {P : Program} (w : World)
/-- append, in a list of operations, where the guard lets it by. -/
theorem wpList_append_when {ops : Array Oper} {rest : List Oper} {o : Oper} {a : Act} {Q : Exit → Act → World → Prop} (hw : Region.wanted o (yielded ops a.tmps) = true) (s x : Operand) (t : TypeId)
    (ho : o.op = .call { callee := .builtin .append, args := #[s, x], argTypes := #[t, t] })
    (base : Nat) (e : TypeId) (i : TypeInfo) (z : Value) (size bytes : Nat) (ht : P.underlying t = some (.slice e)) (hi : P.info? e = some i) (hz : i.zero = some z)
    (hsize : i.size = size) (hby : i.bytes = bytes) (hzs : z.cells.size = size) (hsz : 0 < size)
    (v : Value) (n : Nat) (xs : List Value) (hs : a.eval s = v) (hown : w.ownsRow base e size v n xs)
    (B : Nat) (A : Option Addr) (m c : Nat) (news : List Value) (hx : a.eval x = .slice A m c) (hr : Reads w B size A m news) (h1 : ∀ u ∈ news, u.oneCell' = true)
    (h63 : n + m ≤ maxLen) (hbytes : (n + m) * bytes ≤ 140737488355328) (hbase : base ≤ w.heap.size)
    (h : ∀ v' w', w'.ownsRow base e size v' (n + m) (xs ++ news) → w.grownBy w' v.ownBlock → (v'.ownBlock = v.ownBlock ∨ v'.ownBlock = some w.heap.size) → wpList P ops Q rest (a.put o.dst v') w') : wpList P ops Q (o :: rest) a w :=
  wpList_step fun _ hK => by
    rw [if_pos hw]
    exact wp_append_any w s x t ho base e i z size bytes ht hi hz hsize hby hzs hsz v n xs hs hown B A m c news hx hr h1 h63 hbytes hbase fun v' w' h2 h3 h4 => hK _ _ (h v' w' h2 h3 h4)
end

/-- A row of the call's own reads as its slice. -/
theorem own_reads {w : World} {B : Nat} {e : TypeId} {size : Nat} {v : Value} {n : Nat} {xs : List Value} (h : w.ownsRow B e size v n xs) : ∃ A c, v = .slice A n c ∧ Reads w w.heap.size size A n xs := by
  by_cases hn : 0 < n
  · obtain ⟨g, c, rfl⟩ := own_form h hn
    exact ⟨_, c, rfl, Reads.of_own h⟩
  · have h0 : n = 0 := by omega
    have hl := h.1
    rcases h.2 with ⟨rfl, e⟩ | ⟨g, c, cur, rfl, _⟩
    · exact ⟨none, 0, by rw [e], ⟨hl, fun h => absurd h hn⟩⟩
    · exact ⟨_, c, rfl, Reads.of_own h⟩

/-- The error of a parse, and its instructions. -/
def errOf (r : Option (List In)) : Int := match r with | none => 2 | some _ => 0
def insOf (r : Option (List In)) : List In := r.getD []
theorem Parse_uni (ss : List ByteArray) (r : Option (List In)) (hr : parseS ss = r) (n : Nat) (hn : ss.length = n) (A : Option Addr) (c : Nat) (w : World) (hE : Env w) (hI : Reads w w.heap.size 1 A n (ss.map Value.string)) (hs : ∀ s ∈ ss, s.size ≤ 100000) (hm : n ≤ 100000) :
    Calls Tryd.prog 16 #[.slice A n c] w fun e w' => (∃ A' c', e = .returned (.tuple #[.slice A' (insOf r).length c', .int .i64 (errOf r)]) ∧ InsAt w' w'.heap.size A' (insOf r)) ∧ Below w.heap.size w w' := by
  subst hn hr
  refine (Parse_any ss A c w hE hI hs hm).mono fun e w' ⟨hp, hb⟩ => ⟨?_, hb⟩
  cases hps : parseS ss with
  | none =>
    rw [hps] at hp
    exact ⟨none, 0, hp, InsAt.nil _ _ _⟩
  | some xs =>
    rw [hps] at hp
    obtain ⟨v, ps, rfl, ho, hL⟩ := hp
    obtain ⟨A', c', rfl, hI⟩ := own_ins ho hL
    exact ⟨A', c', rfl, hI⟩
theorem parse_len' {ss : List ByteArray} {r : Option (List In)} (h : parseS ss = r) : (insOf r).length ≤ ss.length := by
  cases r with
  | none => simp [insOf]
  | some xs => rw [← parseS_len h]; exact Nat.le_refl _
theorem parse_small' {ss : List ByteArray} {r : Option (List In)} {M : Nat} (h : parseS ss = r) (hs : ∀ s ∈ ss, s.size ≤ M) : ∀ x ∈ insOf r, x.l.length ≤ M := by
  cases r with
  | none => simp [insOf]
  | some xs => exact parse_small h hs
theorem Same_refl (xs : List In) (A B : Option Addr) (n m c d : Nat) (hn : xs.length = n) (hm : xs.length = m) (w : World) (hx : InsAt w w.heap.size A xs) (hy : InsAt w w.heap.size B xs) (lx : ∀ x ∈ xs, x.l.length ≤ 100000) (h : xs.length ≤ 100000) :
    Calls Tryd.prog 17 #[.slice A n c, .slice B m d] w fun e w' => e = .returned (.bool true) ∧ Below w.heap.size w w' := by
  subst hn hm
  have h := Same_any xs xs A B c d w hx hy lx lx h h
  rw [sameP_refl] at h
  exact h

set_option maxHeartbeats 4000000 in
set_option maxRecDepth 100000 in
theorem progLines_skip (xs ys : List In) (A B : Option Addr) (c d : Nat) (w : World) (hE : Env w) (hx : InsAt w w.heap.size A xs) (hy : InsAt w w.heap.size B ys) (nx : xs.length ≤ 9223372036854775807) (ny : ys.length ≤ 9223372036854775807) (hs : (fewB xs && fewB ys) = false) :
    Calls Tryd.prog 5 #[.slice A xs.length c, .slice B ys.length d] w fun e w' => e = .returned (.bool true) ∧ Below w.heap.size w w' := by
  have HE := Lib.hid hE
  have HF := Lib.hid first_any
  have HX := Lib.hid (fun W (hb : Below w.heap.size w W) => Few_any xs A c W (hx.next hb) nx)
  have HY := Lib.hid (fun W (hb : Below w.heap.size w W) => Few_any ys B d W (hy.next hb) ny)
  clear hE hx hy nx ny
  generalize fewB xs = bx at HX hs
  generalize fewB ys = b2 at HY hs
  have hs' : bx = false ∨ (bx = true ∧ b2 = false) := by cases bx <;> cases b2 <;> simp_all
  clear hs
  rcases hs' with rfl | ⟨rfl, rfl⟩
  all_goals
    go_enter Tryd.func5, Tryd.ntmps5
    go_upto_region 3 with (go_at_call 8; refine (HF.out w HE.out).mono ?_; rintro e w1 ⟨rfl, hb⟩; have H1 := Lib.hid hb; clear hb)
    go_wp2_with (first
      | (go_at_call 14; with_reducible refine (HX.out w1 H1.out).mono ?_; rintro e w2 ⟨rfl, rfl⟩)
      | (go_at_call 14; with_reducible refine (HY.out w1 H1.out).mono ?_; rintro e w2 ⟨rfl, rfl⟩)
      | (go_at_call 8; refine (HF.out _ (HE.out.below H1.out)).mono ?_; rintro e w3 ⟨rfl, hb⟩; have H3 := Lib.hid hb; clear hb))
    go_ret
    exact ⟨rfl, H1.out.trans (H3.out.mono H1.out.size)⟩

theorem linesOf_append (xs ys : List In) : (linesOf xs).map Value.string ++ (linesOf ys).map Value.string = (linesOf xs ++ linesOf ys).map Value.string := by simp
theorem lines_case {r1 r2 r3 : Option (List In)} (h : r3 = r1.bind fun x => r2.map (x ++ ·)) :
    ((errOf r1 == 0) = true ∧ (errOf r2 == 0) = true ∧ (errOf r3 == 0) = true ∧ insOf r3 = insOf r1 ++ insOf r2) ∨ ((errOf r1 == 0) = true ∧ (errOf r2 == 0) = false ∧ (errOf r3 == 0) = false) ∨ ((errOf r1 == 0) = false ∧ (errOf r3 == 0) = false) := by
  subst h
  cases r1 with
  | none => exact .inr (.inr ⟨rfl, rfl⟩)
  | some x =>
    cases r2 with
    | none => exact .inr (.inl ⟨rfl, rfl, rfl⟩)
    | some y => exact .inl ⟨rfl, rfl, rfl, rfl⟩

set_option maxHeartbeats 8000000 in
set_option maxRecDepth 100000 in
theorem progLines_main (xs ys : List In) (A B : Option Addr) (c d : Nat) (w : World) (hE : Env w) (hx : InsAt w w.heap.size A xs) (hy : InsAt w w.heap.size B ys) (ox : ∀ x ∈ xs, x.I64s) (oy : ∀ x ∈ ys, x.I64s) (fx : fewB xs = true) (fy : fewB ys = true) :
    Calls Tryd.prog 5 #[.slice A xs.length c, .slice B ys.length d] w fun e w' => e = .returned (.bool true) ∧ Below w.heap.size w w' := by
  obtain ⟨i1, hi1, hy0, hy1, hy2⟩ := info_parts ins_info
  obtain ⟨i2, hi2, hz0, hz1, hz2⟩ := info_parts str_info
  have HI1 := Lib.hid hi1
  have HI2 := Lib.hid hi2
  have HY := Lib.hid (And.intro hy0 (And.intro hy1 hy2))
  have HZ := Lib.hid (And.intro hz0 (And.intro hz1 hz2))
  clear hi1 hi2 hy0 hy1 hy2 hz0 hz1 hz2
  obtain ⟨nx, lx⟩ := fewB_bounds fx
  obtain ⟨ny, ly⟩ := fewB_bounds fy
  have HE := Lib.hid hE
  have HF := Lib.hid first_any
  have HFX := Lib.hid (fun W (hb : Below w.heap.size w W) => Few_any xs A c W (hx.next hb) (by omega))
  have HFY := Lib.hid (fun W (hb : Below w.heap.size w W) => Few_any ys B d W (hy.next hb) (by omega))
  rw [fx] at HFX
  rw [fy] at HFY
  have HPX := Lib.hid (fun W (hb : Below w.heap.size w W) => Print_any xs A c W (hE.below hb) (hx.next hb) ox (fun x h => by have := lx x h; omega) (by omega))
  have HPY := Lib.hid (fun W (hb : Below w.heap.size w W) => Print_any ys B d W (hE.below hb) (hy.next hb) oy (fun x h => by have := ly x h; omega) (by omega))
  have hsx : ∀ s ∈ linesOf xs, s.size ≤ 100000 := fun s hs => by have := linesOf_size ox lx s hs; omega
  have hsy : ∀ s ∈ linesOf ys, s.size ≤ 100000 := fun s hs => by have := linesOf_size oy ly s hs; omega
  have hszz : ∀ s ∈ linesOf xs ++ linesOf ys, s.size ≤ 100000 := fun s hs => by
    rcases List.mem_append.1 hs with h | h
    · exact hsx s h
    · exact hsy s h
  obtain ⟨r1, hr1⟩ : ∃ r, parseS (linesOf xs) = r := ⟨_, rfl⟩
  obtain ⟨r2, hr2⟩ : ∃ r, parseS (linesOf ys) = r := ⟨_, rfl⟩
  obtain ⟨r3, hr3⟩ : ∃ r, parseS (linesOf xs ++ linesOf ys) = r := ⟨_, rfl⟩
  have hbind : r3 = r1.bind fun x => r2.map (x ++ ·) := by rw [← hr3, parseS_append, hr1, hr2]
  have hcase := lines_case hbind
  have HP1 := Lib.hid (fun A c W hE hI => Parse_uni (linesOf xs) r1 hr1 xs.length (linesOf_len xs) A c W hE hI hsx (by omega))
  have HP2 := Lib.hid (fun A c W hE hI => Parse_uni (linesOf ys) r2 hr2 ys.length (linesOf_len ys) A c W hE hI hsy (by omega))
  have HP3 := Lib.hid (fun A c W hE hI => Parse_uni (linesOf xs ++ linesOf ys) r3 hr3 (xs.length + ys.length) (by rw [List.length_append, linesOf_len, linesOf_len]) A c W hE hI hszz (by omega))
  have HL1 := Lib.hid (parse_small' hr1 hsx)
  have HL2 := Lib.hid (parse_small' hr2 hsy)
  have hn1 := parse_len' hr1
  have hn2 := parse_len' hr2
  rw [linesOf_len] at hn1 hn2
  clear hr1 hr2 hr3 hbind hE hx hy fx fy ox oy lx ly hsx hsy hszz
  generalize errOf r1 = e1 at HP1 hcase
  generalize errOf r2 = e2 at HP2 hcase
  generalize errOf r3 = e3 at HP3 hcase
  generalize insOf r1 = z1 at HP1 HL1 hn1 hcase
  generalize insOf r2 = z2 at HP2 HL2 hn2 hcase
  generalize insOf r3 = z3 at HP3 hcase
  generalize hnx : xs.length = m1 at *
  generalize hny : ys.length = m2 at *
  go_enter Tryd.func5, Tryd.ntmps5
  go_upto_region 3 with (go_at_call 8; refine (HF.out w HE.out).mono ?_; rintro e w1 ⟨rfl, hb⟩; have H1 := Lib.hid hb; clear hb)
  go_upto_region 5 with (first
    | (go_at_call 14; with_reducible refine (HFX.out w1 H1.out).mono ?_; rintro e w2 ⟨rfl, rfl⟩)
    | (go_at_call 14; with_reducible refine (HFY.out w1 H1.out).mono ?_; rintro e w2 ⟨rfl, rfl⟩))
  go_upto_region 6 with (first
    | (go_at_call 15; with_reducible refine (HPX.out w1 H1.out).mono ?_; rintro e w3 ⟨v3, rfl, hown, hb⟩; have H3 := Lib.hid (H1.out.trans (hb.mono H1.out.size)); have HO3 := Lib.hid hown; clear hown hb)
    | (go_at_call 15; with_reducible refine (HPY.out w3 H3.out).mono ?_; rintro e w4 ⟨v4, rfl, hown, hb⟩; have H4 := Lib.hid (H3.out.trans (hb.mono H3.out.size)); have HO4 := Lib.hid hown; have HO3' := Lib.hid (own_below HO3.out hb); clear hown hb))
  have e3 : strV (xs.map In.line) = (linesOf xs).map Value.string := by simp [strV, linesOf]
  have e4 : strV (ys.map In.line) = (linesOf ys).map Value.string := by simp [strV, linesOf]
  rw [e3] at HO3'
  rw [e4] at HO4
  clear HO3 e3 e4
  obtain ⟨A3, c3, rfl, hR3⟩ := own_reads HO3'.out
  obtain ⟨A4, c4, rfl, hR4⟩ := own_reads HO4.out
  have HR3 := Lib.hid hR3
  have HR4 := Lib.hid hR4
  clear hR3 hR4 HO3' HO4
  go_upto_region 7 with (go_at_call 16; with_reducible refine (HP1.out A3 c3 w4 (HE.out.below H4.out) HR3.out).mono ?_; rintro e w5 ⟨⟨A5, c5, rfl, hI⟩, hb⟩; have H5 := Lib.hid (H4.out.trans (hb.mono H4.out.size)); have HX5 := Lib.hid hI; have HR3' := Lib.hid ((HR3.out.below hb).more hb.size); have HR4' := Lib.hid ((HR4.out.below hb).more hb.size); clear hI hb)
  clear HR3 HR4
  go_upto_region 8 with (go_at_call 16; with_reducible refine (HP2.out A4 c4 w5 (HE.out.below H5.out) HR4'.out).mono ?_; rintro e w6 ⟨⟨A6, c6, rfl, hI⟩, hb⟩; have H6 := Lib.hid (H5.out.trans (hb.mono H5.out.size)); have HY6 := Lib.hid hI; have HX6 := Lib.hid (HX5.out.next hb); have HR3 := Lib.hid ((HR3'.out.below hb).more hb.size); have HR4 := Lib.hid ((HR4'.out.below hb).more hb.size); clear hI hb)
  clear HR3' HR4' HX5
  have HRa := Lib.hid (HR3.out.alloc (Nat.le_refl _) (.cells #[] 9))
  have HO6 := Lib.hid (World.ownsRow_lit (e := 9) (size := 1) w6 #[] 0 (Nat.le_refl _) (Nat.zero_le _) rfl)
  go_upto_region 9 with (first
    | (at_builtin; refine wpList_append_any _ rfl (.tmp 39) (.tmp 40) _ rfl w6.heap.size 9 i2 _ 1 16 Tryd.underlying38 HI2.out HZ.out.1 HZ.out.2.1 HZ.out.2.2 rfl (by omega) (.slice (some ⟨w6.heap.size, 0, none⟩) 0 0) 0 _ rfl HO6.out w6.heap.size A3 m1 c3 _ rfl HRa.out strs_one (by simp only [maxLen]; omega) (by omega) (by simp) ?_; intro v7 w7 hown hg hat; have HB7 := Lib.hid (((Below.refl _ _).alloc (Nat.le_refl _) (.cells #[] 9)).grown hg (by simp) (fun q hq => (HO6.out.lt q hq).1)); have HO7 : Hid (w7.ownsRow w6.heap.size 9 1 v7 m1 ((linesOf xs).map Value.string)) := Lib.hid (by simpa using hown); clear hown hg hat)
    | (at_builtin; refine wpList_append_any _ rfl (.tmp 41) (.tmp 42) _ rfl w6.heap.size 9 i2 _ 1 16 Tryd.underlying38 HI2.out HZ.out.1 HZ.out.2.1 HZ.out.2.2 rfl (by omega) v7 m1 _ rfl HO7.out w6.heap.size A4 m2 c4 _ rfl (HR4.out.below HB7.out) strs_one (by simp only [maxLen]; omega) (by omega) HB7.out.size ?_; intro v8 w8 hown hg hat; have HB8 := Lib.hid (HB7.out.grown hg HB7.out.size (fun q hq => (HO7.out.lt q hq).1)); rw [linesOf_append] at hown; obtain ⟨A8, c8, rfl, hR8⟩ := own_reads hown; have HR8 := Lib.hid hR8; clear hown hg hat hR8)
    | (go_at_call 16; with_reducible refine (HP3.out A8 c8 w8 (HE.out.below (H6.out.trans (HB8.out.mono H6.out.size))) HR8.out).mono ?_; rintro e w9 ⟨⟨A9, c9, rfl, hI⟩, hb⟩; have hb2 := HB8.out.trans (hb.mono HB8.out.size); have H9 := Lib.hid (H6.out.trans (hb2.mono H6.out.size)); have HZ9 := Lib.hid hI; have HX9 := Lib.hid (HX6.out.next hb2); have HY9 := Lib.hid (HY6.out.next hb2); clear hI hb hb2))
  clear HRa HO6 HR3 HR4 HB7 HO7 HB8 HR8 HX6 HY6 H1 H3 H4 H5 H6
  rcases hcase with ⟨h1, h2, h3, hz⟩ | ⟨h1, h2, h3⟩ | ⟨h1, h3⟩
  · subst hz
    obtain rfl := beq_iff_eq.1 h1
    obtain rfl := beq_iff_eq.1 h2
    obtain rfl := beq_iff_eq.1 h3
    clear h1 h2 h3
    go_upto_region 11 with (fail)
    go_wp2_with (first
      | (go_at_call 8; refine (HF.out w9 (HE.out.below H9.out)).mono ?_; rintro e w10 ⟨rfl, hb⟩; have H10 := Lib.hid (H9.out.trans (hb.mono H9.out.size)); have HZ10 := Lib.hid (HZ9.out.next hb); have HX10 := Lib.hid (HX9.out.next hb); have HY10 := Lib.hid (HY9.out.next hb); clear hb; obtain ⟨p1, L1, R1⟩ := HX10.out; obtain ⟨p2, L2, R2⟩ := HY10.out; have HL1' := Lib.hid L1; have HL2' := Lib.hid L2; have HR1 := Lib.hid (R1.alloc (Nat.le_refl _) (.cells #[] 26)); have HR2 := Lib.hid R2; have HO10 := Lib.hid (World.ownsRow_lit (e := 26) (size := 5) w10 #[] 0 (Nat.le_refl _) (Nat.zero_le _) rfl); clear L1 L2 R1 R2)
      | (at_builtin; refine wpList_append_when _ rfl (.tmp 69) (.tmp 70) _ rfl w10.heap.size 26 i1 _ 5 56 Tryd.underlying23 HI1.out HY.out.1 HY.out.2.1 HY.out.2.2 rfl (by omega) (.slice (some ⟨w10.heap.size, 0, none⟩) 0 0) 0 _ rfl HO10.out w10.heap.size A5 z1.length c5 _ rfl HR1.out (flatI_one z1 p1) (by simp only [maxLen]; omega) (by omega) (by simp) ?_; intro v11 w11 hown hg hat; have HB11 := Lib.hid (((Below.refl _ _).alloc (Nat.le_refl _) (.cells #[] 26)).grown hg (by simp) (fun q hq => (HO10.out.lt q hq).1)); have HO11 : Hid (w11.ownsRow w10.heap.size 26 5 v11 z1.length (flatI z1 p1)) := Lib.hid (by simpa using hown); clear hown hg hat)
      | (at_builtin; refine wpList_append_when _ rfl (.tmp 71) (.tmp 72) _ rfl w10.heap.size 26 i1 _ 5 56 Tryd.underlying23 HI1.out HY.out.1 HY.out.2.1 HY.out.2.2 rfl (by omega) v11 z1.length _ rfl HO11.out w10.heap.size A6 z2.length c6 _ rfl (HR2.out.below HB11.out) (flatI_one z2 p2) (by simp only [maxLen]; omega) (by omega) HB11.out.size ?_; intro v12 w12 hown hg hat; have HB12 := Lib.hid (HB11.out.grown hg HB11.out.size (fun q hq => (HO11.out.lt q hq).1)); rw [← flatI_append z1 p1 z2 p2 HL1'.out.len] at hown; obtain ⟨A12, c12, rfl, hR12⟩ := own_reads hown; have HS12 : Hid (InsAt w12 w12.heap.size A12 (z1 ++ z2)) := Lib.hid ⟨p1 ++ p2, (HL1'.out.append HL2'.out).map (fun _ _ h => (h.below HB12.out).more HB12.out.size), by rw [List.length_append]; exact hR12⟩; have HZ12 := Lib.hid (HZ10.out.next HB12.out); clear hown hg hat hR12)
      | (go_at_call 17; with_reducible refine (Same_refl (z1 ++ z2) A9 A12 (z1.length + z2.length) (z1.length + z2.length) c9 c12 (by simp) (by simp) w12 HZ12.out HS12.out (fun x hx => by rcases List.mem_append.1 hx with h | h; exact HL1.out x h; exact HL2.out x h) (by rw [List.length_append]; omega)).mono ?_; rintro e w13 ⟨rfl, hb⟩; have HB13 := Lib.hid (HB12.out.trans (hb.mono HB12.out.size)); clear hb))
    go_ret
    exact ⟨rfl, H10.out.trans (HB13.out.mono H10.out.size)⟩
  · obtain rfl := beq_iff_eq.1 h1
    clear h1
    have h3' : (e3 != 0) = true := by rw [bne, h3]; rfl
    go_upto_region 11 with (fail)
    go_wp2_with (go_at_call 8; refine (HF.out w9 (HE.out.below H9.out)).mono ?_; rintro e w10 ⟨rfl, hb⟩; have H10 := Lib.hid (H9.out.trans (hb.mono H9.out.size)); clear hb)
    go_ret
    exact ⟨rfl, H10.out⟩
  · have h3' : (e3 != 0) = true := by rw [bne, h3]; rfl
    go_upto_region 11 with (fail)
    go_wp2_with (go_at_call 8; refine (HF.out w9 (HE.out.below H9.out)).mono ?_; rintro e w10 ⟨rfl, hb⟩; have H10 := Lib.hid (H9.out.trans (hb.mono H9.out.size)); clear hb)
    go_ret
    exact ⟨rfl, H10.out⟩
end Go.Proofs.YthkffcnifhcjoaaDoor
