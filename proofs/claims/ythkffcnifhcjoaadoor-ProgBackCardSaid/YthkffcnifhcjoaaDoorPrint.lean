/- prog.Print writes any program. -/
import Derived.Test.YthkffcnifhcjoaaDoorIns
import Derived.Test.YthkffcnifhcjoaaDoorReadW
set_option linter.unusedSimpArgs false
set_option linter.unusedVariables false
namespace Go.Proofs.YthkffcnifhcjoaaDoor
open Go.RowKit Go.Sort

/-- Strings as cells. -/
def strV (l : List (List UInt8)) : List Value := l.map fun z => Value.string ⟨z.toArray⟩
theorem strV_one (l : List (List UInt8)) : ∀ u ∈ strV l, u.oneCell' = true := by
  intro u hu
  simp [strV] at hu
  obtain ⟨x, _, rfl⟩ := hu
  rfl

set_option maxHeartbeats 2000000 in
set_option maxRecDepth 100000 in
theorem Print_any (xs : List In) (A : Option Addr) (cap : Nat) (w : World) (hE : Env w) (hI : InsAt w w.heap.size A xs) (hx : ∀ x ∈ xs, x.I64s) (hl : ∀ x ∈ xs, x.l.length ≤ 1000) (hn : xs.length ≤ 100000) :
    Calls Tryd.prog 15 #[.slice A xs.length cap] w fun e w' => ∃ v, e = .returned v ∧ w'.ownsRow w.heap.size 9 1 v xs.length (strV (xs.map In.line)) ∧ Below w.heap.size w w' := by
  obtain ⟨i1, hi1, hy0, hy1, hy2⟩ := info_parts str_info
  have HI1 := Lib.hid hi1
  have HY := Lib.hid (And.intro hy0 (And.intro hy1 hy2))
  clear hi1 hy0 hy1 hy2
  have HP := Lib.hid (fun (j : Nat) (x : In) (h : xs[j]? = some x) => And.intro (hx x (List.mem_of_getElem? h)) (hl x (List.mem_of_getElem? h)))
  have HI := Lib.hid hI
  have HE := Lib.hid hE
  clear hI hl hx hE
  go_enter Tryd.func15, Tryd.ntmps15
  go_wp2
  go_loopg [3, 8] xs.length (fun gg s3 s8 wr => ∃ k : Nat, k ≤ xs.length ∧ xs.length - k ≤ gg ∧ s8 = .int .i64 k ∧ Aside (wr.ownsRow w.heap.size 9 1 s3 k (strV ((xs.take k).map In.line))) ∧ Aside (Below w.heap.size w wr))
  case atStart => exact ⟨0, by omega, by omega, rfl, World.ownsRow_nil _ _ _ _, Below.refl _ _⟩
  case round =>
    obtain ⟨k, hk, hg, rfl, HO, BW⟩ := hrel
    have hsz := BW.out.size
    by_cases hlt : k < xs.length
    · have hltz : (k : Int) < (xs.length : Int) := by omega
      have hx : xs[k]? = some xs[k] := List.getElem?_eq_getElem hlt
      generalize xs[k] = x at hx
      have hIw := HI.out.next BW.out
      obtain ⟨b, o, A', c', hA, hb, hrd, e0, e1, e2, e3, e4⟩ := hIw.get hx
      subst hA
      obtain ⟨h64, hle⟩ := HP.out k x hx
      have hbw : b < wr.heap.size := hb
      have hEw := HE.out.below BW.out
      have HX := Lib.hid hx
      have HCall := Lib.hid (fun W (hW : Below wr.heap.size wr W) => line_any x A' x.l.length c' W (hEw.below hW) h64 (by omega) ((hrd.below hW).more hW.size))
      clear hx hIw hb hrd hEw h64
      unfold In.v at HCall
      go_wp2_with (first
        | (go_at_call 23; refine (HCall.out _ ((Below.refl _ _).alloc (Nat.le_refl _) _)).mono ?_; rintro e w2 ⟨rfl, hb2⟩; have HB2 := Lib.hid (below_one hb2); clear hb2)
        | (at_builtin; refine wpList_append_any _ rfl (.tmp 12) (.tmp 15) _ rfl w.heap.size 9 i1 _ 1 16 Tryd.underlying38 HI1.out HY.out.1 HY.out.2.1 HY.out.2.2 rfl (by omega) u3 k _ rfl (own_alloc (own_below HO.out HB2.out) _) (w2.heap.size + 1) (some ⟨w2.heap.size, 0, none⟩) 1 1 [.string ⟨x.line.toArray⟩] rfl (reads_new w2 _ 9) (by simp [Value.oneCell']) (by simp only [maxLen]; omega) (by omega) (by have := HB2.out.size; simp; omega) ?_; intro v3 w3 hown3 hg3 hat3; have Hw3 := Lib.hid (And.intro hown3 (And.intro hg3 hat3)); clear hown3 hg3 hat3))
      go_roundg (xs.length - (k + 1))
      case measure => omega
      case rel =>
        obtain ⟨hown3, hg3, hat3⟩ := Hw3.out
        refine ⟨k + 1, by omega, by omega, by go_num, ?_, ?_⟩
        · show World.ownsRow _ _ _ _ _ _ _
          have e : xs.take (k + 1) = xs.take k ++ [x] := by
            rw [List.take_add_one, HX.out]; rfl
          rw [e]
          simpa [strV] using hown3
        · show Below _ _ _
          have h1 := BW.out.trans (HB2.out.mono hsz)
          exact (h1.alloc (by have := HB2.out.size; omega) _).grown hg3 (by have := HB2.out.size; simp; omega) (fun k hk => ((HO.out).lt k hk).1)
    · have : k = xs.length := by omega
      subst this
      go_wp2
      go_ret
      refine ⟨_, rfl, ?_, BW.out⟩
      have := HO.out
      rw [List.take_of_length_le (Nat.le_refl _)] at this
      exact this

/-- prog.Parse. -/
def parseS : List ByteArray → Option (List In)
  | [] => some []
  | s :: r => if (readS s).2 then (parseS r).map ((readS s).1 :: ·) else none
end Go.Proofs.YthkffcnifhcjoaaDoor
