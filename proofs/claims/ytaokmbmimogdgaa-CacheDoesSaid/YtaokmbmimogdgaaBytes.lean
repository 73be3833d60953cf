/- Contracts of the small functions on rows of bytes: Few, Same, Same of rows, Join. -/
import Derived.Test.YtaokmbmimogdgaaRows
import Derived.Test.YtaokmbmimogdgaaHeap
import Derived.Test.YtaokmbmimogdgaaRows2
import Derived.WalkLawsBesides
import Derived.Deep.LoopGhost
import Derived.Handy
import Derived.Deep.QuietTactic
import Derived.BigQuiet
namespace Go.Proofs.Ytaokmbmimogdgaa
open Go.RowKit

def RetB (G : Nat → Prop) (w : World) (l : List Int) (e : Ending) (w' : World) : Prop := ∃ u, e = .returned u ∧ RdB G w u l ∧ w = w'

set_option maxHeartbeats 400000 in
theorem few_any (G : Nat → Prop) (w : World) (v : Value) (l : List Int) (k : Nat) (h : RdB G w v l) (hl : l.length ≤ maxLen) (hk : k ≤ 1000000) :
    Calls Try.prog 7 #[v, .int .i64 k] w (RetB G w (l.take k)) := by
  obtain ⟨a, c, rfl, hc, h'⟩ := h
  unfold maxLen at hl
  by_cases hlt : k < l.length
  · go_enter Try.func7, Try.ntmps7
    have h1 : (k : Int) < (l.length : Int) := by omega
    have h2 : (k : Int) ≤ (c : Int) := by omega
    go_wp2
    go_ret
    refine ⟨_, rfl, ?_, rfl⟩
    unfold RdB
    rw [← bv_take, List.length_take, Nat.min_eq_left (by omega)]
    exact RdS.take ⟨a, c, rfl, hc, h'⟩ (by omega)
  · go_enter Try.func7, Try.ntmps7
    have h1 : ¬ (k : Int) < (l.length : Int) := by omega
    go_wp2
    go_ret
    refine ⟨_, rfl, ?_, rfl⟩
    rw [List.take_of_length_le (by omega)]
    exact ⟨a, c, rfl, hc, h'⟩

/-- Returned v; only draws were made. -/
def RetV (v : Value) (w : World) (e : Ending) (w' : World) : Prop := e = .returned v ∧ ∃ n, w' = w.drewN n

theorem take_succ_eq {l : List Int} {k : Nat} (h : k < l.length) : l.take (k + 1) = l.take k ++ [l.getD k 0] := by
  rw [List.take_succ_eq_append_getElem h]; simp [h]

set_option maxHeartbeats 1000000 in
theorem bsame_any (G H : Nat → Prop) (w : World) (va vb : Value) (la lb : List Int) (ha : RdB G w va la) (hb : RdB H w vb lb) (hl : la.length ≤ maxLen) (hl' : lb.length ≤ maxLen) :
    Calls Try.prog 28 #[va, vb] w (RetV (.bool (decide (la = lb))) w) := by
  obtain ⟨a, ca, rfl, hca, ha⟩ := ha
  obtain ⟨b, cb, rfl, hcb, hb⟩ := hb
  unfold maxLen at hl hl'
  by_cases hne : la.length = lb.length
  · by_cases hz : la.length = 0
    · have ea : la = [] := List.eq_nil_of_length_eq_zero hz
      have eb : lb = [] := List.eq_nil_of_length_eq_zero (by omega)
      subst ea; subst eb
      clear ha hb hne hz hl hl' hca hcb
      go_enter Try.func28, Try.ntmps28
      go_wp2
      go_loopw [5] (fun i wr => i = .int .i64 0 ∧ wr = w) (fun i _ => 0)
      case atStart => exact ⟨rfl, rfl⟩
      case round =>
        obtain ⟨rfl, rfl⟩ := hrel
        go_wp2
        go_ret
        exact ⟨by simp, 0, rfl⟩
    · obtain ⟨ba, oa, rfl, _, hba, hac⟩ := ha (bv_ne hz)
      obtain ⟨bb, ob, rfl, _, hbb, hbc⟩ := hb (bv_ne (by omega))
      have Hne := Lib.hid hne; clear hne
      have Hac := Lib.hid hac; clear hac
      have Hbc := Lib.hid hbc; clear hbc
      have ht : ((la.length : Int) != (lb.length : Int)) = false := by simp [Hne.out]
      go_enter Try.func28, Try.ntmps28
      go_wp2
      clear ht
      go_loopw [5] (fun i wr => ∃ k n : Nat, k ≤ la.length ∧ i = .int .i64 k ∧ wr = w.drewN n ∧ la.take k = lb.take k) (fun i _ => la.length - (intOf i).toNat)
      case atStart => exact ⟨0, 0, Nat.zero_le _, rfl, rfl, by simp⟩
      case round =>
        obtain ⟨k, n, hk, rfl, rfl, heq⟩ := hrel
        have Heq := Lib.hid heq; clear heq
        by_cases hlt : k < la.length
        · have h1 : w.cell? ⟨ba, oa + k, none⟩ = some (.int .u8 (la.getD k 0)) := Hac.out k _ (bv_get hlt)
          have h2 : w.cell? ⟨bb, ob + k, none⟩ = some (.int .u8 (lb.getD k 0)) := Hbc.out k _ (bv_get (by have := Hne.out; omega))
          have hlt2 : k < lb.length := by have := Hne.out; omega
          generalize hx : la.getD k 0 = x at h1
          generalize hy : lb.getD k 0 = y at h2
          have Hx := Lib.hid hx; clear hx
          have Hy := Lib.hid hy; clear hy
          by_cases hxy : x = y
          · have t1 : (x != y) = false := by simp [hxy]
            have Hxy := Lib.hid hxy; clear hxy
            go_wp2_with fail
            go_quiet (fail)
            go_wp2
            go_roundw
            case rel => exact ⟨k + 1, _, by omega, by go_num, rfl, by rw [take_succ_eq hlt, take_succ_eq hlt2, Heq.out, Hx.out, Hy.out, Hxy.out]⟩
            case measure => simp [intOf]; omega
          · have t1 : (x != y) = true := by simp [hxy]
            have Hxy := Lib.hid hxy; clear hxy
            go_wp2_with fail
            go_quiet (fail)
            go_wp2
            go_ret
            refine ⟨retb ?_, _, World.drewN_drewN _ _ _⟩
            symm; rw [decide_eq_false_iff_not]
            intro e
            exact Hxy.out (by rw [← Hx.out, ← Hy.out, e])
        · have hk' : k = la.length := by omega
          have Hk := Lib.hid hk'; clear hk'
          have h3 : ¬ (k : Int) < (la.length : Int) := by omega
          go_wp2
          go_ret
          refine ⟨retb ?_, _, rfl⟩
          symm; rw [decide_eq_true_iff]
          have e1 := Heq.out
          rw [Hk.out, List.take_of_length_le (Nat.le_refl _), List.take_of_length_le (by have := Hne.out; omega)] at e1
          exact e1
  · have ht : ((la.length : Int) != (lb.length : Int)) = true := by simp; omega
    have Hne := Lib.hid hne; clear hne
    go_enter Try.func28, Try.ntmps28
    go_wp2
    go_ret
    refine ⟨retb ?_, 0, rfl⟩
    symm; rw [decide_eq_false_iff_not]
    intro e; exact Hne.out (by rw [e])

theorem RetV.quiet {f : FuncId} {P : Program} {args : Array Value} {w : World} {n : Nat} {v : Value} (h : Calls P f args (w.drewN n) (RetV v (w.drewN n))) :
    Calls P f args (w.drewN n) fun e w'' => e = .returned v ∧ ∃ m, w'' = w.drewN m :=
  h.mono fun _ _ ⟨he, m, hm⟩ => ⟨he, n + m, by rw [hm, World.drewN_drewN]⟩
theorem RetV.quiet2 {f : FuncId} {P : Program} {args : Array Value} {w : World} {a n : Nat} {v : Value} (h : Calls P f args (w.drewN (a + n)) (RetV v (w.drewN (a + n)))) :
    Calls P f args (w.drewN (a + n)) fun e w'' => e = .returned v ∧ ∃ m, w'' = w.drewN (a + m) :=
  h.mono fun _ _ ⟨he, m, hm⟩ => ⟨he, n + m, by rw [hm, World.drewN_drewN, Nat.add_assoc]⟩

theorem frDrewN (w : World) (n : Nat) : Fr Nil w (w.drewN n) := (Fr.refl _ _).drewN n

set_option maxHeartbeats 1000000 in
theorem bbsame_any (G G' H H' : Nat → Prop) (w : World) (va vb : Value) (la lb : List (List Int)) (ha : RdBB G G' w va la) (hb : RdBB H H' w vb lb) (hl : la.length ≤ maxLen) (hl' : lb.length ≤ maxLen)
    (hla : ∀ l ∈ la, l.length ≤ maxLen) (hlb : ∀ l ∈ lb, l.length ≤ maxLen) :
    Calls Try.prog 10 #[va, vb] w (RetV (.bool (decide (la = lb))) w) := by
  obtain ⟨xs, hxl, ⟨a, ca, rfl, hca, ha⟩, hxs⟩ := ha
  obtain ⟨ys, hyl, ⟨b, cb, rfl, hcb, hb⟩, hys⟩ := hb
  unfold maxLen at hl hl'
  by_cases hne : la.length = lb.length
  · by_cases hz : la.length = 0
    · have ea : la = [] := List.eq_nil_of_length_eq_zero hz
      have eb : lb = [] := List.eq_nil_of_length_eq_zero (by omega)
      subst ea; subst eb
      clear ha hb hne hz hl hl' hca hcb hxl hyl hxs hys hla hlb
      go_enter Try.func10, Try.ntmps10
      go_wp2
      go_loopw [5] (fun i wr => i = .int .i64 0 ∧ wr = w) (fun i _ => 0)
      case atStart => exact ⟨rfl, rfl⟩
      case round =>
        obtain ⟨rfl, rfl⟩ := hrel
        go_wp2
        go_ret
        exact ⟨by simp, 0, rfl⟩
    · obtain ⟨ba, oa, rfl, _, hba, hac⟩ := ha (by intro e; simp [e] at hxl; omega)
      obtain ⟨bb, ob, rfl, _, hbb, hbc⟩ := hb (by intro e; simp [e] at hyl; omega)
      have Hne := Lib.hid hne; clear hne
      have Hac := Lib.hid hac; clear hac
      have Hbc := Lib.hid hbc; clear hbc
      have Hxs := Lib.hid hxs; clear hxs
      have Hys := Lib.hid hys; clear hys
      have Hxl := Lib.hid hxl; clear hxl
      have Hyl := Lib.hid hyl; clear hyl
      have Hla := Lib.hid hla; clear hla
      have Hlb := Lib.hid hlb; clear hlb
      have ht : ((la.length : Int) != (lb.length : Int)) = false := by simp [Hne.out]
      go_enter Try.func10, Try.ntmps10
      go_wp2
      clear ht
      go_loopw [5] (fun i wr => ∃ k n : Nat, k ≤ la.length ∧ i = .int .i64 k ∧ wr = w.drewN n ∧ la.take k = lb.take k) (fun i _ => la.length - (intOf i).toNat)
      case atStart => exact ⟨0, 0, Nat.zero_le _, rfl, rfl, by simp⟩
      case round =>
        obtain ⟨k, n, hk, rfl, rfl, heq⟩ := hrel
        have Heq := Lib.hid heq; clear heq
        by_cases hlt : k < la.length
        · have hlt2 : k < lb.length := by have := Hne.out; omega
          have hkx : k < xs.length := by have := Hxl.out; omega
          have hky : k < ys.length := by have := Hyl.out; omega
          have h1 : w.cell? ⟨ba, oa + k, none⟩ = some xs[k] := Hac.out k _ (List.getElem?_eq_getElem hkx)
          have h2 : w.cell? ⟨bb, ob + k, none⟩ = some ys[k] := Hbc.out k _ (List.getElem?_eq_getElem hky)
          have r1 : RdB G' w xs[k] la[k] := Hxs.out k _ _ (List.getElem?_eq_getElem hkx) (List.getElem?_eq_getElem hlt)
          have r2 : RdB H' w ys[k] lb[k] := Hys.out k _ _ (List.getElem?_eq_getElem hky) (List.getElem?_eq_getElem hlt2)
          have b1 : la[k].length ≤ maxLen := Hla.out _ (List.getElem_mem hlt)
          have b2 : lb[k].length ≤ maxLen := Hlb.out _ (List.getElem_mem hlt2)
          have t1 : la.take (k + 1) = la.take k ++ [la[k]] := List.take_succ_eq_append_getElem hlt
          have t2 : lb.take (k + 1) = lb.take k ++ [lb[k]] := List.take_succ_eq_append_getElem hlt2
          generalize hx : la[k] = x at *
          generalize hy : lb[k] = y at *
          generalize xs[k] = u at *
          generalize ys[k] = v at *
          have T1 := Lib.hid t1; clear t1
          have T2 := Lib.hid t2; clear t2
          have Hx := Lib.hid hx; clear hx
          have Hy := Lib.hid hy; clear hy
          have C : ∀ m, Calls Try.prog 28 #[u, v] (w.drewN m) (RetV (.bool (decide (x = y))) (w.drewN m)) := fun m =>
            bsame_any G' H' _ u v x y (r1.frN (frDrewN _ _)) (r2.frN (frDrewN _ _)) b1 b2
          have R := Lib.hid C; clear C r1 r2 b1 b2
          by_cases hxy : x = y
          · have Hxy := Lib.hid hxy
            have e1 : decide (x = y) = true := by simp [hxy]
            rw [e1] at R
            clear hxy e1
            go_wp2_with fail
            go_quiet ((go_at_call 28; exact RetV.quiet2 (R.out _)))
            go_wp2
            go_roundw
            case rel => exact ⟨k + 1, _, by omega, by go_num, rfl, by rw [T1.out, T2.out, Heq.out, Hxy.out]⟩
            case measure => simp [intOf]; omega
          · have Hxy := Lib.hid hxy
            have e1 : decide (x = y) = false := by simp [hxy]
            rw [e1] at R
            clear hxy e1
            go_wp2_with fail
            go_quiet ((go_at_call 28; exact RetV.quiet2 (R.out _)))
            go_wp2
            go_ret
            refine ⟨retb ?_, _, World.drewN_drewN _ _ _⟩
            symm; rw [decide_eq_false_iff_not]
            intro e
            subst e
            have a1 := T1.out; have a2 := T2.out
            rw [a1, Heq.out] at a2
            have := List.append_cancel_left a2
            simp at this
            exact Hxy.out this
        · have hk' : k = la.length := by omega
          have Hk := Lib.hid hk'; clear hk'
          have h3 : ¬ (k : Int) < (la.length : Int) := by omega
          go_wp2
          go_ret
          refine ⟨retb ?_, _, rfl⟩
          symm; rw [decide_eq_true_iff]
          have e1 := Heq.out
          rw [Hk.out, List.take_of_length_le (Nat.le_refl _), List.take_of_length_le (by have := Hne.out; omega)] at e1
          exact e1
  · have ht : ((la.length : Int) != (lb.length : Int)) = true := by simp; omega
    have Hne := Lib.hid hne; clear hne
    go_enter Try.func10, Try.ntmps10
    go_wp2
    go_ret
    refine ⟨retb ?_, 0, rfl⟩
    symm; rw [decide_eq_false_iff_not]
    intro e; exact Hne.out (by rw [e])

end Go.Proofs.Ytaokmbmimogdgaa
