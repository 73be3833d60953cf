/- The iterator behind maps.Keys at a map of places: the keys come, each once, in some order; slices.AppendSeq and Collect over it. -/
import Derived.Test.YtaokmbmimogdgaaIter
import Derived.Test.YtaokmbmimogdgaaCache
namespace Go.Proofs.Ytaokmbmimogdgaa
open Go.RowKit Go.ChangeMaps Go.Shelf Go.MapKept

attribute [local go_sem] Oper.semAt_some

set_option maxRecDepth 100000 in
set_option maxHeartbeats 1000000 in
theorem keys1_in (F : Fence) (n : Nat) (h42 : F.fn 42) (hro : F.round = none) (hn : 1 ≤ n) (l Bm b : Nat) {kvs : List ((Int × Int) × Value)} (hnd : (kvs.map (·.1)).Nodup) (J Jx : List (Int × Int) → World → Prop)
    (hY : ∀ pre x W, J pre W → pre.length < kvs.length → YieldAt F (n - 1) Try.prog l #[kv x] W fun e W' =>
      (e = .returned (.bool true) ∧ J (pre ++ [x]) W' ∧ KeepsWalks W W') ∨ (e = .returned (.bool false) ∧ Jx (pre ++ [x]) W'))
    (W : World) (hJ : AbidesFrom W.heap.size J) (hm : W.cell? ⟨Bm, 0, none⟩ = some (.map (some b))) (hown : MapIs W b kvs) (h0 : J [] W) :
    CallsIn F n Try.prog 42 #[.func (.yield l) #[] #[], .pointer (some ⟨Bm, 0, none⟩)] W fun e W' => (∃ v, e = .returned v) ∧
      ((∃ ss : List (Int × Int), ss.Perm (kvs.map (·.1)) ∧ J ss W') ∨ (∃ pre : List (Int × Int), True ∧ Jx pre W')) := by
  refine callsIn_of_wp Try.func42 rfl h42 ?_ hro
  simp only [Try.ntmps42, List.size_toArray, List.length_cons, List.length_nil, Nat.reduceAdd, Nat.reduceSub, Array.replicate_succ, Array.replicate_zero, List.push_toArray, List.append_toArray, List.nil_append, List.cons_append]
  gi_wp2_with (first | (gi_at_range; refine wpListIn_range_place _ rfl _ 69 rfl Try.underlying69 b rfl hown ?_; intro w0 hrg0 hg0) | gi_in)
  go_frame
  gi_loopw [3] (fun _ wr => ∃ (ss : List (Int × Int)), ItAt wr b W.heap.size kvs ss ∧ J ss wr)
    (fun _ wr => leftAt wr b W.heap.size)
  case atStart =>
    exact ⟨[], hrg0, hJ [] W w0 none h0 hg0 (fun r e => by cases e)⟩
  case round =>
    obtain ⟨ss, hrg, hJs⟩ := hrel
    gi_wp2_with (first | (gi_at_next; refine wpListIn_next_place _ rfl _ rfl b W.heap.size hnd rfl hrg ?_ ?_) | gi_in)
    · -- nothing is left
      intro hc0
      gi_wp2
      go_end0
      exact ⟨⟨_, rfl⟩, .inl ⟨ss, hc0, hJs⟩⟩
    · -- an entry has come
      intro x1 x2 v w2 hlen hrg2 hms hg2 hen
      simp only [kv] at hen ⊢
      have hJ2 : J ss w2 := hJ ss wr w2 (some W.heap.size) hJs hg2 (fun r e => by cases e; exact ⟨Nat.le_refl _, hrg.walk⟩)
      have hJ3 : J ss (w2.alloc (.cells #[.int .i64 x1, .int .u32 x2] 39)) := hJ ss w2 _ none hJ2 (World.grownBy_alloc _ _ _) (fun r e => by cases e)
      have hrg3 : ItAt (w2.alloc (.cells #[.int .i64 x1, .int .u32 x2] 39)) b W.heap.size kvs (ss ++ [(x1, x2)]) := hrg2.walks (KeepsWalks.alloc _ _)
      have hms3 : leftAt (w2.alloc (.cells #[.int .i64 x1, .int .u32 x2] 39)) b W.heap.size < leftAt wr b W.heap.size := by rw [leftAt_walks hrg2 (KeepsWalks.alloc _ _)]; exact hms
      obtain ⟨fn, tmps, assign, body, hy, hR⟩ := hY ss (x1, x2) _ hJ3 hlen
      simp only [kv] at hy
      clear hms hg2 hJ2 hJ3 hrg2 hY hg0 hrg0 hown hm
      gi_wp2
      refine hR.mono ?_
      rintro e W3 (⟨rfl, hJ3, hk3⟩ | ⟨rfl, hJx3⟩)
      · gi_wp2
        go_roundw
        case rel => exact ⟨ss ++ [(x1, x2)], hrg3.walks hk3, hJ3⟩
        case measure => rw [leftAt_walks hrg3 hk3]; exact hms3
      · gi_wp2
        refine bodyPost_ret (results_none rfl _ _ _) rfl ?_
        exact ⟨⟨_, rfl⟩, .inr ⟨ss ++ [(x1, x2)], trivial, hJx3⟩⟩

/-- maps.Keys(m) hands back an iterator over m's keys. -/
theorem keys_stops (F : Fence) (n : Nat) (h42 : F.fn 42) (hro : F.round = none) (hn : 1 ≤ n) (Bm b : Nat) {kvs : List ((Int × Int) × Value)} (hnd : (kvs.map (·.1)).Nodup) (w : World) (hBm : Bm < w.heap.size)
    (hm : w.cell? ⟨Bm, 0, none⟩ = some (.map (some b))) (hown : MapIs w b kvs) :
    SeqStopsK F n Try.prog 42 #[.pointer (some ⟨Bm, 0, none⟩)] (fun x : Int × Int => #[kv x]) KeepsWalks (fun ss => ss.Perm (kvs.map (·.1))) (fun _ => True) kvs.length w := fun l J Jx W hW hJ _ hY h0 =>
  keys1_in F n h42 hro hn l Bm b hnd J Jx hY W hJ ((hW.cell (p := ⟨Bm, 0, none⟩) hBm).trans hm) (hown.kept (hW.block b hown.lt)) h0

set_option maxHeartbeats 1000000 in
theorem keys_in (F : Fence) (n : Nat) (h35 : F.fn 35) (hro : F.round = none) (b : Nat) (w : World) :
    CallsIn F n Try.prog 35 #[.map (some b)] w fun e w' =>
      e = .returned (.func (.func 42) #[] #[.pointer (some ⟨w.heap.size, 0, none⟩)]) ∧ w' = w.alloc (.cells #[.map (some b)] 69) := by
  refine callsIn_of_wp Try.func35 rfl h35 ?_ hro
  simp only [Try.ntmps35, List.size_toArray, List.length_cons, List.length_nil, Nat.reduceAdd, Nat.reduceSub, Array.replicate_succ, Array.replicate_zero, List.push_toArray, List.append_toArray, List.nil_append, List.cons_append]
  gi_wp2
  go_ret
  exact ⟨rfl, rfl⟩

end Go.Proofs.Ytaokmbmimogdgaa
