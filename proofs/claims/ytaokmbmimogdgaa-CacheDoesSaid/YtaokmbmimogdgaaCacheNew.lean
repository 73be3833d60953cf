/- Contract of cache.New. -/
import Derived.Test.YtaokmbmimogdgaaCacheGet
import Derived.Carry
import Derived.Deep.DeepCutAuto
namespace Go.Proofs.Ytaokmbmimogdgaa
open Go.RowKit Go.ChangeMaps

theorem exec_buildC (ρ : Operand → Value) (d : Option Tmp) (x y z : Operand) (ty : TypeId) (pos : String) (af : Array Edge) (g : Option (Nat × Bool)) (conf : List Value) (hl : conf.length = 40) (now : Int) (bm : Nat) (w : World)
    (hx : ρ x = .agg conf.toArray) (hy : ρ y = .int .i64 now) (hz : ρ z = .map (some bm)) :
    (execOp ρ ⟨d, .build 71 #[(0, x), (1, y), (2, z)], ty, pos, af, g⟩).run Try.prog w = .ok (.value (.agg (conf ++ [Value.int .i64 now, .map (some bm), .int .i64 0]).toArray)) w := by
  have := run_buildC conf hl now bm w
  unfold execOp
  simp only [Sem.run_bind, List.map_toArray, List.map_cons, List.map_nil, hx, hy, hz, this, Result.andThen_ok, Sem.run_pure]

theorem clamp_minmax (n : Int) : clamp n 0 1073741824 = if 1073741824 < (if n < 0 then 0 else n) then 1073741824 else (if n < 0 then 0 else n) := by unfold clamp; split <;> split <;> omega

def NewC (w : World) (c : Cf) (now : Int) (e : Ending) (w' : World) : Prop :=
  ∃ b, e = .returned (.pointer (some ⟨b, 0, none⟩)) ∧ CRep w' b c now [] (fun k => w.heap.size ≤ k ∧ k < w'.heap.size ∧ ¬ IsU8 w' k) ∧ Fr Nil w w'

theorem new_rep (w : World) (conf : List Value) (c : Cf) (hc : CfOK conf c) (now : Int) (o1 : Obj) :
    CRep (((w.alloc o1).alloc (.map #[] 0)).alloc (.cells (conf ++ [Value.int .i64 now, .map (some (w.heap.size + 1)), .int .i64 0]).toArray TC)) (w.heap.size + 2) c now []
      (fun k => w.heap.size ≤ k ∧ k < (((w.alloc o1).alloc (.map #[] 0)).alloc (.cells (conf ++ [Value.int .i64 now, .map (some (w.heap.size + 1)), .int .i64 0]).toArray TC)).heap.size ∧
        ¬ IsU8 (((w.alloc o1).alloc (.map #[] 0)).alloc (.cells (conf ++ [Value.int .i64 now, .map (some (w.heap.size + 1)), .int .i64 0]).toArray TC)) k) := by
  have hb := Blk.new ((w.alloc o1).alloc (.map #[] 0)) TC (conf ++ [Value.int .i64 now, .map (some (w.heap.size + 1)), .int .i64 0])
  have hm : MapIs ((w.alloc o1).alloc (.map #[] 0)) (w.heap.size + 1) [] := by simpa using MapIs.new (w.alloc o1)
  have hm2 := hm.kept (w' := ((w.alloc o1).alloc (.map #[] 0)).alloc (.cells (conf ++ [Value.int .i64 now, .map (some (w.heap.size + 1)), .int .i64 0]).toArray TC)) (Below.heap_alloc _ _ _ hm.lt)
  have e2 : ((w.alloc o1).alloc (.map #[] 0)).heap.size = w.heap.size + 2 := by simp
  rw [e2] at hb
  refine ⟨by simp [Sorted], conf, w.heap.size + 1, [], ⟨hc, by simpa [rows, total] using hb, by simpa using hm2, by simp, by simp, ?_, ?_, by simp, ?_, ?_⟩, by simp [rows]⟩
  · refine ⟨by omega, hb.lt, fun h => ?_⟩
    have := h.uniq hb.tag
    revert this; decide
  · exact ⟨by omega, hm2.lt, fun h => hm2.noTag _ h⟩
  · intro b hb; exact hb.2.1
  · intro b hb; exact hb.2.2

set_option maxHeartbeats 1000000 in
theorem new_any (w : World) (conf : List Value) (c : Cf) (hc : CfOK conf c) (n : Int) :
    Calls Try.prog 6 #[.agg conf.toArray, .int .i64 n] w (NewC w c (clamp n 0 1073741824)) := by
  have hl := hc.len
  have hmm := @run_makeMap Try.prog
  have hi : (Try.prog.info? 33).map (·.size) = some conf.toArray.size := by
    rw [List.size_toArray, hl]; kernel_rfl
  have HI := Lib.hid hi; clear hi
  have HR := Lib.hid (fun m => new_rep w conf c hc m (.cells conf.toArray 33))
  have HL := Lib.hid hl; clear hl hc
  rw [clamp_minmax]
  go_enter Try.func6, Try.ntmps6
  go_upto_region 1 with fail
  go_step
  refine wpList_load_row rfl _ (.tmp 2) rfl _ rfl _ conf.toArray _ _ (heap_alloc_new w _) Try.underlying33 rfl HI.out ?_
  iterate 12 go_step
  refine wpList_value rfl _ _ (exec_buildC _ _ _ _ _ _ _ _ _ conf HL.out _ _ _ rfl rfl rfl) ?_
  iterate 10 go_step
  go_ret
  exact ⟨_, rfl, HR.out _, (((Fr.refl _ _).alloc _).alloc _).alloc _⟩

end Go.Proofs.Ytaokmbmimogdgaa
