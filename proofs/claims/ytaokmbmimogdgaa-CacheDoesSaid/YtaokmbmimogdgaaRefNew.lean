/- The reference's New, and Mac. -/
import Derived.Test.YtaokmbmimogdgaaRefWant
import Derived.Test.YtaokmbmimogdgaaInAny
import Derived.Test.YtaokmbmimogdgaaCacheNew
import Derived.StillTailTactics
namespace Go.Proofs.Ytaokmbmimogdgaa
open Go.RowKit
theorem wpStill_value {P : Program} {ops : Array Oper} {w : World} {Q : Act → Prop} {a : Act} {o : Oper} {rest : List Oper} (hg : o.guard = none) (v : Value) (h : (execOp a.eval o).run P w = .ok (.value v) w) (k : wpStill P ops w Q rest (a.put o.dst v)) : wpStill P ops w Q (o :: rest) a := by
  refine wpStill_step (fun K hK => ?_)
  rw [if_pos (by simp [Region.wanted, hg])]
  unfold Oper.still
  rw [h]
  exact ⟨rfl, hK _ k⟩
theorem exec_load_row {P : Program} (ρ : Operand → Value) (d : Option Tmp) (x : Operand) (ty2 ty : TypeId) (pos : String) (af : Array Edge) (g : Option (Nat × Bool)) (w : World) (b : Nat) (hx : ρ x = .pointer (some ⟨b, 0, none⟩)) (t : TypeId) (cs : Array Value) (fr : Nat × Nat) (td : TypeDesc) (hg : w.heap[b]? = some (.cells cs t fr))
    (hu : P.underlying ty = some td) (hd : (match td with | .struct _ | .array _ _ => true | _ => false) = true) (hi : (P.info? ty).map (·.size) = some cs.size) :
    (execOp ρ ⟨d, .load ty x, ty2, pos, af, g⟩).run P w = .ok (.value (.agg cs)) w := by
  unfold execOp
  simp only [hx, Instr.loadAt, Instr.sureAddr, Sem.run_bind, Sem.run_pure, Result.andThen_ok, run_loadVar_row w b t ty cs fr td hg hu hd hi]
theorem step_load_row {P : Program} {ops : Array Oper} {o : Oper} {a : Act} {w : World} {K : Act → World → Prop} {Q : Exit → Act → World → Prop} {E : Prop} (hgd : o.guard = none) (ty : TypeId) (x : Operand) (ho : o.op = .load ty x)
    (g : Nat) (hx : a.eval x = .pointer (some ⟨g, 0, none⟩)) (t : TypeId) (cs : Array Value) (fr : Nat × Nat) (d : TypeDesc) (hg : w.heap[g]? = some (.cells cs t fr))
    (hu : P.underlying ty = some d) (hd : (match d with | .struct _ | .array _ _ => true | _ => false) = true) (hi : (P.info? ty).map (·.size) = some cs.size)
    (h : K (a.put o.dst (.agg cs)) w) : if Region.wanted o (yielded ops a.tmps) = true then Oper.wp P o a w K Q else E := by
  rw [if_pos (by simp [Region.wanted, hgd])]
  exact wp_load_row ty x ho g hx t cs fr d hg hu hd hi h
theorem run_buildR (conf : List Value) (hl : conf.length = 40) (now : Int) (w : World) :
    (Instr.build 66 #[(0, Value.agg conf.toArray), (1, Value.int .i64 now)]).run Try.prog w = .ok (.agg (conf ++ [Value.int .i64 now, .slice none 0 0]).toArray) w := by
  obtain ⟨c0, c1, c2, c3, c4, c5, c6, c7, c8, c9, c10, c11, c12, c13, c14, c15, c16, c17, c18, c19, c20, c21, c22, c23, c24, c25, c26, c27, c28, c29, c30, c31, c32, c33, c34, c35, c36, c37, c38, c39, rfl⟩ := forty conf hl
  kernel_rfl
theorem exec_buildR (ρ : Operand → Value) (d : Option Tmp) (x y : Operand) (ty : TypeId) (pos : String) (af : Array Edge) (g : Option (Nat × Bool)) (conf : List Value) (hl : conf.length = 40) (now : Int) (w : World)
    (hx : ρ x = .agg conf.toArray) (hy : ρ y = .int .i64 now) :
    (execOp ρ ⟨d, .build 66 #[(0, x), (1, y)], ty, pos, af, g⟩).run Try.prog w = .ok (.value (.agg (conf ++ [Value.int .i64 now, .slice none 0 0]).toArray)) w := by
  have := run_buildR conf hl now w
  unfold execOp
  simp only [Sem.run_bind, List.map_toArray, List.map_cons, List.map_nil, hx, hy, this, Result.andThen_ok, Sem.run_pure]
def RNewC (w : World) (c : Cf) (now : Int) (e : Ending) (w' : World) : Prop :=
  ∃ b, e = .returned (.pointer (some ⟨b, 0, none⟩)) ∧ RRep w' b c now [] (fun k => w.heap.size ≤ k ∧ k < w'.heap.size) ∧ Fr Nil w w'
set_option maxRecDepth 100000 in
set_option maxHeartbeats 1000000 in
theorem rnew_any (w : World) (conf : List Value) (c : Cf) (hc : CfOK conf c) (n : Int) :
    Calls Try.prog 15 #[.agg conf.toArray, .int .i64 n] w (RNewC w c (clamp n 0 1073741824)) := by
  have hl := hc.len
  have hi : (Try.prog.info? 33).map (·.size) = some conf.toArray.size := by
    rw [List.size_toArray, hl]; kernel_rfl
  have HI := Lib.hid hi; clear hi
  have HL := Lib.hid hl; clear hl
  have HC := Lib.hid hc; clear hc
  have hin := fun W => rin_any n 0 1073741824 (by omega) W
  generalize hnow : clamp n 0 1073741824 = now at *
  clear hnow
  have HIN := Lib.hid hin; clear hin
  go_enter Try.func15, Try.ntmps15
  go_wp2_with fail
  refine wp_region_still_tail 4 (by kernel_rfl) (by kernel_rfl) ?_
  simp only [List.take_succ_cons, List.take_zero, List.drop_succ_cons, List.drop_zero]
  refine wpStill_value rfl (.agg conf.toArray) (exec_load_row _ _ _ _ _ _ _ _ _ _ rfl _ conf.toArray _ _ (heap_alloc_new w _) Try.underlying33 rfl HI.out) ?_
  still_step
  still_call ((HIN.out _).mono (fun _ _ h => ⟨h.1, h.2.symm⟩))
  refine wpStill_value rfl _ (exec_buildR _ _ _ _ _ _ _ _ conf HL.out _ _ rfl rfl) ?_
  refine wpStill_nil ?_
  change wpList _ _ _ _ _ (w.alloc (.cells conf.toArray 33)).drew
  have hB := Blk.new (w.alloc (.cells conf.toArray 33)).drew TRC (conf ++ [.int .i64 now, .slice none 0 0])
  have hF : Fr Nil w ((w.alloc (.cells conf.toArray 33)).drew.alloc (.cells (conf ++ [Value.int .i64 now, .slice none 0 0]).toArray TRC)) := (((Fr.refl Nil w).alloc _).drew).alloc _
  rw [show (w.alloc (.cells conf.toArray 33)).drew.heap.size = w.heap.size + 1 from by simp] at hB
  have HB := Lib.hid hB
  have HF := Lib.hid hF
  clear hB hF
  repeat go_step
  go_ret
  exact ⟨_, rfl, ⟨conf, .slice none 0 0, HC.out, HB.out, Ones.nil _ _ _, ⟨Nat.le_succ _, HB.out.lt⟩, (fun b hb => by cases hb), fun b hb => hb.2⟩, HF.out⟩
section
variable {w : World} {br : Nat} {c : Cf} {now : Int} {l : List One} {R : Nat → Prop} {conf : List Value} {u : Value}
set_option maxRecDepth 100000 in
set_option maxHeartbeats 2000000 in
theorem rmac_any (h : RAt w br c now l R conf u) (n k : Int) (hl : l.length ≤ 1000000) :
    Calls Try.prog 21 #[.pointer (some ⟨br, 0, none⟩), .agg #[.int .i64 n, .int .u32 k]] w
      (RetF (.tuple #[macV (macOf l n k).1, .bool (macOf l n k).2]) Nil w) := by
  have hf0 : Fr Nil w ((w.alloc (.cells #[.int .i64 n, .int .u32 k] 39)).alloc (.cells #[.int .u8 0, .int .u8 0, .int .u8 0, .int .u8 0, .int .u8 0, .int .u8 0] 23)) := ((Fr.refl _ _).alloc _).alloc _
  have h0 := h.fr hf0 (fun _ _ e => e)
  have hfd := rfind_any h0 n k hl
  obtain ⟨a, cp, hu⟩ := h.row.form
  subst hu
  have HF0 := Lib.hid hf0
  have H0 := Lib.hid h0
  rcases find_cases n k l with ⟨f1, f2⟩ | ⟨i, x, f1, f2, f3, f4⟩
  · have em : macOf l n k = (Mac.zero, false) := by unfold macOf; rw [f1]
    rw [em]
    rw [f2] at hfd
    have HFD := Lib.hid hfd
    clear hfd h0 hf0 h f1 f2 em
    go_enter Try.func21, Try.ntmps21
    go_wp2_with (go_at_call 30; refine HFD.out.mono ?_)
    rintro e w1 ⟨rfl, hf1⟩
    have B0 := Lib.hid (Blk.fr (Blk.new (w.alloc (.cells #[.int .i64 n, .int .u32 k] 39)) 23 [.int .u8 0, .int .u8 0, .int .u8 0, .int .u8 0, .int .u8 0, .int .u8 0]) hf1 (fun e => e))
    have hf2 := Lib.hid (HF0.out.trans hf1 (fun _ _ e => e))
    have hz : w1.heap.size > w.heap.size + 1 := by have := hf1.size; simp at this; omega
    clear hf1
    go_wp2_with (with_reducible refine here (o := ⟨none, .store 23 _ _, _, _, _, _⟩) ?_; refine wpList_store_blk rfl _ (.tmp 4) (.tmp 23) rfl _ [.int .u8 0, .int .u8 0, .int .u8 0, .int .u8 0, .int .u8 0, .int .u8 0] rfl rfl _ [.int .u8 0, .int .u8 0, .int .u8 0, .int .u8 0, .int .u8 0, .int .u8 0] (by simpa using B0.out) (by kernel_rfl) rfl (by simp [Value.oneCell']) ?_)
    intro w2 hb2 hg2
    have hf3 := hf2.out.grown hg2 (by intro k hk hlt; simp at hk; omega)
    have HF := Lib.hid hf3
    clear hf3 hg2 hf2
    have HB := Lib.hid hb2; clear hb2
    go_wp2_with fail
    refine bodyPost_ret (results_cell2 rfl _ _ _ _ _ rfl HB.out _ Try.underlying23 rfl (by kernel_rfl)) rfl ?_
    exact ⟨rfl, HF.out⟩
  · have em : macOf l n k = if x.known then (x.mac, true) else (Mac.zero, false) := by unfold macOf; rw [f1]; simp [f3]
    rw [em]
    rw [f2] at hfd
    have HFD := Lib.hid hfd
    have HX := Lib.hid f3
    have hil := (List.getElem?_eq_some_iff.1 f3).1
    clear hfd h0 hf0 h f1 f2 f3 f4 em
    cases hk : x.known with
    | false =>
      have HK := Lib.hid hk; clear hk
      simp only [Bool.false_eq_true, if_false]
      go_enter Try.func21, Try.ntmps21
      go_wp2_with (go_at_call 30; refine HFD.out.mono ?_)
      rintro e w1 ⟨rfl, hf1⟩
      have B0 := Lib.hid (Blk.fr (Blk.new (w.alloc (.cells #[.int .i64 n, .int .u32 k] 39)) 23 [.int .u8 0, .int .u8 0, .int .u8 0, .int .u8 0, .int .u8 0, .int .u8 0]) hf1 (fun e => e))
      have hf2 := Lib.hid (HF0.out.trans hf1 (fun _ _ e => e))
      have hz : w1.heap.size > w.heap.size + 1 := by have := hf1.size; simp at this; omega
      obtain ⟨g, v, ha, _, hcs, _, _, _⟩ := (H0.out.fr hf1 (fun _ _ e => e)).at HX.out
      subst ha
      have c41 := (H0.out.fr hf1 (fun _ _ e => e)).c41
      have hil' : (i : Int) < (l.length : Int) := by omega
      have hib : (0 : Int) ≤ (i : Int) := by omega
      have hneg : decide ((i : Int) < 0) = false := by simp
      have d2 : w1.cell? ⟨g, i * 12 + 2, none⟩ = some (.bool x.known) := hcs 2 (by omega)
      rw [HK.out] at d2
      clear hf1 hcs
      go_wp2_with (with_reducible refine here (o := ⟨none, .store 23 _ _, _, _, _, _⟩) ?_; refine wpList_store_blk rfl _ (.tmp 4) (.tmp 23) rfl _ [.int .u8 0, .int .u8 0, .int .u8 0, .int .u8 0, .int .u8 0, .int .u8 0] rfl rfl _ [.int .u8 0, .int .u8 0, .int .u8 0, .int .u8 0, .int .u8 0, .int .u8 0] (by simpa using B0.out) (by kernel_rfl) rfl (by simp [Value.oneCell']) ?_)
      intro w2 hb2 hg2
      have hf3 := hf2.out.grown hg2 (by intro k hk hlt; simp at hk; omega)
      have HF := Lib.hid hf3
      clear hf3 hg2 hf2
      have HB := Lib.hid hb2; clear hb2
      go_wp2_with fail
      refine bodyPost_ret (results_cell2 rfl _ _ _ _ _ rfl HB.out _ Try.underlying23 rfl (by kernel_rfl)) rfl ?_
      exact ⟨rfl, HF.out⟩
    | true =>
      have HK := Lib.hid hk; clear hk
      simp only [if_true]
      go_enter Try.func21, Try.ntmps21
      go_wp2_with (go_at_call 30; refine HFD.out.mono ?_)
      rintro e w1 ⟨rfl, hf1⟩
      have B0 := Lib.hid (Blk.fr (Blk.new (w.alloc (.cells #[.int .i64 n, .int .u32 k] 39)) 23 [.int .u8 0, .int .u8 0, .int .u8 0, .int .u8 0, .int .u8 0, .int .u8 0]) hf1 (fun e => e))
      have hf2 := Lib.hid (HF0.out.trans hf1 (fun _ _ e => e))
      have hz : w1.heap.size > w.heap.size + 1 := by have := hf1.size; simp at this; omega
      obtain ⟨g, v, ha, _, hcs, _, _, _⟩ := (H0.out.fr hf1 (fun _ _ e => e)).at HX.out
      subst ha
      have c41 := (H0.out.fr hf1 (fun _ _ e => e)).c41
      have hil' : (i : Int) < (l.length : Int) := by omega
      have hib : (0 : Int) ≤ (i : Int) := by omega
      have hneg : decide ((i : Int) < 0) = false := by simp
      have d2 : w1.cell? ⟨g, i * 12 + 2, none⟩ = some (.bool x.known) := hcs 2 (by omega)
      rw [HK.out] at d2
      have d3 : w1.cell? ⟨g, i * 12 + 3, none⟩ = some (.int .u8 x.mac.a) := hcs 3 (by omega)
      have d4 : w1.cell? ⟨g, i * 12 + 4, none⟩ = some (.int .u8 x.mac.b) := hcs 4 (by omega)
      have d5 : w1.cell? ⟨g, i * 12 + 5, none⟩ = some (.int .u8 x.mac.c) := hcs 5 (by omega)
      have d6 : w1.cell? ⟨g, i * 12 + 6, none⟩ = some (.int .u8 x.mac.d) := hcs 6 (by omega)
      have d7 : w1.cell? ⟨g, i * 12 + 7, none⟩ = some (.int .u8 x.mac.e) := hcs 7 (by omega)
      have d8 : w1.cell? ⟨g, i * 12 + 8, none⟩ = some (.int .u8 x.mac.f) := hcs 8 (by omega)
      clear hf1 hcs
      go_wp2_with (with_reducible refine here (o := ⟨none, .store 23 _ _, _, _, _, _⟩) ?_; refine wpList_store_blk rfl _ (.tmp 4) (.tmp 31) rfl _ [.int .u8 x.mac.a, .int .u8 x.mac.b, .int .u8 x.mac.c, .int .u8 x.mac.d, .int .u8 x.mac.e, .int .u8 x.mac.f] rfl rfl _ [.int .u8 0, .int .u8 0, .int .u8 0, .int .u8 0, .int .u8 0, .int .u8 0] (by simpa using B0.out) (by kernel_rfl) rfl (by simp [Value.oneCell']) ?_)
      intro w2 hb2 hg2
      have hf3 := hf2.out.grown hg2 (by intro k hk hlt; simp at hk; omega)
      have HF := Lib.hid hf3
      clear hf3 hg2 hf2
      have HB := Lib.hid hb2; clear hb2
      go_wp2_with fail
      refine bodyPost_ret (results_cell2 rfl _ _ _ _ _ rfl HB.out _ Try.underlying23 rfl (by kernel_rfl)) rfl ?_
      exact ⟨rfl, HF.out⟩
end
end Go.Proofs.Ytaokmbmimogdgaa
