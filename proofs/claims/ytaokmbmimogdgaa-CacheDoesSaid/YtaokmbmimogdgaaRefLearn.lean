/- The reference's Learn. -/
import Derived.Test.YtaokmbmimogdgaaRefWant
import Derived.StillTailTactics
namespace Go.Proofs.Ytaokmbmimogdgaa
open Go.RowKit
section
variable {w : World} {br : Nat} {c : Cf} {now : Int} {l : List One} {R : Nat → Prop} {conf : List Value} {u : Value}
def RLPost (out : List (List Int)) (ok : Bool) (w : World) (br : Nat) (c : Cf) (now : Int) (l : List One) (R : Nat → Prop) (e : Ending) (w' : World) : Prop :=
  ∃ v, e = .returned (.tuple #[v, .bool ok]) ∧ RdBB (fun b => R b ∧ IsTag TBs w' b) Nil w' v out ∧ RNext w.heap.size w br c now l R w'
theorem RNext.from' {W w' : World} {now2 : Int} {l2 : List One} (h : RNext W.heap.size W br c now2 l2 R w') (hf : Fr Nil w W) (hR : ∀ b, R b → b < W.heap.size) : RNext w.heap.size w br c now2 l2 R w' := by
  have h1 := h.1.size
  refine ⟨(hf.mono (fun _ _ e => e.elim)).trans h.1 (fun b _ hs => ⟨hs.1, fun ht => hs.2 (hf.tag _ _ ht)⟩), h.2.mono (fun b hb => ⟨?_, hb.2⟩) (fun b hb => hb.2)⟩
  rcases hb.1 with e | e
  · exact .inl e
  · exact .inr (Nat.le_trans hf.size e)
theorem learn_none (n k : Int) (m : Mac) (add : Bool) (hf : find n k l = none) : Proofs.Ytaokmbmimogdgaa.learn c now l n k m add = if !add then (([], false), l) else if c.cache ≤ l.length then (([], false), l) else (([], true), put (newKnown now n k m) l) := by
  unfold Proofs.Ytaokmbmimogdgaa.learn; rw [hf]
theorem learn_some (n k : Int) (m : Mac) (add : Bool) {i : Nat} {x : One} (hf : find n k l = some i) (hx : l[i]? = some x) : Proofs.Ytaokmbmimogdgaa.learn c now l n k m add = ((x.waits, true), put (newKnown now n k m) (l.eraseIdx i)) := by
  unfold Proofs.Ytaokmbmimogdgaa.learn; rw [hf]; simp [hx]
set_option maxRecDepth 100000 in
set_option maxHeartbeats 4000000 in
theorem rlearn_none (h : RAt w br c now l R conf u) (n k : Int) (m : Mac) (add : Bool) (hl : l.length ≤ 1000000) (hfi : find n k l = none) (hff : findI n k l = -1) :
    Calls Try.prog 17 #[.pointer (some ⟨br, 0, none⟩), .agg #[.int .i64 n, .int .u32 k], .agg #[.int .u8 m.a, .int .u8 m.b, .int .u8 m.c, .int .u8 m.d, .int .u8 m.e, .int .u8 m.f], .bool add] w
      (RLPost (Proofs.Ytaokmbmimogdgaa.learn c now l n k m add).1.1 (Proofs.Ytaokmbmimogdgaa.learn c now l n k m add).1.2 w br c now (Proofs.Ytaokmbmimogdgaa.learn c now l n k m add).2 R) := by
  rw [learn_none n k m add hfi]
  have hf0 : Fr Nil w ((w.alloc (.cells #[.int .i64 n, .int .u32 k] 39)).alloc (.cells #[.int .u8 m.a, .int .u8 m.b, .int .u8 m.c, .int .u8 m.d, .int .u8 m.e, .int .u8 m.f] 23)) := ((Fr.refl _ _).alloc _).alloc _
  have hB0 := (Blk.new w 39 [.int .i64 n, .int .u32 k]).alloc (.cells #[.int .u8 m.a, .int .u8 m.b, .int .u8 m.c, .int .u8 m.d, .int .u8 m.e, .int .u8 m.f] 23)
  have hB1 := Blk.new (w.alloc (.cells #[.int .i64 n, .int .u32 k] 39)) 23 [.int .u8 m.a, .int .u8 m.b, .int .u8 m.c, .int .u8 m.d, .int .u8 m.e, .int .u8 m.f]
  rw [World.size_alloc] at hB1
  have h0 := h.fr hf0 (fun _ _ e => e)
  have hfd := rfind_any h0 n k hl
  rw [hff] at hfd
  obtain ⟨a, cp, hu⟩ := h.row.form
  subst hu
  have HFD := Lib.hid hfd
  have H0 := Lib.hid h0
  have HF0 := Lib.hid hf0
  have HB0 := Lib.hid hB0
  have HB1 := Lib.hid hB1
  have HH := Lib.hid h
  clear h hf0 hB0 hB1 h0 hfd hfi hff
  cases add with
  | false =>
    simp only [Bool.not_false, if_true]
    go_enter Try.func17, Try.ntmps17
    go_wp2_with (go_at_call 30; refine HFD.out.mono ?_)
    rintro e w1 ⟨rfl, hf1⟩
    have h1 := H0.out.fr hf1 (fun _ _ e => e)
    have hb0 := HB0.out.fr hf1 (fun e => e)
    have hb1 := HB1.out.fr hf1 (fun e => e)
    have p0 := hb0.cellS (i := 0) rfl
    have p1 := hb0.cellS (i := 1) rfl
    have m0 := hb1.cellS (i := 0) rfl
    have m1 := hb1.cellS (i := 1) rfl
    have m2 := hb1.cellS (i := 2) rfl
    have m3 := hb1.cellS (i := 3) rfl
    have m4 := hb1.cellS (i := 4) rfl
    have m5 := hb1.cellS (i := 5) rfl
    have c41 := h1.c41
    have c12 := h1.c12
    have c40 := h1.c40
    have HF1 := Lib.hid (HF0.out.trans hf1 (fun _ _ e => e))
    clear hf1 h1 hb0 hb1
    go_wp2_with fail
    go_quiet (fail)
    go_wp2
    go_ret2
    exact ⟨_, rfl, RdBB.nil _ _ _, HH.out.next0 (HF1.out.drewN nq)⟩
  | true =>
    simp only [Bool.not_true, Bool.false_eq_true, if_false]
    by_cases hcc : c.cache ≤ l.length
    · rw [if_pos hcc]
      have hcb : decide ((l.length : Int) ≥ c.cache) = true := by simpa using hcc
      have hcl : c.cache ≤ (l.length : Int) := hcc
      clear hcc
      go_enter Try.func17, Try.ntmps17
      go_wp2_with (go_at_call 30; refine HFD.out.mono ?_)
      rintro e w1 ⟨rfl, hf1⟩
      have h1 := H0.out.fr hf1 (fun _ _ e => e)
      have hb0 := HB0.out.fr hf1 (fun e => e)
      have hb1 := HB1.out.fr hf1 (fun e => e)
      have p0 := hb0.cellS (i := 0) rfl
      have p1 := hb0.cellS (i := 1) rfl
      have m0 := hb1.cellS (i := 0) rfl
      have m1 := hb1.cellS (i := 1) rfl
      have m2 := hb1.cellS (i := 2) rfl
      have m3 := hb1.cellS (i := 3) rfl
      have m4 := hb1.cellS (i := 4) rfl
      have m5 := hb1.cellS (i := 5) rfl
      have c41 := h1.c41
      have c12 := h1.c12
      have c40 := h1.c40
      have HF1 := Lib.hid (HF0.out.trans hf1 (fun _ _ e => e))
      clear hf1 h1 hb0 hb1
      go_wp2_with fail
      go_quiet (fail)
      go_wp2
      go_ret2
      exact ⟨_, rfl, RdBB.nil _ _ _, HH.out.next0 (HF1.out.drewN nq)⟩
    · rw [if_neg hcc]
      have hcb : decide ((l.length : Int) ≥ c.cache) = false := by simpa using hcc
      have hcl : ¬ c.cache ≤ (l.length : Int) := hcc
      clear hcc
      go_enter Try.func17, Try.ntmps17
      go_wp2_with (go_at_call 30; refine HFD.out.mono ?_)
      rintro e w1 ⟨rfl, hf1⟩
      have h1 := H0.out.fr hf1 (fun _ _ e => e)
      have hb0 := HB0.out.fr hf1 (fun e => e)
      have hb1 := HB1.out.fr hf1 (fun e => e)
      have p0 := hb0.cellS (i := 0) rfl
      have p1 := hb0.cellS (i := 1) rfl
      have m0 := hb1.cellS (i := 0) rfl
      have m1 := hb1.cellS (i := 1) rfl
      have m2 := hb1.cellS (i := 2) rfl
      have m3 := hb1.cellS (i := 3) rfl
      have m4 := hb1.cellS (i := 4) rfl
      have m5 := hb1.cellS (i := 5) rfl
      have c41 := h1.c41
      have c12 := h1.c12
      have c40 := h1.c40
      have HF1 := Lib.hid (HF0.out.trans hf1 (fun _ _ e => e))
      clear hf1 h1 hb0 hb1
      go_wp2_with fail
      go_quiet (fail)
      go_wp2_with fail
      have HF2 := Lib.hid (HF1.out.drewN nq)
      have hH2 := HH.out.fr HF2.out (fun _ _ e => e)
      have HPUT := Lib.hid (fun (W : World) (hW : Fr Nil (w1.drewN nq) W) => rput_any (hH2.fr hW (fun _ _ e => e)) (newKnown now n k m) none 0 w.heap.size (Nat.le_trans HF2.out.size hW.size) (RdBB.nil _ _ _) hl)
      have q0 : (w1.drewN nq).cell? ⟨w.heap.size, 0, none⟩ = some (.int .i64 n) := p0
      have q1 : (w1.drewN nq).cell? ⟨w.heap.size, 1, none⟩ = some (.int .u32 k) := p1
      have r0 : (w1.drewN nq).cell? ⟨w.heap.size + 1, 0, none⟩ = some (.int .u8 m.a) := m0
      have r1 : (w1.drewN nq).cell? ⟨w.heap.size + 1, 1, none⟩ = some (.int .u8 m.b) := m1
      have r2 : (w1.drewN nq).cell? ⟨w.heap.size + 1, 2, none⟩ = some (.int .u8 m.c) := m2
      have r3 : (w1.drewN nq).cell? ⟨w.heap.size + 1, 3, none⟩ = some (.int .u8 m.d) := m3
      have r4 : (w1.drewN nq).cell? ⟨w.heap.size + 1, 4, none⟩ = some (.int .u8 m.e) := m4
      have r5 : (w1.drewN nq).cell? ⟨w.heap.size + 1, 5, none⟩ = some (.int .u8 m.f) := m5
      have q40 : (w1.drewN nq).cell? ⟨br, 40, none⟩ = some (.int .i64 now) := c40
      clear p0 p1 m0 m1 m2 m3 m4 m5 c41 c12 c40 hcb hcl hH2
      generalize w1.drewN nq = V at *
      go_still_tail 8, (by kernel_rfl)
      repeat still_step
      try (refine wpStill_nil ?_)
      change wpList _ _ _ _ _ V.drew
      go_wp2_with (go_at_call 31; refine (HPUT.out _ ((Fr.refl Nil V).drew)).mono ?_)
      rintro e w5 ⟨rfl, hn5⟩
      have HN5 := Lib.hid hn5
      clear hn5
      go_wp2
      go_ret2
      exact ⟨_, rfl, RdBB.nil _ _ _, HN5.out.from (HF2.out.drew)⟩
set_option maxRecDepth 100000 in
set_option maxHeartbeats 4000000 in
theorem rlearn_some (h : RAt w br c now l R conf u) (n k : Int) (m : Mac) (add : Bool) (hl : l.length ≤ 1000000) {i : Nat} {x : One} (hfi : find n k l = some i) (hff : findI n k l = i) (hx : l[i]? = some x) (hxw : x.waits.length ≤ 1000000) :
    Calls Try.prog 17 #[.pointer (some ⟨br, 0, none⟩), .agg #[.int .i64 n, .int .u32 k], .agg #[.int .u8 m.a, .int .u8 m.b, .int .u8 m.c, .int .u8 m.d, .int .u8 m.e, .int .u8 m.f], .bool add] w
      (RLPost (Proofs.Ytaokmbmimogdgaa.learn c now l n k m add).1.1 (Proofs.Ytaokmbmimogdgaa.learn c now l n k m add).1.2 w br c now (Proofs.Ytaokmbmimogdgaa.learn c now l n k m add).2 R) := by
  rw [learn_some n k m add hfi hx]
  have hf0 : Fr Nil w ((w.alloc (.cells #[.int .i64 n, .int .u32 k] 39)).alloc (.cells #[.int .u8 m.a, .int .u8 m.b, .int .u8 m.c, .int .u8 m.d, .int .u8 m.e, .int .u8 m.f] 23)) := ((Fr.refl _ _).alloc _).alloc _
  have hB0 := (Blk.new w 39 [.int .i64 n, .int .u32 k]).alloc (.cells #[.int .u8 m.a, .int .u8 m.b, .int .u8 m.c, .int .u8 m.d, .int .u8 m.e, .int .u8 m.f] 23)
  have hB1 := Blk.new (w.alloc (.cells #[.int .i64 n, .int .u32 k] 39)) 23 [.int .u8 m.a, .int .u8 m.b, .int .u8 m.c, .int .u8 m.d, .int .u8 m.e, .int .u8 m.f]
  rw [World.size_alloc] at hB1
  have h0 := h.fr hf0 (fun _ _ e => e)
  have hfd := rfind_any h0 n k hl
  rw [hff] at hfd
  obtain ⟨a, cp, hu⟩ := h.row.form
  subst hu
  have HFD := Lib.hid hfd
  have H0 := Lib.hid h0
  have HF0 := Lib.hid hf0
  have HB0 := Lib.hid hB0
  have HB1 := Lib.hid hB1
  have HH := Lib.hid h
  have HX := Lib.hid hx
  have hil := (List.getElem?_eq_some_iff.1 hx).1
  clear h hf0 hB0 hB1 h0 hfd hfi hff hx
  go_enter Try.func17, Try.ntmps17
  go_wp2_with (go_at_call 30; refine HFD.out.mono ?_)
  rintro e w1 ⟨rfl, hf1⟩
  have h1 := H0.out.fr hf1 (fun _ _ e => e)
  have hb0 := HB0.out.fr hf1 (fun e => e)
  have hb1 := HB1.out.fr hf1 (fun e => e)
  have p0 := hb0.cellS (i := 0) rfl
  have p1 := hb0.cellS (i := 1) rfl
  have m0 := hb1.cellS (i := 0) rfl
  have m1 := hb1.cellS (i := 1) rfl
  have m2 := hb1.cellS (i := 2) rfl
  have m3 := hb1.cellS (i := 3) rfl
  have m4 := hb1.cellS (i := 4) rfl
  have m5 := hb1.cellS (i := 5) rfl
  have c41 := h1.c41
  have c12 := h1.c12
  have c40 := h1.c40
  have HF1 := Lib.hid (HF0.out.trans hf1 (fun _ _ e => e))
  have hf1c := hf1
  clear hf1 h1 hb0 hb1
  obtain ⟨g, v, ha, hvx, hcs, _, _, _⟩ := (H0.out.fr hf1c (fun _ _ e => e)).at HX.out
  subst ha
  obtain ⟨xa, xc, rfl⟩ := rdbb_form hvx
  have d11 : w1.cell? ⟨g, i * 12 + 11, none⟩ = some (.slice xa x.waits.length xc) := hcs 11 (by omega)
  have hib : (0 : Int) ≤ (i : Int) := by omega
  have hil' : (i : Int) < (l.length : Int) := by omega
  have hnb : decide ((i : Int) < 0) = false := by simp
  have hng : decide ((i : Int) ≥ 0) = true := by simp
  have HVX := Lib.hid hvx
  clear hcs hvx hf1c
  go_wp2_with fail
  go_quiet (fail)
  have HF2 := Lib.hid (HF1.out.drewN nq)
  have hH2 := HH.out.fr HF2.out (fun _ _ e => e)
  have HDR := Lib.hid (rdrop_any hH2 i hil hl)
  have HVX2 := Lib.hid (rdbb_tag (R' := R) HVX.out ((Fr.refl Nil w1).drewN nq) (fun _ _ _ _ e => e) (fun _ _ e => e))
  have q0 : (w1.drewN nq).cell? ⟨w.heap.size, 0, none⟩ = some (.int .i64 n) := p0
  have q1 : (w1.drewN nq).cell? ⟨w.heap.size, 1, none⟩ = some (.int .u32 k) := p1
  have r0 : (w1.drewN nq).cell? ⟨w.heap.size + 1, 0, none⟩ = some (.int .u8 m.a) := m0
  have r1 : (w1.drewN nq).cell? ⟨w.heap.size + 1, 1, none⟩ = some (.int .u8 m.b) := m1
  have r2 : (w1.drewN nq).cell? ⟨w.heap.size + 1, 2, none⟩ = some (.int .u8 m.c) := m2
  have r3 : (w1.drewN nq).cell? ⟨w.heap.size + 1, 3, none⟩ = some (.int .u8 m.d) := m3
  have r4 : (w1.drewN nq).cell? ⟨w.heap.size + 1, 4, none⟩ = some (.int .u8 m.e) := m4
  have r5 : (w1.drewN nq).cell? ⟨w.heap.size + 1, 5, none⟩ = some (.int .u8 m.f) := m5
  have q11 : (w1.drewN nq).cell? ⟨g, i * 12 + 11, none⟩ = some (.slice xa x.waits.length xc) := d11
  have q41 : (w1.drewN nq).cell? ⟨br, 41, none⟩ = some (.slice (some ⟨g, 0, none⟩) l.length cp) := c41
  clear p0 p1 m0 m1 m2 m3 m4 m5 c41 c12 c40 hH2 d11 HVX
  generalize w1.drewN nq = V at *
  go_wp2_with (go_at_call 33; refine HDR.out.mono ?_)
  rintro e w5 ⟨rfl, hn5⟩
  have hRl : ∀ j, j = w.heap.size ∨ j = w.heap.size + 1 → ¬ (R j ∧ ¬ IsTag TBs V j) := fun j hj hh => by have := HH.out.lt j hh.1; omega
  have s0 := hn5.1.cellS q0 (hRl _ (.inl rfl))
  have s1 := hn5.1.cellS q1 (hRl _ (.inl rfl))
  have t0 := hn5.1.cellS r0 (hRl _ (.inr rfl))
  have t1 := hn5.1.cellS r1 (hRl _ (.inr rfl))
  have t2 := hn5.1.cellS r2 (hRl _ (.inr rfl))
  have t3 := hn5.1.cellS r3 (hRl _ (.inr rfl))
  have t4 := hn5.1.cellS r4 (hRl _ (.inr rfl))
  have t5 := hn5.1.cellS r5 (hRl _ (.inr rfl))
  have hv5 := rdbb_tag (R' := fun b => R b) HVX2.out hn5.1 (fun b _ ht _ hh => hh.2 ht) (fun _ _ e => e)
  obtain ⟨conf5, u5, h5⟩ := hn5.2
  have q40 := h5.c40
  have hlp : (l.eraseIdx i).length ≤ 1000000 := Nat.le_trans (List.eraseIdx_sublist _ _).length_le hl
  have HPUT := Lib.hid (rput_any (h5.fr ((Fr.refl Nil w5).drew) (fun _ _ e => e)) (newKnown now n k m) none 0 V.heap.size hn5.1.size (RdBB.nil _ _ _) hlp)
  have HN5 := Lib.hid hn5
  have HV5 := Lib.hid hv5
  clear q0 q1 r0 r1 r2 r3 r4 r5 q11 q41 hRl hn5 hv5 h5
  go_wp2_with fail
  go_still_tail 8, (by kernel_rfl)
  repeat still_step
  try (refine wpStill_nil ?_)
  change wpList _ _ _ _ _ w5.drew
  go_wp2_with (go_at_call 31; refine HPUT.out.mono ?_)
  rintro e w6 ⟨rfl, hn6⟩
  have HN6 := Lib.hid hn6
  clear hn6
  go_wp2
  go_ret2
  have hn6 := HN6.out.from ((Fr.refl Nil w5).drew)
  have hR : ∀ b, R b → b < V.heap.size := fun b hb => Nat.lt_of_lt_of_le (HH.out.lt b hb) HF2.out.size
  have hall := (HN5.out.then rfl hR HN5.out.1.size hn6 (Nat.le_refl _)).from' HF2.out hR
  refine ⟨_, rfl, ?_, hall⟩
  exact rdbb_tag HV5.out hn6.1 (fun b _ ht _ hh => hh.2 ht) (fun _ _ e => e)
/-- The reference's Learn: what it answers, and the row behind it. -/
theorem rlearn_any (h : RAt w br c now l R conf u) (n k : Int) (m : Mac) (add : Bool) (hl : l.length ≤ 1000000) (htot : total l ≤ 1000000) :
    Calls Try.prog 17 #[.pointer (some ⟨br, 0, none⟩), .agg #[.int .i64 n, .int .u32 k], .agg #[.int .u8 m.a, .int .u8 m.b, .int .u8 m.c, .int .u8 m.d, .int .u8 m.e, .int .u8 m.f], .bool add] w
      (RLPost (Proofs.Ytaokmbmimogdgaa.learn c now l n k m add).1.1 (Proofs.Ytaokmbmimogdgaa.learn c now l n k m add).1.2 w br c now (Proofs.Ytaokmbmimogdgaa.learn c now l n k m add).2 R) := by
  rcases find_cases n k l with ⟨h1, h2⟩ | ⟨i, x, h1, h2, h3, _⟩
  · exact rlearn_none h n k m add hl h1 h2
  · exact rlearn_some h n k m add hl h1 h2 h3 (Nat.le_trans (waits_le h3) htot)
end
end Go.Proofs.Ytaokmbmimogdgaa
