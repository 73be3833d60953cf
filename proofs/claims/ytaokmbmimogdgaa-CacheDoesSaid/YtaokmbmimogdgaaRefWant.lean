/- The reference's Want. -/
import Derived.Test.YtaokmbmimogdgaaRefPut
import Derived.Deep.RegionHeld3
namespace Go.Proofs.Ytaokmbmimogdgaa
open Go.RowKit
section
variable {w : World} {br : Nat} {c : Cf} {now : Int} {l : List One} {R : Nat → Prop} {conf : List Value} {u : Value}
def RWPost (v : Value) (w : World) (br : Nat) (c : Cf) (now : Int) (l : List One) (R : Nat → Prop) (e : Ending) (w' : World) : Prop := e = .returned v ∧ RNext w.heap.size w br c now l R w'
theorem RAt.next0 (h : RAt w br c now l R conf u) {W : World} (hf : Fr Nil w W) : RNext w.heap.size w br c now l R W :=
  ⟨hf.mono (fun _ _ e => e.elim), (RRep.mono ⟨conf, u, h.fr hf (fun _ _ e => e)⟩ (fun b hb => ⟨.inl hb, Nat.lt_of_lt_of_le (h.lt b hb) hf.size⟩) (fun b hb => hb.2))⟩
/-- What a find comes to, and the element. -/
theorem find_cases (n k : Int) (l : List One) : (find n k l = none ∧ findI n k l = -1) ∨ ∃ i x, find n k l = some i ∧ findI n k l = i ∧ l[i]? = some x ∧ key x = (n, k) := by
  cases hf : find n k l with
  | none => exact .inl ⟨rfl, by unfold findI; rw [hf]⟩
  | some i =>
    obtain ⟨x, hx, hk⟩ := find_some hf
    exact .inr ⟨i, x, rfl, by unfold findI; rw [hf], hx, hk⟩
theorem row_one {R : Nat → Prop} {M : Nat} {w3 : World} {u : Value} {b : List Int} (hu : RdB Nil w3 u b) (hM : M ≤ w3.heap.size) :
    RdBB (fun x => (R x ∨ M ≤ x) ∧ IsTag TBs (w3.alloc (.cells #[u] TBs)) x) Nil (w3.alloc (.cells #[u] TBs)) (.slice (some ⟨w3.heap.size, 0, none⟩) 1 1) [b] := by
  refine ⟨[u], rfl, ⟨_, _, rfl, Nat.le_refl _, fun _ => ⟨w3.heap.size, 0, rfl, ⟨.inr hM, (Blk.new w3 TBs [u]).tag⟩, (Blk.new w3 TBs [u]).lt, fun j y hy => by rw [Nat.zero_add]; exact (Blk.new w3 TBs [u]).cellS hy⟩⟩, ?_⟩
  intro i v l h1 h2
  cases i with
  | zero => simp at h1 h2; subst h1 h2; exact hu.fr0 ((Fr.refl Nil w3).alloc _)
  | succ i => simp at h1
set_option maxRecDepth 100000 in
set_option maxHeartbeats 4000000 in
theorem rwant_none (h : RAt w br c now l R conf u) (n k : Int) {bv : Value} {b : List Int} {G : Nat → Prop} (hb : RdB G w bv b) (hbl : b.length ≤ 1000000) (hl : l.length ≤ 1000000) (htot : total l ≤ 1000000) (hfi : find n k l = none) (hff : findI n k l = -1) :
    Calls Try.prog 16 #[.pointer (some ⟨br, 0, none⟩), .agg #[.int .i64 n, .int .u32 k], bv] w
      (RWPost (.tuple #[.bool (Proofs.Ytaokmbmimogdgaa.want c now l n k b).1.1, .int .i64 (Proofs.Ytaokmbmimogdgaa.want c now l n k b).1.2]) w br c now (Proofs.Ytaokmbmimogdgaa.want c now l n k b).2 R) := by
  have hwant : Proofs.Ytaokmbmimogdgaa.want c now l n k b = if c.queue ≤ total l then ((false, 7), l) else if c.cache ≤ l.length then ((false, 7), l) else ((true, 0), put (newAsk now n k b) l) := by
    unfold Proofs.Ytaokmbmimogdgaa.want; rw [hfi]
  rw [hwant]
  have hf0 : Fr Nil w (w.alloc (.cells #[.int .i64 n, .int .u32 k] 39)) := (Fr.refl _ _).alloc _
  have hB0 := Blk.new w 39 [.int .i64 n, .int .u32 k]
  have h0 := h.fr hf0 (fun _ _ e => e)
  have hfd := rfind_any h0 n k hl
  rw [hff] at hfd
  obtain ⟨a, cp, hu⟩ := h.row.form
  subst hu
  have HFD := Lib.hid hfd
  have H0 := Lib.hid h0
  have HF0 := Lib.hid hf0
  have HB0 := Lib.hid hB0
  have HH := Lib.hid h
  have HBB := Lib.hid hb
  clear h hf0 hB0 h0 hfd hwant hfi hff hb
  by_cases hq : c.queue ≤ total l
  · rw [if_pos hq]
    have hqb : decide ((total l : Int) ≥ c.queue) = true := by simpa using hq
    clear hq
    go_enter Try.func16, Try.ntmps16
    go_wp2_with (go_at_call 30; refine HFD.out.mono ?_)
    rintro e w1 ⟨rfl, hf1⟩
    have h1 := H0.out.fr hf1 (fun _ _ e => e)
    have hb1 := HB0.out.fr hf1 (fun e => e)
    have p0 := hb1.cellS (i := 0) rfl
    have p1 := hb1.cellS (i := 1) rfl
    have c41 := h1.c41
    have c12 := h1.c12
    have c13 := h1.c13
    have c40 := h1.c40
    have HF1 := Lib.hid (HF0.out.trans hf1 (fun _ _ e => e))
    have hbr := h1.blk.lt
    have HCW := Lib.hid (fun m => ((rwaits_any (h1.fr ((Fr.refl Nil w1).drewN m) (fun _ _ e => e)) hl htot).mono (fun _ _ h => ⟨h.1, 0, h.2.symm⟩) : Calls Try.prog 22 #[.pointer (some ⟨br, 0, none⟩)] (w1.drewN m) (RetV (.int .i64 (total l)) (w1.drewN m))))
    clear hf1 h1 hb1
    generalize hbx : w.heap.size = bx at *
    have HBX := Lib.hid hbx
    clear hbx
    generalize (total l : Int) = tl at *
    go_wp2_with fail
    go_quiet ((go_at_call 22; exact RetV.quiet (HCW.out _)))
    go_wp2
    go_ret2
    exact ⟨rfl, HH.out.next0 (HF1.out.drewN nq)⟩
  · rw [if_neg hq]
    have hqb : decide ((total l : Int) ≥ c.queue) = false := by simpa using hq
    clear hq
    by_cases hcc : c.cache ≤ l.length
    · rw [if_pos hcc]
      have hcb : decide ((l.length : Int) ≥ c.cache) = true := by simpa using hcc
      have hcl : c.cache ≤ (l.length : Int) := hcc
      clear hcc
      go_enter Try.func16, Try.ntmps16
      go_wp2_with (go_at_call 30; refine HFD.out.mono ?_)
      rintro e w1 ⟨rfl, hf1⟩
      have h1 := H0.out.fr hf1 (fun _ _ e => e)
      have hb1 := HB0.out.fr hf1 (fun e => e)
      have p0 := hb1.cellS (i := 0) rfl
      have p1 := hb1.cellS (i := 1) rfl
      have c41 := h1.c41
      have c12 := h1.c12
      have c13 := h1.c13
      have c40 := h1.c40
      have HF1 := Lib.hid (HF0.out.trans hf1 (fun _ _ e => e))
      have hbr := h1.blk.lt
      have HCW := Lib.hid (fun m => ((rwaits_any (h1.fr ((Fr.refl Nil w1).drewN m) (fun _ _ e => e)) hl htot).mono (fun _ _ h => ⟨h.1, 0, h.2.symm⟩) : Calls Try.prog 22 #[.pointer (some ⟨br, 0, none⟩)] (w1.drewN m) (RetV (.int .i64 (total l)) (w1.drewN m))))
      clear hf1 h1 hb1
      generalize hbx : w.heap.size = bx at *
      have HBX := Lib.hid hbx
      clear hbx
      generalize (total l : Int) = tl at *
      go_wp2_with fail
      go_quiet ((go_at_call 22; exact RetV.quiet (HCW.out _)))
      go_wp2
      go_ret2
      exact ⟨rfl, HH.out.next0 (HF1.out.drewN nq)⟩
    · rw [if_neg hcc]
      have hcb : decide ((l.length : Int) ≥ c.cache) = false := by simpa using hcc
      have hcl : ¬ c.cache ≤ (l.length : Int) := hcc
      clear hcc
      go_enter Try.func16, Try.ntmps16
      go_wp2_with (go_at_call 30; refine HFD.out.mono ?_)
      rintro e w1 ⟨rfl, hf1⟩
      have h1 := H0.out.fr hf1 (fun _ _ e => e)
      have hb1 := HB0.out.fr hf1 (fun e => e)
      have p0 := hb1.cellS (i := 0) rfl
      have p1 := hb1.cellS (i := 1) rfl
      have c41 := h1.c41
      have c12 := h1.c12
      have c13 := h1.c13
      have c40 := h1.c40
      have HF1 := Lib.hid (HF0.out.trans hf1 (fun _ _ e => e))
      have hbr := h1.blk.lt
      have HCW := Lib.hid (fun m => ((rwaits_any (h1.fr ((Fr.refl Nil w1).drewN m) (fun _ _ e => e)) hl htot).mono (fun _ _ h => ⟨h.1, 0, h.2.symm⟩) : Calls Try.prog 22 #[.pointer (some ⟨br, 0, none⟩)] (w1.drewN m) (RetV (.int .i64 (total l)) (w1.drewN m))))
      clear hf1 h1 hb1
      generalize hbx : w.heap.size = bx at *
      have HBX := Lib.hid hbx
      clear hbx
      generalize (total l : Int) = tl at *
      go_wp2_with fail
      go_quiet ((go_at_call 22; exact RetV.quiet (HCW.out _)))
      go_wp2_with fail
      have HF2 := Lib.hid (HF1.out.drewN nq)
      have q0 : (w1.drewN nq).cell? ⟨bx, 0, none⟩ = some (.int .i64 n) := p0
      have q1 : (w1.drewN nq).cell? ⟨bx, 1, none⟩ = some (.int .u32 k) := p1
      have q40 : (w1.drewN nq).cell? ⟨br, 40, none⟩ = some (.int .i64 now) := c40
      have hl0 : bx < (w1.drewN nq).heap.size := World.block_lt_of_cell? _ _ q0
      have hl1 : br < (w1.drewN nq).heap.size := hbr
      clear p0 p1 c41 c12 c13 c40 hqb hcb hcl hbr HCW
      generalize w1.drewN nq = W at *
      go_region_held3 (fun w' => w'.cell? ⟨bx, 0, none⟩ = some (.int .i64 n) ∧ w'.cell? ⟨bx, 1, none⟩ = some (.int .u32 k) ∧ w'.cell? ⟨br, 40, none⟩ = some (.int .i64 now)) (go_keep)
        (first
          | (go_at_call 32; refine (add_any G Nil _ bv (.slice none 0 0) b [] (HBB.out.frN (HF2.out.trans ((Fr.refl Nil W).drew) (fun _ _ e => e))) (RdS.nil _ _) (by omega) (by simp)).mono ?_; rintro e w3 ⟨u3, rfl, hu3, hf3⟩; rw [List.append_nil] at hu3; obtain ⟨ua, uc, hue⟩ : ∃ a c, u3 = .slice a b.length c := (by obtain ⟨a, c, e, _⟩ := hu3; exact ⟨a, c, e⟩); subst hue; have HU3 := Lib.hid hu3; have HF3 := Lib.hid hf3; have k0 := hf3.cellS (show W.drew.cell? ⟨bx, 0, none⟩ = _ from q0) (fun e => e); have k1 := hf3.cellS (show W.drew.cell? ⟨bx, 1, none⟩ = _ from q1) (fun e => e); have k2 := hf3.cellS (show W.drew.cell? ⟨br, 40, none⟩ = _ from q40) (fun e => e); clear hu3 hf3)
          | (go_at_call 31; refine (rput_any (HH.out.fr (((HF2.out.drew).trans HF3.out (fun _ _ e => e)).alloc (.cells #[.slice ua b.length uc] TBs)) (fun _ _ e => e)) (newAsk now n k b) (some ⟨w3.heap.size, 0, none⟩) 1 bx (by have := HF3.out.size; simp at this ⊢; omega) (row_one HU3.out (by have := HF3.out.size; simp at this; omega)) hl).mono ?_; rintro e w5 ⟨rfl, hn5⟩; have HN5 := Lib.hid hn5; have hnb : ¬ (R bx ∧ ¬ IsTag TBs (w3.alloc (.cells #[.slice ua b.length uc] TBs)) bx) := (fun hh => by have := HH.out.lt _ hh.1; rw [HBX.out] at this; omega); have k0' := hn5.1.cellS (show (w3.alloc (.cells #[.slice ua b.length uc] TBs)).cell? ⟨bx, 0, none⟩ = some (.int .i64 n) from ((Fr.refl Nil w3).alloc _).cellS k0 (fun e => e)) hnb; have k1' := hn5.1.cellS (show (w3.alloc (.cells #[.slice ua b.length uc] TBs)).cell? ⟨bx, 1, none⟩ = some (.int .u32 k) from ((Fr.refl Nil w3).alloc _).cellS k1 (fun e => e)) hnb; obtain ⟨conf5, u5, h5⟩ := hn5.2; have k40' := h5.c40; clear hn5 h5))
      go_wp2
      go_ret2
      exact ⟨rfl, by rw [HBX.out]; exact HN5.out.from (((HF2.out.drew).trans HF3.out (fun _ _ e => e)).alloc (.cells #[.slice ua b.length uc] TBs))⟩
end
end Go.Proofs.Ytaokmbmimogdgaa
