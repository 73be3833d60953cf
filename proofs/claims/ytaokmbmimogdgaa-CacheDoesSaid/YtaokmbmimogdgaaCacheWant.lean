/- Contract of Want. -/
import Derived.Test.YtaokmbmimogdgaaCacheWait
import Derived.Deep.DeepCutAuto
import Derived.Deep.RegionHeld3
namespace Go.Proofs.Ytaokmbmimogdgaa
open Go.RowKit Go.ChangeMaps

/-- Returned v; the cache at bc holds the row l; of what was there only F has turned. -/
def CPost (v : Value) (bc : Nat) (c : Cf) (now : Int) (l : List One) (F : Nat → Prop) (w : World) (e : Ending) (w' : World) : Prop :=
  e = .returned v ∧ Fr F w w' ∧ ∃ F', CRep w' bc c now l F' ∧ ∀ b, F' b → F b ∨ w.heap.size ≤ b

theorem CPost.same {w w' : World} {bc : Nat} {c : Cf} {now : Int} {l : List One} {F : Nat → Prop} {v : Value} (h : CRep w bc c now l F) (hf : Fr Nil w w') : CPost v bc c now l F w (.returned v) w' :=
  ⟨rfl, hf.mono (fun _ _ e => e.elim), F, h.fr hf (fun _ _ e => e), fun b hb => .inl hb⟩

section
variable {w : World} {bc : Nat} {c : Cf} {now : Int} {conf : List Value} {bm : Nat} {ents : List Ent} {F : Nat → Prop}

theorem alloc_place_fr (w : World) (n k : Int) : Fr Nil w (w.alloc (.cells #[.int .i64 n, .int .u32 k] 39)) := (Fr.refl _ _).alloc _

set_option maxHeartbeats 1000000 in
theorem want_known {l : List One} (hs : Sorted l) (h : CAt w bc c now conf bm ents F) (hp : l.Perm (rows ents)) (n k : Int) (u : Value) {j : Nat} {t : Ent}
    (f2 : idx (ents.map ekv) (n, k) = some j) (f3 : ents[j]? = some t) (hk : t.x.known = true) :
    Calls Try.prog 8 #[.pointer (some ⟨bc, 0, none⟩), .agg #[.int .i64 n, .int .u32 k], u] w (CPost (.tuple #[.bool false, .int .i64 10]) bc c now l F w) := by
  have C := get_any (h.fr (alloc_place_fr w n k) (fun _ _ e => e)) n k
  rw [look_some f2 f3] at C
  have hbc := h.blk.lt
  have E0 := h.eat t (List.mem_of_getElem? f3)
  have p0 := E0.p0
  have hbp := E0.1.lt
  rw [hk] at p0
  have HC := Lib.hid (⟨hs, conf, bm, ents, h, hp⟩ : CRep w bc c now l F)
  have R := Lib.hid C
  clear C h hp hs f2 f3 E0 hk
  go_enter Try.func8, Try.ntmps8
  go_wp2_with (go_at_call 25; refine R.out.mono ?_)
  rintro e w1 ⟨rfl, hf1⟩
  have hf2 := Lib.hid ((alloc_place_fr w n k).trans hf1 (fun _ _ e => e))
  have p1 : w1.cell? ⟨t.bp, 0, none⟩ = some (.bool true) := hf2.out.cellS p0 (fun e => e)
  clear hf1 p0
  go_wp2_with fail
  go_ret2
  exact CPost.same HC.out hf2.out
set_option maxHeartbeats 1000000 in
theorem want_full1 {l : List One} (hs : Sorted l) (h : CAt w bc c now conf bm ents F) (hp : l.Perm (rows ents)) (n k : Int) (u : Value) {j : Nat} {t : Ent}
    (f2 : idx (ents.map ekv) (n, k) = some j) (f3 : ents[j]? = some t) (hk : t.x.known = false) (hq : c.queue ≤ total (rows ents)) :
    Calls Try.prog 8 #[.pointer (some ⟨bc, 0, none⟩), .agg #[.int .i64 n, .int .u32 k], u] w (CPost (.tuple #[.bool false, .int .i64 7]) bc c now l F w) := by
  have C := get_any (h.fr (alloc_place_fr w n k) (fun _ _ e => e)) n k
  rw [look_some f2 f3] at C
  have hbc := h.blk.lt
  have E0 := h.eat t (List.mem_of_getElem? f3)
  have p0 := E0.p0
  have hbp := E0.1.lt
  rw [hk] at p0
  have c28 := h.c28
  have c42 := h.c42
  have HC := Lib.hid (⟨hs, conf, bm, ents, h, hp⟩ : CRep w bc c now l F)
  have R := Lib.hid C
  clear C h hp hs f2 f3 E0 hk
  go_enter Try.func8, Try.ntmps8
  go_wp2_with (go_at_call 25; refine R.out.mono ?_)
  rintro e w1 ⟨rfl, hf1⟩
  have hf2 := Lib.hid ((alloc_place_fr w n k).trans hf1 (fun _ _ e => e))
  have p1 : w1.cell? ⟨t.bp, 0, none⟩ = some (.bool false) := hf2.out.cellS p0 (fun e => e)
  have d28 := hf2.out.cellS c28 (fun e => e)
  have d42 := hf2.out.cellS c42 (fun e => e)
  clear hf1 p0 c28 c42
  go_wp2_with fail
  go_quiet (fail)
  go_wp2_with fail
  go_ret2
  exact CPost.same HC.out (hf2.out.drewN _)

set_option maxHeartbeats 1000000 in
theorem want_full2 {l : List One} (hs : Sorted l) (h : CAt w bc c now conf bm ents F) (hp : l.Perm (rows ents)) (n k : Int) (u : Value)
    (f2 : idx (ents.map ekv) (n, k) = none) (hq : c.queue ≤ total (rows ents)) :
    Calls Try.prog 8 #[.pointer (some ⟨bc, 0, none⟩), .agg #[.int .i64 n, .int .u32 k], u] w (CPost (.tuple #[.bool false, .int .i64 7]) bc c now l F w) := by
  have C := get_any (h.fr (alloc_place_fr w n k) (fun _ _ e => e)) n k
  rw [look_none f2] at C
  have hbc := h.blk.lt
  have c28 := h.c28
  have c42 := h.c42
  have HC := Lib.hid (⟨hs, conf, bm, ents, h, hp⟩ : CRep w bc c now l F)
  have R := Lib.hid C
  clear C h hp hs f2
  go_enter Try.func8, Try.ntmps8
  go_wp2_with (go_at_call 25; refine R.out.mono ?_)
  rintro e w1 ⟨rfl, hf1⟩
  have hf2 := Lib.hid ((alloc_place_fr w n k).trans hf1 (fun _ _ e => e))
  have d28 := hf2.out.cellS c28 (fun e => e)
  have d42 := hf2.out.cellS c42 (fun e => e)
  clear hf1 c28 c42
  go_wp2_with fail
  go_quiet (fail)
  go_wp2_with fail
  go_ret2
  exact CPost.same HC.out (hf2.out.drewN _)

set_option maxHeartbeats 1000000 in
theorem want_full3 {l : List One} (hs : Sorted l) (h : CAt w bc c now conf bm ents F) (hp : l.Perm (rows ents)) (n k : Int) (u : Value)
    (f2 : idx (ents.map ekv) (n, k) = none) (hq : ¬ c.queue ≤ total (rows ents)) (hc : c.cache ≤ ents.length) :
    Calls Try.prog 8 #[.pointer (some ⟨bc, 0, none⟩), .agg #[.int .i64 n, .int .u32 k], u] w (CPost (.tuple #[.bool false, .int .i64 7]) bc c now l F w) := by
  have C := get_any (h.fr (alloc_place_fr w n k) (fun _ _ e => e)) n k
  rw [look_none f2] at C
  have hbc := h.blk.lt
  have c27 := h.c27
  have c28 := h.c28
  have c41 := h.c41
  have c42 := h.c42
  have HA := Lib.hid h
  have HC := Lib.hid (⟨hs, conf, bm, ents, h, hp⟩ : CRep w bc c now l F)
  have R := Lib.hid C
  have hq' : decide (c.queue ≤ (total (rows ents) : Int)) = false := by simpa using hq
  clear C h hp hs f2 hq
  go_enter Try.func8, Try.ntmps8
  go_wp2_with (go_at_call 25; refine R.out.mono ?_)
  rintro e w1 ⟨rfl, hf1⟩
  have hf2 := Lib.hid ((alloc_place_fr w n k).trans hf1 (fun _ _ e => e))
  have d27 := hf2.out.cellS c27 (fun e => e)
  have d28 := hf2.out.cellS c28 (fun e => e)
  have d41 := hf2.out.cellS c41 (fun e => e)
  have d42 := hf2.out.cellS c42 (fun e => e)
  have hl : ∀ nq ty, (Builtin.len_ #[69] ty #[.map (some bm)]).run Try.prog (w1.drewN nq) = .ok (.int .i64 ents.length) (w1.drewN nq) := fun nq ty => by
    have := (HA.out.fr (hf2.out.drewN nq) (fun _ _ e => e)).map.len Try.underlying69 ty
    simpa [goInt] using this
  clear hf1 c27 c28 c41 c42
  go_wp2_with fail
  go_quiet (fail)
  go_wp2_with fail
  go_ret2
  exact CPost.same HC.out (hf2.out.drewN _)
end

end Go.Proofs.Ytaokmbmimogdgaa
