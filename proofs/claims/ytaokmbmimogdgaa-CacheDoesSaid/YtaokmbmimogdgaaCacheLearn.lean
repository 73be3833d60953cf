/- Contract of Learn. -/
import Derived.Test.YtaokmbmimogdgaaCacheWant3
namespace Go.Proofs.Ytaokmbmimogdgaa
open Go.RowKit Go.ChangeMaps
attribute [local go_sem ↓] Go.wp_at_zero Go.wp_at_succ

/-- Returned the rows out, and ok; the cache at bc holds the row l; of what was there only F has turned. -/
def LPost (out : List (List Int)) (ok : Bool) (bc : Nat) (c : Cf) (now : Int) (l : List One) (F : Nat → Prop) (w : World) (e : Ending) (w' : World) : Prop :=
  ∃ u, e = .returned (.tuple #[u, .bool ok]) ∧ RdBB F Nil w' u out ∧ Fr F w w' ∧ ∃ F', CRep w' bc c now l F' ∧ ∀ b, F' b → F b ∨ w.heap.size ≤ b

theorem LPost.same {w w' : World} {bc : Nat} {c : Cf} {now : Int} {l : List One} {F : Nat → Prop} {ok : Bool} (h : CRep w bc c now l F) (hf : Fr Nil w w') : LPost [] ok bc c now l F w (.returned (.tuple #[.slice none 0 0, .bool ok])) w' :=
  ⟨_, rfl, RdBB.nil _ _ _, hf.mono (fun _ _ e => e.elim), F, h.fr hf (fun _ _ e => e), fun b hb => .inl hb⟩

section
variable {w : World} {bc : Nat} {c : Cf} {now : Int} {conf : List Value} {bm : Nat} {ents : List Ent} {F : Nat → Prop}

theorem alloc_pm_fr (w : World) (n k : Int) (m : Mac) : Fr Nil w ((w.alloc (.cells #[.int .i64 n, .int .u32 k] 39)).alloc (.cells #[.int .u8 m.a, .int .u8 m.b, .int .u8 m.c, .int .u8 m.d, .int .u8 m.e, .int .u8 m.f] 23)) := ((Fr.refl _ _).alloc _).alloc _

set_option maxRecDepth 100000 in
set_option maxHeartbeats 1000000 in
theorem learn_not {l : List One} (hs : Sorted l) (h : CAt w bc c now conf bm ents F) (hp : l.Perm (rows ents)) (n k : Int) (m : Mac) (f2 : idx (ents.map ekv) (n, k) = none) :
    Calls Try.prog 9 #[.pointer (some ⟨bc, 0, none⟩), .agg #[.int .i64 n, .int .u32 k], macV m, .bool false] w (LPost [] false bc c now l F w) := by
  have C := get_any (h.fr (alloc_pm_fr w n k m) (fun _ _ e => e)) n k
  rw [look_none f2] at C
  have hbc := h.blk.lt
  have HC := Lib.hid (⟨hs, conf, bm, ents, h, hp⟩ : CRep w bc c now l F)
  have HP0 := Lib.hid (alloc_pm_fr w n k m)
  have R := Lib.hid C
  unfold macV
  clear C h hp hs f2
  go_enter Try.func9, Try.ntmps9
  go_wp2_with (go_at_call 25; refine R.out.mono ?_)
  rintro e w1 ⟨rfl, hf1⟩
  have hf2 := Lib.hid (HP0.out.trans hf1 (fun _ _ e => e))
  clear hf1
  go_wp2_with fail
  go_quiet (fail)
  go_wp2_with fail
  go_ret2
  exact LPost.same HC.out (hf2.out.drewN _)

set_option maxRecDepth 100000 in
set_option maxHeartbeats 1000000 in
theorem learn_full {l : List One} (hs : Sorted l) (h : CAt w bc c now conf bm ents F) (hp : l.Perm (rows ents)) (n k : Int) (m : Mac) (f2 : idx (ents.map ekv) (n, k) = none) (hc : c.cache ≤ ents.length) :
    Calls Try.prog 9 #[.pointer (some ⟨bc, 0, none⟩), .agg #[.int .i64 n, .int .u32 k], macV m, .bool true] w (LPost [] false bc c now l F w) := by
  have C := get_any (h.fr (alloc_pm_fr w n k m) (fun _ _ e => e)) n k
  rw [look_none f2] at C
  have hbc := h.blk.lt
  have c27 := h.c27
  have c41 := h.c41
  have HA := Lib.hid h
  have HC := Lib.hid (⟨hs, conf, bm, ents, h, hp⟩ : CRep w bc c now l F)
  have HP0 := Lib.hid (alloc_pm_fr w n k m)
  have R := Lib.hid C
  unfold macV
  clear C h hp hs f2
  go_enter Try.func9, Try.ntmps9
  go_wp2_with (go_at_call 25; refine R.out.mono ?_)
  rintro e w1 ⟨rfl, hf1⟩
  have hf2 := Lib.hid (HP0.out.trans hf1 (fun _ _ e => e))
  have d27 := hf2.out.cellS c27 (fun e => e)
  have d41 := hf2.out.cellS c41 (fun e => e)
  have hl : ∀ nq ty, (Builtin.len_ #[69] ty #[.map (some bm)]).run Try.prog (w1.drewN nq) = .ok (.int .i64 ents.length) (w1.drewN nq) := fun nq ty => by
    have := (HA.out.fr (hf2.out.drewN nq) (fun _ _ e => e)).map.len Try.underlying69 ty
    simpa [goInt] using this
  clear hf1 c27 c41
  go_wp2_with fail
  go_quiet (fail)
  go_wp2_with fail
  go_ret2
  exact LPost.same HC.out (hf2.out.drewN _)

def knownOne (now n k : Int) (m : Mac) : One := ⟨n, k, true, m, 0, now, []⟩

theorem known_new_perm {l : List One} (hp : l.Perm (rows ents)) {t : Ent} {n k : Int} {m : Mac} (ht : t.x = knownOne now n k m) : (put (newKnown now n k m) l).Perm (rows (ents ++ [t])) := by
  have e : rows (ents ++ [t]) = rows ents ++ [newKnown now n k m] := by
    unfold rows; rw [List.map_append]; simp [ht, knownOne, newKnown]
  rw [e]
  exact (put_perm _ _).trans ((hp.cons _).trans (List.perm_append_comm (l₁ := [newKnown now n k m])))
theorem learn_new_close {l : List One} {w3 : World} {t : Ent} {n k : Int} {m : Mac} {F1 : Nat → Prop} (hs : Sorted l) (hp : l.Perm (rows ents)) (f2 : idx (ents.map ekv) (n, k) = none) (ht : t.x = knownOne now n k m)
    (hA : CAt w3 bc c now conf bm (ents ++ [t]) F1) (hF : Fr F w w3) (hN : ∀ b, F1 b → F b ∨ w.heap.size ≤ b) :
    LPost [] true bc c now (put (newKnown now n k m) l) F w (.returned (.tuple #[.slice none 0 0, .bool true])) w3 :=
  ⟨_, rfl, RdBB.nil _ _ _, hF, F1, ⟨put_sorted hs (no_key hs hp f2), conf, bm, _, hA, known_new_perm hp ht⟩, hN⟩

set_option maxRecDepth 100000 in
set_option maxHeartbeats 3000000 in
theorem learn_new {l : List One} (hs : Sorted l) (h : CAt w bc c now conf bm ents F) (hp : l.Perm (rows ents)) (n k : Int) (m : Mac) (f2 : idx (ents.map ekv) (n, k) = none) (hc : ¬ c.cache ≤ ents.length)
    (hn0 : 0 ≤ now) (hn1 : now ≤ 4000000000) (htot : total (rows ents) ≤ 1000000) :
    Calls Try.prog 9 #[.pointer (some ⟨bc, 0, none⟩), .agg #[.int .i64 n, .int .u32 k], macV m, .bool true] w (LPost [] true bc c now (put (newKnown now n k m) l) F w) := by
  have C := get_any (h.fr (alloc_pm_fr w n k m) (fun _ _ e => e)) n k
  rw [look_none f2] at C
  have hbc := h.blk.lt
  have c27 := h.c27
  have c29 := h.c29
  have c40 := h.c40
  have c41 := h.c41
  have c42 := h.c42
  have HA := Lib.hid h
  have HC := Lib.hid (⟨hs, conf, bm, ents, h, hp⟩ : CRep w bc c now l F)
  have HP0 := Lib.hid (alloc_pm_fr w n k m)
  have R := Lib.hid C
  have HS := Lib.hid hs
  have HP := Lib.hid hp
  have HF2 := Lib.hid f2
  have hc' : decide (c.cache ≤ (ents.length : Int)) = false := by simpa using hc
  unfold macV
  clear C h hp hs f2 hc
  go_enter Try.func9, Try.ntmps9
  go_wp2_with (go_at_call 25; refine R.out.mono ?_)
  rintro e w1 ⟨rfl, hf1⟩
  have hf2 := Lib.hid (HP0.out.trans hf1 (fun _ _ e => e))
  have d27 := hf2.out.cellS c27 (fun e => e)
  have d29 := hf2.out.cellS c29 (fun e => e)
  have d40 := hf2.out.cellS c40 (fun e => e)
  have d41 := hf2.out.cellS c41 (fun e => e)
  have d42 := hf2.out.cellS c42 (fun e => e)
  have q42 : w1.frozen? ⟨bc, 42, none⟩ = false := (HA.out.fr hf2.out (fun _ _ e => e)).blk.frozen 42
  have hl : ∀ nq ty, (Builtin.len_ #[69] ty #[.map (some bm)]).run Try.prog (w1.drewN nq) = .ok (.int .i64 ents.length) (w1.drewN nq) := fun nq ty => by
    have := (HA.out.fr (hf2.out.drewN nq) (fun _ _ e => e)).map.len Try.underlying69 ty
    simpa [goInt] using this
  have B5 := Lib.hid (Blk.fr ((Blk.new w 39 [.int .i64 n, .int .u32 k]).alloc (.cells #[.int .u8 m.a, .int .u8 m.b, .int .u8 m.c, .int .u8 m.d, .int .u8 m.e, .int .u8 m.f] 23)) hf1 (fun e => e))
  have B6 := Lib.hid (Blk.fr (Blk.new (w.alloc (.cells #[.int .i64 n, .int .u32 k] 39)) 23 [.int .u8 m.a, .int .u8 m.b, .int .u8 m.c, .int .u8 m.d, .int .u8 m.e, .int .u8 m.f]) hf1 (fun e => e))
  clear hf1 c27 c29 c40 c41 c42
  go_wp2_with fail
  go_quiet (fail)
  clear hl
  go_wp2_with fail
  have hFW := hf2.out.drewN nq
  have B5' : Blk (w1.drewN nq) w.heap.size 39 [.int .i64 n, .int .u32 k] := B5.out
  have B6' : Blk (w1.drewN nq) (w.heap.size + 1) 23 [.int .u8 m.a, .int .u8 m.b, .int .u8 m.c, .int .u8 m.d, .int .u8 m.e, .int .u8 m.f] := by have := B6.out; simp only [World.size_alloc] at this; exact this
  clear d27 d29 d40 d41 d42 q42 hf2 B5 B6
  generalize w1.drewN nq = W at *
  have hAW := HA.out.fr hFW (fun _ _ e => e)
  have e29 := hAW.c29
  have e40 := hAW.c40
  have e41 := hAW.c41
  have x0 := B5'.cellS (i := 0) rfl; have x1 := B5'.cellS (i := 1) rfl
  have y0 := B6'.cellS (i := 0) rfl; have y1 := B6'.cellS (i := 1) rfl; have y2 := B6'.cellS (i := 2) rfl; have y3 := B6'.cellS (i := 3) rfl; have y4 := B6'.cellS (i := 4) rfl; have y5 := B6'.cellS (i := 5) rfl
  have hbW := hAW.blk.lt
  have h5W := B5'.lt
  have h6W := B6'.lt
  have hB := Blk.new W TP (placeCells (knownOne now n k m) (dueOf c (knownOne now n k m)) (.slice none 0 0))
  have hmapW := hAW.map
  clear hAW B5' B6'
  obtain ⟨es', ck', hrun, hmap⟩ := MapIs.upd (E := 72) (hmapW.kept (w' := (W.alloc (.cells (placeCells (knownOne now n k m) (dueOf c (knownOne now n k m)) (.slice none 0 0)).toArray TP)).drew) (Below.heap_alloc _ _ _ hmapW.lt)) Try.underlying69 (n, k) (.pointer (some ⟨W.heap.size, 0, none⟩))
  obtain ⟨t, htb, htx, htu⟩ : ∃ t : Ent, t.bp = W.heap.size ∧ t.x = knownOne now n k m ∧ t.u = .slice none 0 0 := ⟨⟨_, W.heap.size, _⟩, rfl, rfl, rfl⟩
  rw [← htx, ← htu, ← htb] at hB hmap
  obtain ⟨F1, hA3, hF3, hN3⟩ := new_place (t := t) HA.out (by rw [htx]; rfl) htu (by rw [htx]; rfl) HF2.out ((hFW.alloc _).drew) (by rw [htb]; exact hFW.size) hB hmap
  rw [htx, htu] at hA3 hF3
  obtain ⟨es, ck, hes⟩ := hmapW.map
  have hsb : ∀ a, (setBlock (W.alloc (.cells (placeCells (knownOne now n k m) (dueOf c (knownOne now n k m)) (.slice none 0 0)).toArray TP)).drew bm (.map es' ck')).cell? a = (W.alloc (.cells (placeCells (knownOne now n k m) (dueOf c (knownOne now n k m)) (.slice none 0 0)).toArray TP)).drew.cell? a :=
    cell_setMap (w := (W.alloc _).drew) ((Below.heap_alloc _ _ _ hmapW.lt).trans hes) es' ck'
  have HA3 := Lib.hid hA3
  have HF3 := Lib.hid hF3
  have HN3 := Lib.hid hN3
  have HTX := Lib.hid htx
  have HFW := Lib.hid hFW
  clear hA3 hF3 hN3 hmap hB hFW hmapW htb htx htu hes
  unfold kv at hrun
  change (Instr.mapUpdate 69 (.map (some bm)) (.agg #[.int .i64 n, .int .u32 k]) (.pointer (some ⟨W.heap.size, 0, none⟩))).run Try.prog
    (W.alloc (.cells #[.bool true, .int .u8 m.a, .int .u8 m.b, .int .u8 m.c, .int .u8 m.d, .int .u8 m.e, .int .u8 m.f, .int .i64 0, .int .i64 (now + clamp c.age 1 4095), .slice none 0 0] 75)).drew = _ at hrun
  go_region_held3 (fun w' => w'.cell? ⟨bc, 41, none⟩ = some (.map (some bm)) ∧ w'.cell? ⟨w.heap.size, 0, none⟩ = some (.int .i64 n) ∧ w'.cell? ⟨w.heap.size, 1, none⟩ = some (.int .u32 k) ∧ w'.cell? ⟨bc, 29, none⟩ = some (.int .i64 c.age) ∧
      w'.cell? ⟨w.heap.size + 1, 0, none⟩ = some (.int .u8 m.a) ∧ w'.cell? ⟨w.heap.size + 1, 1, none⟩ = some (.int .u8 m.b) ∧ w'.cell? ⟨w.heap.size + 1, 2, none⟩ = some (.int .u8 m.c) ∧ w'.cell? ⟨w.heap.size + 1, 3, none⟩ = some (.int .u8 m.d) ∧
      w'.cell? ⟨w.heap.size + 1, 4, none⟩ = some (.int .u8 m.e) ∧ w'.cell? ⟨w.heap.size + 1, 5, none⟩ = some (.int .u8 m.f)) (go_keep)
    (first
      | (go_at_call 26; refine (due_any _ bc now c.age (by exact e40) hn0 hn1).mono ?_; rintro e w' ⟨rfl, rfl⟩))
  go_wp2
  go_ret2
  exact learn_new_close HS.out HP.out HF2.out HTX.out HA3.out HF3.out HN3.out
end

end Go.Proofs.Ytaokmbmimogdgaa
