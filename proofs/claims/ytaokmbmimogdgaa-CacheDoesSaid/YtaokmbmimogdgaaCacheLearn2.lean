/- Contract of Learn: of a place that was there. -/
import Derived.Test.YtaokmbmimogdgaaCacheLearn
namespace Go.Proofs.Ytaokmbmimogdgaa
open Go.RowKit Go.ChangeMaps
attribute [local go_sem ↓] Go.wp_at_zero Go.wp_at_succ

section
variable {w : World} {bc : Nat} {c : Cf} {now : Int} {conf : List Value} {bm : Nat} {ents : List Ent} {F : Nat → Prop}

theorem upd_at {n k : Int} {j : Nat} (f2 : idx (ents.map ekv) (n, k) = some j) (t' : Ent) (ht : key t'.x = (n, k)) : upd (ents.map ekv) (n, k) (.pointer (some ⟨t'.bp, 0, none⟩)) = (ents.set j t').map ekv := by
  unfold upd; rw [f2, List.map_set]; simp [ekv, ht]
theorem known_place (h : CAt w bc c now conf bm ents F) {n k : Int} {j : Nat} {t t' : Ent} (hj : ents[j]? = some t) (ht : key t'.x = (n, k)) (hu : t'.u = .slice none 0 0) (hw0 : t'.x.waits = []) (f2 : idx (ents.map ekv) (n, k) = some j)
    {W0 W : World} (hF : Fr Nil w W0) (hFW : Fr Nil (W0.setCell ⟨bc, 42, none⟩ (.int .i64 ((total (rows ents) : Int) - t.x.waits.length))) W) (hbp : w.heap.size ≤ t'.bp)
    (hblk : Blk W t'.bp TP (placeCells t'.x (dueOf c t'.x) t'.u)) {es' : Array MapEntry} {ck' : Nat}
    (hm : MapIs (setBlock W bm (.map es' ck')) bm (upd (ents.map ekv) (n, k) (.pointer (some ⟨t'.bp, 0, none⟩)))) :
    ∃ F', CAt (setBlock W bm (.map es' ck')) bc c now conf bm (ents.set j t') F' ∧ Fr F w (setBlock W bm (.map es' ck')) ∧ (∀ b, F' b → F b ∨ w.heap.size ≤ b) ∧ RdBB F Nil (setBlock W bm (.map es' ck')) t.u t.x.waits := by
  have hA := h.fr hF (fun _ _ e => e)
  have tm := List.mem_of_getElem? hj
  have f0 : Fr (fun b => b = bc ∨ b = bm) w (W0.setCell ⟨bc, 42, none⟩ (.int .i64 ((total (rows ents) : Int) - t.x.waits.length))) :=
    (hF.mono (fun _ _ e => e.elim)).setCell (p := ⟨bc, 42, none⟩) (fun _ => ⟨.inl rfl, fun h8 => by have := h8.uniq h.blk.tag; revert this; decide⟩) _
  have f1 : Fr (fun b => b = bc ∨ b = bm) w W := f0.trans hFW (fun _ _ e => e.elim)
  have hmap0 : (W0.setCell ⟨bc, 42, none⟩ (.int .i64 ((total (rows ents) : Int) - t.x.waits.length))).heap[bm]? = W0.heap[bm]? := Below.heap_setCell _ _ _ _ (fun e => h.bcbm e.symm)
  have hmapW : MapIs W bm (ents.map ekv) := (hA.map.kept hmap0).kept (hFW.block _ (by simp only [World.size_setCell]; exact hA.map.lt) (fun e => e))
  obtain ⟨es, ck, hes⟩ := hmapW.map
  have f2' : Fr (fun b => b = bc ∨ b = bm) w (setBlock W bm (.map es' ck')) := f1.setMap hes (fun _ => ⟨.inr rfl, h.map.noTag _⟩) _
  have hown : ∀ b, t'.u.ownBlock = some b → False := fun b hb => by rw [hu] at hb; simp [Value.ownBlock] at hb
  rw [upd_at f2 t' ht] at hm
  have hlen := h.cok.len
  have htot : (total (rows (ents.set j t')) : Int) = (total (rows ents) : Int) - t.x.waits.length := by
    have := total_set (y := t'.x) (rows_get hj)
    rw [rows_set, hw0] at *
    simp only [List.length_nil] at this
    omega
  have hb3 : Blk (setBlock W bm (.map es' ck')) bc TC (conf ++ [.int .i64 now, .map (some bm), .int .i64 (total (rows (ents.set j t')))]) := by
    have := ((hA.blk.set 42 (.int .i64 ((total (rows ents) : Int) - t.x.waits.length))).fr hFW (fun e => e)).setMap hes (.map es' ck')
    rw [List.set_append_right _ _ (by omega), hlen] at this
    rw [htot]
    exact this
  have hF' : Fr F w (setBlock W bm (.map es' ck')) := f2'.mono (fun b _ hb => by
    rcases hb with rfl | rfl
    · exact h.fc
    · exact h.fm)
  refine ⟨_, h.change (t' := t') hj f2' (fun b _ e => e.elim .inl (fun e => .inr (.inl e))) hb3 hm ⟨hblk.setMap hes _, ?_⟩ (.inr hbp) (fun b hb => (hown b hb).elim), hF', ?_, ?_⟩
  · rw [hu, hw0]; exact WaitsAt.nil _
  · intro b hb
    rcases hb with hb | rfl | hb
    · exact .inl hb
    · exact .inr hbp
    · exact (hown b hb).elim
  · have ew := (h.eat t tm).2
    have := ew.fr f2' (fun b hb hs => by
      rcases hs with rfl | rfl
      · have := (ew.tag _ hb).uniq h.blk.tag; revert this; decide
      · exact h.map.noTag _ (ew.tag _ hb))
    exact this.rd (h.fe t tm).2
theorem learn_known_close {l : List One} {w3 : World} {i j : Nat} {t t' : Ent} {n k : Int} {m : Mac} {F1 : Nat → Prop} (hs : Sorted l) (hp : l.Perm (rows ents)) (hi : l[i]? = some t.x) (hj : ents[j]? = some t) (hk : key t.x = (n, k)) (ht : t'.x = knownOne now n k m)
    (hA : CAt w3 bc c now conf bm (ents.set j t') F1) (hF : Fr F w w3) (hN : ∀ b, F1 b → F b ∨ w.heap.size ≤ b) (hr : RdBB F Nil w3 t.u t.x.waits) :
    LPost t.x.waits true bc c now (put (newKnown now n k m) (l.eraseIdx i)) F w (.returned (.tuple #[t.u, .bool true])) w3 := by
  refine ⟨_, rfl, hr, hF, F1, ⟨put_sorted (sorted_erase hs i) ?_, conf, bm, _, hA, ?_⟩, hN⟩
  · intro y hy e
    have h1 := (erase_perm hi).map key
    have h2 := hs.keys
    rw [h1.nodup_iff, List.map_cons, List.nodup_cons] at h2
    refine h2.1 (List.mem_map.2 ⟨y, hy, ?_⟩)
    rw [e, hk]; rfl
  · rw [rows_set]
    have hp1 := (set_perm t'.x (List.getElem?_eq_some_iff.1 (rows_get hj)).1).symm
    refine (put_perm _ _).trans (List.Perm.trans ?_ hp1)
    have he : newKnown now n k m = t'.x := by rw [ht]; rfl
    rw [he]
    exact (perm_erase hp hi (rows_get hj)).cons _

set_option maxRecDepth 100000 in
set_option maxHeartbeats 3000000 in
theorem learn_known {l : List One} (hs : Sorted l) (h : CAt w bc c now conf bm ents F) (hp : l.Perm (rows ents)) (n k : Int) (m : Mac) (add : Bool) {i j : Nat} {t : Ent} (f1 : l[i]? = some t.x) (f2 : idx (ents.map ekv) (n, k) = some j) (f3 : ents[j]? = some t) (f4 : key t.x = (n, k))
    (hn0 : 0 ≤ now) (hn1 : now ≤ 4000000000) (htot : total (rows ents) ≤ 1000000) :
    Calls Try.prog 9 #[.pointer (some ⟨bc, 0, none⟩), .agg #[.int .i64 n, .int .u32 k], macV m, .bool add] w (LPost t.x.waits true bc c now (put (newKnown now n k m) (l.eraseIdx i)) F w) := by
  have E0 := h.eat t (List.mem_of_getElem? f3)
  obtain ⟨ua, uc, hu⟩ : ∃ a c, t.u = .slice a t.x.waits.length c := by obtain ⟨vs, _, ⟨a, cc, e, _⟩, _⟩ := E0.2.rd (G := fun _ => True) (fun _ _ => trivial); exact ⟨a, cc, e⟩
  have p9 := E0.p9
  rw [hu] at p9
  have hbp := E0.1.lt
  have hwl : (t.x.waits.length : Int) ≤ total (rows ents) := by have := total_erase (rows_get f3); omega
  have C := get_any (h.fr (alloc_pm_fr w n k m) (fun _ _ e => e)) n k
  rw [look_some f2 f3] at C
  have hbc := h.blk.lt
  have c29 := h.c29
  have c40 := h.c40
  have c41 := h.c41
  have c42 := h.c42
  have HA := Lib.hid h
  have HC := Lib.hid (⟨hs, conf, bm, ents, h, hp⟩ : CRep w bc c now l F)
  have HP0 := Lib.hid (alloc_pm_fr w n k m)
  have R := Lib.hid C
  have HS := Lib.hid hs
  have HP := Lib.hid hp
  have HF2 := Lib.hid f2
  have HU := Lib.hid hu
  have F1 := Lib.hid f1
  have F3 := Lib.hid f3
  have F4 := Lib.hid f4
  unfold macV
  clear C h hp hs f2 hu f1 f3 f4 E0
  go_enter Try.func9, Try.ntmps9
  go_wp2_with (go_at_call 25; refine R.out.mono ?_)
  rintro e w1 ⟨rfl, hf1⟩
  have hf2 := Lib.hid (HP0.out.trans hf1 (fun _ _ e => e))
  have d29 := hf2.out.cellS c29 (fun e => e)
  have d40 := hf2.out.cellS c40 (fun e => e)
  have d41 := hf2.out.cellS c41 (fun e => e)
  have d42 := hf2.out.cellS c42 (fun e => e)
  have q42 : w1.frozen? ⟨bc, 42, none⟩ = false := (HA.out.fr hf2.out (fun _ _ e => e)).blk.frozen 42
  have d9 := hf2.out.cellS p9 (fun e => e)
  have B5 := Lib.hid (Blk.fr ((Blk.new w 39 [.int .i64 n, .int .u32 k]).alloc (.cells #[.int .u8 m.a, .int .u8 m.b, .int .u8 m.c, .int .u8 m.d, .int .u8 m.e, .int .u8 m.f] 23)) hf1 (fun e => e))
  have B6 := Lib.hid (Blk.fr (Blk.new (w.alloc (.cells #[.int .i64 n, .int .u32 k] 39)) 23 [.int .u8 m.a, .int .u8 m.b, .int .u8 m.c, .int .u8 m.d, .int .u8 m.e, .int .u8 m.f]) hf1 (fun e => e))
  clear hf1 p9 c29 c40 c41 c42
  go_wp2_with fail
  go_quiet (fail)
  go_wp2_with fail
  have hF0 := hf2.out.drewN nq
  have B5' : Blk (w1.drewN nq) w.heap.size 39 [.int .i64 n, .int .u32 k] := B5.out
  have B6' : Blk (w1.drewN nq) (w.heap.size + 1) 23 [.int .u8 m.a, .int .u8 m.b, .int .u8 m.c, .int .u8 m.d, .int .u8 m.e, .int .u8 m.f] := by have := B6.out; simp only [World.size_alloc] at this; exact this
  clear d9 d29 d40 d41 d42 q42 hf2 B5 B6
  generalize w1.drewN nq = W0 at *
  have hA0 := HA.out.fr hF0 (fun _ _ e => e)
  have hne5 : w.heap.size ≠ bc := by omega
  have hne6 : w.heap.size + 1 ≠ bc := by omega
  have C5 := B5'.far (p := ⟨bc, 42, none⟩) hne5 (.int .i64 ((total (rows ents) : Int) - t.x.waits.length))
  have C6 := B6'.far (p := ⟨bc, 42, none⟩) hne6 (.int .i64 ((total (rows ents) : Int) - t.x.waits.length))
  have e29 : (W0.setCell ⟨bc, 42, none⟩ (.int .i64 ((total (rows ents) : Int) - t.x.waits.length))).cell? ⟨bc, 29, none⟩ = some (.int .i64 c.age) := by rw [World.cell?_setCell_other _ _ _ _ (by simp)]; exact hA0.c29
  have e40 : (W0.setCell ⟨bc, 42, none⟩ (.int .i64 ((total (rows ents) : Int) - t.x.waits.length))).cell? ⟨bc, 40, none⟩ = some (.int .i64 now) := by rw [World.cell?_setCell_other _ _ _ _ (by simp)]; exact hA0.c40
  have e41 : (W0.setCell ⟨bc, 42, none⟩ (.int .i64 ((total (rows ents) : Int) - t.x.waits.length))).cell? ⟨bc, 41, none⟩ = some (.map (some bm)) := by rw [World.cell?_setCell_other _ _ _ _ (by simp)]; exact hA0.c41
  have hmapW : MapIs (W0.setCell ⟨bc, 42, none⟩ (.int .i64 ((total (rows ents) : Int) - t.x.waits.length))) bm (ents.map ekv) := hA0.map.kept (Below.heap_setCell _ _ _ _ (fun e => hA0.bcbm e.symm))
  have hbW : bc < (W0.setCell ⟨bc, 42, none⟩ (.int .i64 ((total (rows ents) : Int) - t.x.waits.length))).heap.size := by simp only [World.size_setCell]; exact hA0.blk.lt
  have hszW : w.heap.size ≤ (W0.setCell ⟨bc, 42, none⟩ (.int .i64 ((total (rows ents) : Int) - t.x.waits.length))).heap.size := by simp only [World.size_setCell]; exact hF0.size
  have HK0 := Lib.hid (fun (t' : Ent) (htx : key t'.x = (n, k)) (htu : t'.u = .slice none 0 0) (htw : t'.x.waits = []) (W : World) (hFW : Fr Nil (W0.setCell ⟨bc, 42, none⟩ (.int .i64 ((total (rows ents) : Int) - t.x.waits.length))) W) (hbp : w.heap.size ≤ t'.bp) hblk (es' : Array MapEntry) (ck' : Nat) hm =>
    known_place (t' := t') (es' := es') (ck' := ck') HA.out F3.out htx htu htw HF2.out hF0 hFW hbp hblk hm)
  clear hA0 B5' B6' hF0
  generalize W0.setCell ⟨bc, 42, none⟩ (.int .i64 ((total (rows ents) : Int) - t.x.waits.length)) = W at *
  have x0 := C5.cellS (i := 0) rfl; have x1 := C5.cellS (i := 1) rfl
  have y0 := C6.cellS (i := 0) rfl; have y1 := C6.cellS (i := 1) rfl; have y2 := C6.cellS (i := 2) rfl; have y3 := C6.cellS (i := 3) rfl; have y4 := C6.cellS (i := 4) rfl; have y5 := C6.cellS (i := 5) rfl
  have h5W := C5.lt
  have h6W := C6.lt
  have hB := Blk.new W TP (placeCells (knownOne now n k m) (dueOf c (knownOne now n k m)) (.slice none 0 0))
  clear C5 C6
  obtain ⟨es', ck', hrun, hmap⟩ := MapIs.upd (E := 72) (hmapW.kept (w' := (W.alloc (.cells (placeCells (knownOne now n k m) (dueOf c (knownOne now n k m)) (.slice none 0 0)).toArray TP)).drew) (Below.heap_alloc _ _ _ hmapW.lt)) Try.underlying69 (n, k) (.pointer (some ⟨W.heap.size, 0, none⟩))
  obtain ⟨t', htb, htx, htu⟩ : ∃ t : Ent, t.bp = W.heap.size ∧ t.x = knownOne now n k m ∧ t.u = .slice none 0 0 := ⟨⟨_, W.heap.size, _⟩, rfl, rfl, rfl⟩
  rw [← htx, ← htu, ← htb] at hB hmap
  obtain ⟨F1', hA3, hF3, hN3, hR3⟩ := HK0.out t' (by rw [htx]; rfl) htu (by rw [htx]; rfl) _ (((Fr.refl Nil W).alloc _).drew) (by rw [htb]; exact hszW) hB es' ck' hmap
  rw [htx, htu] at hA3 hF3 hR3
  obtain ⟨es, ck, hes⟩ := hmapW.map
  have hsb : ∀ a, (setBlock (W.alloc (.cells (placeCells (knownOne now n k m) (dueOf c (knownOne now n k m)) (.slice none 0 0)).toArray TP)).drew bm (.map es' ck')).cell? a = (W.alloc (.cells (placeCells (knownOne now n k m) (dueOf c (knownOne now n k m)) (.slice none 0 0)).toArray TP)).drew.cell? a :=
    cell_setMap (w := (W.alloc _).drew) ((Below.heap_alloc _ _ _ hmapW.lt).trans hes) es' ck'
  have HA3 := Lib.hid hA3
  have HF3 := Lib.hid hF3
  have HN3 := Lib.hid hN3
  have HR3 := Lib.hid hR3
  have HTX := Lib.hid htx
  clear hA3 hF3 hN3 hR3 hmap hB hmapW htb htx htu hes HK0
  unfold kv at hrun
  change (Instr.mapUpdate 69 (.map (some bm)) (.agg #[.int .i64 n, .int .u32 k]) (.pointer (some ⟨W.heap.size, 0, none⟩))).run Try.prog
    (W.alloc (.cells #[.bool true, .int .u8 m.a, .int .u8 m.b, .int .u8 m.c, .int .u8 m.d, .int .u8 m.e, .int .u8 m.f, .int .i64 0, .int .i64 (now + clamp c.age 1 4095), .slice none 0 0] 75)).drew = _ at hrun
  go_region_held3 (fun w' => w'.cell? ⟨bc, 41, none⟩ = some (.map (some bm)) ∧ w'.cell? ⟨w.heap.size, 0, none⟩ = some (.int .i64 n) ∧ w'.cell? ⟨w.heap.size, 1, none⟩ = some (.int .u32 k) ∧ w'.cell? ⟨bc, 29, none⟩ = some (.int .i64 c.age) ∧
      w'.cell? ⟨w.heap.size + 1, 0, none⟩ = some (.int .u8 m.a) ∧ w'.cell? ⟨w.heap.size + 1, 1, none⟩ = some (.int .u8 m.b) ∧ w'.cell? ⟨w.heap.size + 1, 2, none⟩ = some (.int .u8 m.c) ∧ w'.cell? ⟨w.heap.size + 1, 3, none⟩ = some (.int .u8 m.d) ∧
      w'.cell? ⟨w.heap.size + 1, 4, none⟩ = some (.int .u8 m.e) ∧ w'.cell? ⟨w.heap.size + 1, 5, none⟩ = some (.int .u8 m.f)) (go_keep)
    (first
      | (go_at_call 26; refine (due_any _ bc now c.age (by exact e40) hn0 hn1).mono ?_; rintro e w' ⟨rfl, rfl⟩))
  go_wp2
  go_ret2
  rw [← HU.out]
  exact learn_known_close HS.out HP.out F1.out F3.out F4.out HTX.out HA3.out HF3.out HN3.out HR3.out
end

end Go.Proofs.Ytaokmbmimogdgaa
