/- Contract of Want: a place that is asked for now. -/
import Derived.Test.YtaokmbmimogdgaaCacheWant2
namespace Go.Proofs.Ytaokmbmimogdgaa
open Go.RowKit Go.ChangeMaps
attribute [local go_sem ↓] Go.wp_at_zero Go.wp_at_succ

section
variable {w : World} {bc : Nat} {c : Cf} {now : Int} {conf : List Value} {bm : Nat} {ents : List Ent} {F : Nat → Prop}

theorem want_close2 {l2 : List One} {ents2 : List Ent} {F1 : Nat → Prop} {w2 W w4 : World} {j : Nat} {t : Ent} {b : List Int} {vs : List Value} {v' v2 : Value} (hs : Sorted l2) (f3 : ents2[j]? = some t) (hp : l2.Perm ((rows ents2).set j (addWait b t.x)))
    (hA : CAt w2 bc c now conf bm ents2 F1) (hF : Fr F w w2) (hN : ∀ b, F1 b → F b ∨ w.heap.size ≤ b) (hW : Fr Nil w2 W) (hvl : vs.length = t.x.waits.length)
    (hvs : ∀ (i : Nat) (v : Value) (l : List Int), vs[i]? = some v → t.x.waits[i]? = some l → RdB Nil w2 v l) (hb : RdB Nil W v' b)
    (hown : w4.ownsRow 0 TBs 1 v2 (t.x.waits.length + 1) (vs ++ [v'])) (hg : Gw W w4 t.u.ownBlock) (hat : v2.ownBlock = t.u.ownBlock ∨ v2.ownBlock = some W.heap.size) (v : Value) :
    CPost v bc c now l2 F w (.returned v) ((w4.setCell ⟨t.bp, 9, none⟩ v2).setCell ⟨bc, 42, none⟩ (.int .i64 ((total (rows ents2) : Int) + 1))) := by
  have hA2 := hA.fr hW (fun _ _ e => e)
  obtain ⟨F', h1, h2, h3⟩ := hA2.waitMore f3 hvl (fun i v l a b => (hvs i v l a b).fr0 hW) hb hown hg hat
  have hFW : Fr F w W := hF.trans hW (fun _ _ e => e.elim)
  refine ⟨rfl, hFW.trans h2 (fun k hk e => (hN k e).resolve_right (by omega)), F', ⟨hs, conf, bm, _, h1, ?_⟩, fun b hb => ?_⟩
  · rw [rows_set]; exact hp
  · rcases h3 b hb with e | e
    · exact hN b e
    · have := hFW.size; right; omega

def askOne (now n k : Int) : One := ⟨n, k, false, Mac.zero, 1, now, []⟩
theorem upd_new {n k : Int} (f2 : idx (ents.map ekv) (n, k) = none) (t : Ent) (ht : key t.x = (n, k)) : upd (ents.map ekv) (n, k) (.pointer (some ⟨t.bp, 0, none⟩)) = (ents ++ [t]).map ekv := by
  unfold upd; rw [f2]; simp [ekv, ht]
theorem new_place (h : CAt w bc c now conf bm ents F) {n k : Int} {t : Ent} (ht : key t.x = (n, k)) (hu : t.u = .slice none 0 0) (hw0 : t.x.waits = []) (f2 : idx (ents.map ekv) (n, k) = none) {W : World} (hF : Fr Nil w W) (hbp : w.heap.size ≤ t.bp)
    (hblk : Blk W t.bp TP (placeCells t.x (dueOf c t.x) t.u)) {es' : Array MapEntry} {ck' : Nat}
    (hm : MapIs (setBlock W bm (.map es' ck')) bm (upd (ents.map ekv) (n, k) (.pointer (some ⟨t.bp, 0, none⟩)))) :
    ∃ F', CAt (setBlock W bm (.map es' ck')) bc c now conf bm (ents ++ [t]) F' ∧ Fr F w (setBlock W bm (.map es' ck')) ∧ ∀ b, F' b → F b ∨ w.heap.size ≤ b := by
  have hA := h.fr hF (fun _ _ e => e)
  obtain ⟨es, ck, hes⟩ := hA.map.map
  have hne : t.bp ≠ bm := fun e => hA.map.noTag TP (by rw [← e]; exact hblk.tag)
  have f1 : Fr (fun b => b = bc ∨ b = bm) w (setBlock W bm (.map es' ck')) :=
    (hF.mono (fun _ _ e => e.elim)).setMap hes (fun _ => ⟨.inr rfl, h.map.noTag _⟩) _
  have hown : ∀ b, t.u.ownBlock = some b → False := fun b hb => by rw [hu] at hb; simp [Value.ownBlock] at hb
  rw [upd_new f2 t ht] at hm
  refine ⟨_, h.more (t := t) f1 (fun _ _ e => e) ?_ hm ⟨?_, ?_⟩ hbp (fun b hb => (hown b hb).elim), f1.mono ?_, ?_⟩
  · have := hA.blk.setMap hes (.map es' ck')
    have e : total (rows (ents ++ [t])) = total (rows ents) := by
      unfold rows; rw [List.map_append, total_append]; simp [total, hw0]
    rw [e]; exact this
  · exact hblk.setMap hes _
  · rw [hu, hw0]; exact WaitsAt.nil _
  · intro b _ hb
    rcases hb with rfl | rfl
    · exact h.fc
    · exact h.fm
  · intro b hb
    rcases hb with hb | rfl | hb
    · exact .inl hb
    · exact .inr hbp
    · exact (hown b hb).elim

theorem put_new_perm {l : List One} (hp : l.Perm (rows ents)) {t : Ent} {n k : Int} {b : List Int} (ht : t.x = askOne now n k) : (put (newAsk now n k b) l).Perm ((rows (ents ++ [t])).set ents.length (addWait b t.x)) := by
  have e : (rows (ents ++ [t])).set ents.length (addWait b t.x) = rows ents ++ [newAsk now n k b] := by
    unfold rows
    rw [List.map_append, List.set_append_right _ _ (by simp), ht]
    simp [addWait, askOne, newAsk]
  rw [e]
  exact (put_perm _ _).trans ((hp.cons _).trans (List.perm_append_comm (l₁ := [newAsk now n k b])))
theorem no_key {l : List One} (hs : Sorted l) (hp : l.Perm (rows ents)) {n k : Int} (f2 : idx (ents.map ekv) (n, k) = none) : ∀ y ∈ l, key y ≠ (n, k) := by
  rcases idx_find hs hp n k with ⟨f1, _⟩ | ⟨i, j, t, _, f, _⟩
  · exact find_none f1
  · rw [f2] at f; cases f

set_option maxRecDepth 100000 in
set_option maxHeartbeats 3000000 in
theorem want_new {l : List One} (hs : Sorted l) (h : CAt w bc c now conf bm ents F) (hp : l.Perm (rows ents)) (n k : Int) (u : Value) {G : Nat → Prop} {b : List Int} (hb : RdB G w u b) (hG : ∀ b, b < w.heap.size → G b → ¬ F b) (hbl : b.length ≤ 1000000) (htot : total (rows ents) ≤ 1000000)
    (hn0 : 0 ≤ now) (hn1 : now ≤ 4000000000)
    (f2 : idx (ents.map ekv) (n, k) = none) (hq : ¬ c.queue ≤ total (rows ents)) (hc : ¬ c.cache ≤ ents.length) :
    Calls Try.prog 8 #[.pointer (some ⟨bc, 0, none⟩), .agg #[.int .i64 n, .int .u32 k], u] w (CPost (.tuple #[.bool true, .int .i64 0]) bc c now (put (newAsk now n k b) l) F w) := by
  obtain ⟨ua, uc, hu, _⟩ : ∃ a c, u = .slice a b.length c ∧ True := by obtain ⟨a, c, e, _⟩ := hb; exact ⟨a, c, e, trivial⟩
  subst hu
  have C := get_any (h.fr (alloc_place_fr w n k) (fun _ _ e => e)) n k
  rw [look_none f2] at C
  obtain ⟨i0, hi0, hz0, hz1, hz2⟩ := info_parts infoBs
  have hbc := h.blk.lt
  have c27 := h.c27
  have c28 := h.c28
  have c30 := h.c30
  have c40 := h.c40
  have c41 := h.c41
  have c42 := h.c42
  have HA := Lib.hid h
  have HB := Lib.hid hb
  have HG := Lib.hid hG
  have hq' : decide (c.queue ≤ (total (rows ents) : Int)) = false := by simpa using hq
  have hc' : decide (c.cache ≤ (ents.length : Int)) = false := by simpa using hc
  have R := Lib.hid C
  have HF2' := Lib.hid f2
  have HS := Lib.hid hs
  have HP := Lib.hid hp
  clear C h hp hs f2 hb hq hc hG
  go_enter Try.func8, Try.ntmps8
  go_wp2_with (go_at_call 25; refine R.out.mono ?_)
  rintro e w1 ⟨rfl, hf1⟩
  have hf2 := Lib.hid ((alloc_place_fr w n k).trans hf1 (fun _ _ e => e))
  have hz1' : w.heap.size < w1.heap.size := by have := hf1.size; simp at this; omega
  have x0 : w1.cell? ⟨w.heap.size, 0, none⟩ = some (.int .i64 n) := hf1.cellS (by simp [go_sem]) (fun e => e)
  have x1 : w1.cell? ⟨w.heap.size, 1, none⟩ = some (.int .u32 k) := hf1.cellS (by simp [go_sem]) (fun e => e)
  have d27 := hf2.out.cellS c27 (fun e => e)
  have d28 := hf2.out.cellS c28 (fun e => e)
  have d30 := hf2.out.cellS c30 (fun e => e)
  have d40 := hf2.out.cellS c40 (fun e => e)
  have d41 := hf2.out.cellS c41 (fun e => e)
  have d42 := hf2.out.cellS c42 (fun e => e)
  have hl : ∀ nq ty, (Builtin.len_ #[69] ty #[.map (some bm)]).run Try.prog (w1.drewN nq) = .ok (.int .i64 ents.length) (w1.drewN nq) := fun nq ty => by
    have := (HA.out.fr (hf2.out.drewN nq) (fun _ _ e => e)).map.len Try.underlying69 ty
    simpa [goInt] using this
  clear hf1 c27 c28 c30 c40 c41 c42
  go_wp2_with fail
  go_quiet (fail)
  clear hl
  go_wp2_with (go_at_call 26; refine (due_any _ bc now c.retry (by exact d40) hn0 hn1).mono ?_)
  rintro e w' ⟨rfl, rfl⟩
  clear hq' hc' d27 d28 d30
  go_wp2_with fail
  have hB := Blk.new (w1.drewN nq) TP (placeCells (askOne now n k) (dueOf c (askOne now n k)) (.slice none 0 0))
  have hFW : Fr Nil w ((w1.drewN nq).alloc (.cells (placeCells (askOne now n k) (dueOf c (askOne now n k)) (.slice none 0 0)).toArray TP)) := (hf2.out.drewN nq).alloc _
  have y0 : ((w1.drewN nq).alloc (.cells (placeCells (askOne now n k) (dueOf c (askOne now n k)) (.slice none 0 0)).toArray TP)).cell? ⟨w.heap.size, 0, none⟩ = some (.int .i64 n) := by
    rw [World.cell?_alloc_old _ _ _ (by simp; omega)]; exact x0
  have y1 : ((w1.drewN nq).alloc (.cells (placeCells (askOne now n k) (dueOf c (askOne now n k)) (.slice none 0 0)).toArray TP)).cell? ⟨w.heap.size, 1, none⟩ = some (.int .u32 k) := by
    rw [World.cell?_alloc_old _ _ _ (by simp; omega)]; exact x1
  have y41 := hFW.cellS HA.out.c41 (fun e => e)
  clear x0 x1 d40 d41 d42 hf2
  change Code.wp _ _ _ _ ((w1.drewN nq).alloc (.cells (placeCells (askOne now n k) (dueOf c (askOne now n k)) (.slice none 0 0)).toArray TP))
  have hbp : w.heap.size ≤ w1.heap.size := by omega
  have hsz : (w1.drewN nq).heap.size = w1.heap.size := rfl
  rw [hsz] at hB
  clear hsz
  generalize (w1.drewN nq).alloc (.cells (placeCells (askOne now n k) (dueOf c (askOne now n k)) (.slice none 0 0)).toArray TP) = W at *
  generalize w1.heap.size = bp at *
  obtain ⟨t, rfl, htx, htu⟩ : ∃ t : Ent, t.bp = bp ∧ t.x = askOne now n k ∧ t.u = .slice none 0 0 := ⟨⟨_, bp, _⟩, rfl, rfl, rfl⟩
  rw [← htx, ← htu] at hB
  obtain ⟨es', ck', hrun, hmap⟩ := MapIs.upd (E := 72) ((HA.out.fr hFW (fun _ _ e => e)).map.kept (w' := W.drew) rfl) Try.underlying69 (n, k) (.pointer (some ⟨t.bp, 0, none⟩))
  obtain ⟨F1, hA3, hF3, hN3⟩ := new_place (t := t) HA.out (by rw [htx]; rfl) htu (by rw [htx]; rfl) HF2'.out (hFW.drew) hbp hB hmap
  have HA3 := Lib.hid hA3
  have HF3 := Lib.hid hF3
  have HN3 := Lib.hid hN3
  unfold kv at hrun
  clear hA3 hF3 hN3 hmap hB hFW
  go_region
  go_wp2_with fail
  have e9 : (setBlock W.drew bm (.map es' ck')).cell? ⟨t.bp, 9, none⟩ = some t.u := (HA3.out.eat t (by simp)).p9
  have e42 := HA3.out.c42
  have q9 := (HA3.out.eat t (by simp)).1.frozen 9
  have q42' := HA3.out.blk.frozen 42
  have hb3 := (HA3.out.eat t (by simp)).1.lt
  have hb2 := HA3.out.blk.lt
  have hHB3 : RdB G (setBlock W.drew bm (.map es' ck')) (.slice ua b.length uc) b := HB.out.fr HF3.out HG.out
  obtain ⟨vs, hvl, hown2, hvs⟩ := (HA3.out.eat t (by simp)).2
  have hup : t.u.ownBlock ≠ some t.bp := fun e => by have := ((HA3.out.eat t (by simp)).2.tag _ e).uniq (HA3.out.eat t (by simp)).1.tag; revert this; decide
  have huc : t.u.ownBlock ≠ some bc := fun e => by have := ((HA3.out.eat t (by simp)).2.tag _ e).uniq HA3.out.blk.tag; revert this; decide
  clear hrun y0 y1 y41
  generalize setBlock W.drew bm (.map es' ck') = W3 at *
  have Hvl := Lib.hid hvl
  have Hown2 := Lib.hid hown2
  have Hvs := Lib.hid hvs
  have HB3 := Lib.hid hHB3
  have hwl : t.x.waits.length ≤ 1000000 := by rw [htx]; simp [askOne]
  have Htx := Lib.hid htx
  have Htu := Lib.hid htu
  have het : ((total (rows (ents ++ [t])) : Nat) : Int) ≤ 1000000 := by
    have : total (rows (ents ++ [t])) = total (rows ents) := by
      unfold rows; rw [List.map_append, total_append]; simp [total, htx, askOne]
    rw [this]; omega
  clear hvl hown2 hvs hHB3 htx htu
  have d9' := e9
  have d42' := e42
  clear e9 e42
  go_region_law (first
      | (refine step_append_rd _ rfl (.tmp 74) (.tmp 78) _ rfl 0 40 i0 _ 1 24 Try.underlying47 hi0 hz0 hz1 hz2 rfl (by omega) t.u t.x.waits.length vs (by rfl) (Fr.ownsRow (((((Fr.refl Nil W3).alloc _).drew).trans hf3 (fun _ _ e => e)).alloc _) Hown2.out (fun _ _ e => e)) (fun _ => True) _ 1 [.slice va b.length vc] (by rfl) ⟨_, _, rfl, Nat.le_refl _, fun _ => ⟨_, 0, rfl, trivial, (Blk.new w3 TBs [.slice va b.length vc]).lt, fun j v hv => by rw [Nat.zero_add]; exact (Blk.new w3 TBs [.slice va b.length vc]).cellS hv⟩⟩ rfl (fun x hx => (List.mem_singleton.1 hx) ▸ rfl) (by simp only [maxLen]; omega) (by omega) (Nat.zero_le _) ?_; intro v2 w4 hown4 hg4 hat4; obtain ⟨g4, c4, hv4, _, _⟩ := World.ownsRow.form hown4 (by omega); subst hv4; have k94 : w4.cell? ⟨t.bp, 9, none⟩ = some t.u := hg4.cellS (by simp [go_sem, k9, hl3]) hup; have q94 : w4.frozen? ⟨t.bp, 9, none⟩ = false := (by rw [hg4.frozen (by simp; omega) hup]; simp [go_sem, hl3, hz3]); have k42 : w4.cell? ⟨bc, 42, none⟩ = some (.int .i64 (total (rows (ents ++ [t])))) := hg4.cellS (by simp [go_sem, hm3, hl3']) huc; have q42 : w4.frozen? ⟨bc, 42, none⟩ = false := (by rw [hg4.frozen (by simp; omega) huc]; simp [go_sem, hl3', hz3']))
      | (go_simp; go_at_call 27; refine (join_one G _ _ (.slice ua b.length uc) b (by exact Blk.new W3 TBs [.slice ua b.length uc]) (by exact HB3.out.frN (((Fr.refl Nil W3).alloc _).drew)) (by omega)).mono ?_; rintro e w3 ⟨v0, rfl, hv', hf3⟩; obtain ⟨va, vc, hv, _⟩ : ∃ a c, v0 = .slice a b.length c ∧ True := (by obtain ⟨a, c, e, _⟩ := hv'; exact ⟨a, c, e, trivial⟩); subst hv; have k9 : w3.cell? ⟨t.bp, 9, none⟩ = some t.u := hf3.cellS (by simp [go_sem, d9', hb3]) (fun e => e); have hm3 : w3.cell? ⟨bc, 42, none⟩ = some (.int .i64 (total (rows (ents ++ [t])))) := hf3.cellS (by simp [go_sem, d42', hb2]) (fun e => e); have hl3 : t.bp < w3.heap.size := World.block_lt_of_cell? _ _ k9; have hl3' : bc < w3.heap.size := World.block_lt_of_cell? _ _ hm3; have hz3 : w3.frozen? ⟨t.bp, 9, none⟩ = false := (by rw [hf3.frozen (by simp; omega) (fun e => e)]; simp [go_sem, hb3, q9]); have hz3' : w3.frozen? ⟨bc, 42, none⟩ = false := (by rw [hf3.frozen (by simp; omega) (fun e => e)]; simp [go_sem, hb2, q42'])))
  all_goals go_wp2
  all_goals go_ret2
  all_goals exact want_close2 (put_sorted HS.out (no_key HS.out HP.out HF2'.out)) (by simp : (ents ++ [t])[ents.length]? = some t) (put_new_perm HP.out Htx.out) HA3.out HF3.out HN3.out (((((Fr.refl Nil W3).alloc _).drew).trans hf3 (fun _ _ e => e)).alloc _) Hvl.out Hvs.out (hv'.fr0 ((Fr.refl Nil _).alloc _)) hown4 hg4 hat4 _
end

end Go.Proofs.Ytaokmbmimogdgaa
