/- Contract of Want: a frame waits. -/
import Derived.Test.YtaokmbmimogdgaaCacheWant
import Derived.Test.YtaokmbmimogdgaaTypes
import Derived.Deep.DrawnRows
import Derived.Deep.RegionLaw
namespace Go.Proofs.Ytaokmbmimogdgaa
open Go.RowKit Go.ChangeMaps
attribute [local go_sem ↓] Go.wp_at_zero Go.wp_at_succ

section
variable {w : World} {bc : Nat} {c : Cf} {now : Int} {conf : List Value} {bm : Nat} {ents : List Ent} {F : Nat → Prop}

theorem want_close {l : List One} {w2 W w4 : World} {i j : Nat} {t : Ent} {b : List Int} {vs : List Value} {v' v2 : Value} (hs : Sorted l) (hp : l.Perm (rows ents)) (f1 : l[i]? = some t.x) (f3 : ents[j]? = some t)
    (hA : CAt w2 bc c now conf bm ents F) (hF : Fr Nil w w2) (hW : Fr Nil w2 W) (hvl : vs.length = t.x.waits.length)
    (hvs : ∀ (i : Nat) (v : Value) (l : List Int), vs[i]? = some v → t.x.waits[i]? = some l → RdB Nil w2 v l) (hb : RdB Nil W v' b)
    (hown : w4.ownsRow 0 TBs 1 v2 (t.x.waits.length + 1) (vs ++ [v'])) (hg : Gw W w4 t.u.ownBlock) (hat : v2.ownBlock = t.u.ownBlock ∨ v2.ownBlock = some W.heap.size) (v : Value) :
    CPost v bc c now (l.set i (addWait b t.x)) F w (.returned v) ((w4.setCell ⟨t.bp, 9, none⟩ v2).setCell ⟨bc, 42, none⟩ (.int .i64 ((total (rows ents) : Int) + 1))) := by
  have hA2 := hA.fr hW (fun _ _ e => e)
  obtain ⟨F', h1, h2, h3⟩ := hA2.waitMore f3 hvl (fun i v l a b => (hvs i v l a b).fr0 hW) hb hown hg hat
  refine ⟨rfl, ((hF.trans hW (fun _ _ e => e)).mono (fun _ _ e => e.elim)).trans h2 (fun _ _ e => e), F', ⟨sorted_set hs f1 rfl, conf, bm, _, h1, ?_⟩, fun b hb => (h3 b hb).imp id (fun e => ?_)⟩
  · rw [rows_set]; exact perm_set hp f1 (rows_get f3) _
  · have := hF.size; have := hW.size; omega

set_option maxRecDepth 100000 in
set_option maxHeartbeats 3000000 in
theorem want_more {l : List One} (hs : Sorted l) (h : CAt w bc c now conf bm ents F) (hp : l.Perm (rows ents)) (n k : Int) (u : Value) {G : Nat → Prop} {b : List Int} (hb : RdB G w u b) (hbl : b.length ≤ 1000000) (htot : total (rows ents) ≤ 1000000)
    {i j : Nat} {t : Ent} (f1 : l[i]? = some t.x)
    (f2 : idx (ents.map ekv) (n, k) = some j) (f3 : ents[j]? = some t) (hk : t.x.known = false) (hq : ¬ c.queue ≤ total (rows ents)) :
    Calls Try.prog 8 #[.pointer (some ⟨bc, 0, none⟩), .agg #[.int .i64 n, .int .u32 k], u] w (CPost (.tuple #[.bool false, .int .i64 0]) bc c now (l.set i (addWait b t.x)) F w) := by
  obtain ⟨ua, uc, hu, _⟩ : ∃ a c, u = .slice a b.length c ∧ True := by obtain ⟨a, c, e, _⟩ := hb; exact ⟨a, c, e, trivial⟩
  subst hu
  have C := get_any (h.fr (alloc_place_fr w n k) (fun _ _ e => e)) n k
  rw [look_some f2 f3] at C
  obtain ⟨i0, hi0, hz0, hz1, hz2⟩ := info_parts infoBs
  have hbc := h.blk.lt
  have E0 := h.eat t (List.mem_of_getElem? f3)
  have p0 := E0.p0
  have p9 := E0.p9
  have hbp := E0.1.lt
  rw [hk] at p0
  have c28 := h.c28
  have c42 := h.c42
  have HA := Lib.hid h
  have HE := Lib.hid E0
  have HB := Lib.hid hb
  have hq' : decide (c.queue ≤ (total (rows ents) : Int)) = false := by simpa using hq
  have R := Lib.hid C
  have F1 := Lib.hid f1
  have F3 := Lib.hid f3
  have HS := Lib.hid hs
  have HP := Lib.hid hp
  clear C h hp hs f1 f2 f3 E0 hk hb hq
  go_enter Try.func8, Try.ntmps8
  go_wp2_with (go_at_call 25; refine R.out.mono ?_)
  rintro e w1 ⟨rfl, hf1⟩
  have hf2 := Lib.hid ((alloc_place_fr w n k).trans hf1 (fun _ _ e => e))
  have p1 : w1.cell? ⟨t.bp, 0, none⟩ = some (.bool false) := hf2.out.cellS p0 (fun e => e)
  have d28 := hf2.out.cellS c28 (fun e => e)
  have d42 := hf2.out.cellS c42 (fun e => e)
  have d9 := hf2.out.cellS p9 (fun e => e)
  clear hf1 p0 c28 c42 p9
  go_wp2_with fail
  go_quiet (fail)
  go_wp2_with fail
  have hf3 := hf2.out.drewN nq
  have d9' : (w1.drewN nq).cell? ⟨t.bp, 9, none⟩ = some t.u := d9
  have d42' : (w1.drewN nq).cell? ⟨bc, 42, none⟩ = some (.int .i64 (total (rows ents))) := d42
  clear p1 d28 d42 d9 hf2
  generalize w1.drewN nq = w2 at *
  have HF2 := Lib.hid hf3
  obtain ⟨vs, hvl, hown2, hvs⟩ := (HE.out.fr hf3 (fun e => e) (fun _ _ e => e)).2
  have Hvl := Lib.hid hvl
  have Hown2 := Lib.hid hown2
  have Hvs := Lib.hid hvs
  have hwl : t.x.waits.length ≤ 1000000 := by
    have := total_erase (rows_get F3.out); omega
  have hb2 : bc < w2.heap.size := Nat.lt_of_lt_of_le hbc hf3.size
  have hb3 : t.bp < w2.heap.size := Nat.lt_of_lt_of_le hbp hf3.size
  have hA2 := HA.out.fr hf3 (fun _ _ e => e)
  have hE2 := HE.out.fr hf3 (fun e => e) (fun _ _ e => e)
  have hup : t.u.ownBlock ≠ some t.bp := fun e => by have := (hE2.2.tag _ e).uniq hE2.1.tag; revert this; decide
  have huc : t.u.ownBlock ≠ some bc := fun e => by have := (hE2.2.tag _ e).uniq hA2.blk.tag; revert this; decide
  have q9 : w2.frozen? ⟨t.bp, 9, none⟩ = false := hE2.1.frozen 9
  have q42' : w2.frozen? ⟨bc, 42, none⟩ = false := hA2.blk.frozen 42
  have HA2 := Lib.hid hA2
  clear hA2 hE2
  clear hvl hown2 hvs hf3
  go_region_law (first
      | (refine step_append_rd _ rfl (.tmp 74) (.tmp 78) _ rfl 0 40 i0 _ 1 24 Try.underlying47 hi0 hz0 hz1 hz2 rfl (by omega) t.u t.x.waits.length vs (by rfl) (Fr.ownsRow (((((Fr.refl Nil w2).alloc _).drew).trans hf3 (fun _ _ e => e)).alloc _) Hown2.out (fun _ _ e => e)) (fun _ => True) _ 1 [.slice va b.length vc] (by rfl) ⟨_, _, rfl, Nat.le_refl _, fun _ => ⟨_, 0, rfl, trivial, (Blk.new w3 TBs [.slice va b.length vc]).lt, fun j v hv => by rw [Nat.zero_add]; exact (Blk.new w3 TBs [.slice va b.length vc]).cellS hv⟩⟩ rfl (fun x hx => (List.mem_singleton.1 hx) ▸ rfl) (by simp only [maxLen]; omega) (by omega) (Nat.zero_le _) ?_; intro v2 w4 hown4 hg4 hat4; obtain ⟨g4, c4, hv4, _, _⟩ := World.ownsRow.form hown4 (by omega); subst hv4; have k94 : w4.cell? ⟨t.bp, 9, none⟩ = some t.u := hg4.cellS (by simp [go_sem, k9, hl3]) hup; have q94 : w4.frozen? ⟨t.bp, 9, none⟩ = false := (by rw [hg4.frozen (by simp; omega) hup]; simp [go_sem, hl3, hz3]); have k42 : w4.cell? ⟨bc, 42, none⟩ = some (.int .i64 (total (rows ents))) := hg4.cellS (by simp [go_sem, hm3, hl3']) huc; have q42 : w4.frozen? ⟨bc, 42, none⟩ = false := (by rw [hg4.frozen (by simp; omega) huc]; simp [go_sem, hl3', hz3']))
      | (go_simp; go_at_call 27; refine (join_one G _ _ (.slice ua b.length uc) b (by exact Blk.new w2 TBs [.slice ua b.length uc]) (by exact HB.out.frN ((HF2.out.alloc _).drew)) (by omega)).mono ?_; rintro e w3 ⟨v0, rfl, hv', hf3⟩; obtain ⟨va, vc, hv, _⟩ : ∃ a c, v0 = .slice a b.length c ∧ True := (by obtain ⟨a, c, e, _⟩ := hv'; exact ⟨a, c, e, trivial⟩); subst hv; have k9 : w3.cell? ⟨t.bp, 9, none⟩ = some t.u := hf3.cellS (by simp [go_sem, d9', hb3]) (fun e => e); have hm3 : w3.cell? ⟨bc, 42, none⟩ = some (.int .i64 (total (rows ents))) := hf3.cellS (by simp [go_sem, d42', hb2]) (fun e => e); have hl3 : t.bp < w3.heap.size := World.block_lt_of_cell? _ _ k9; have hl3' : bc < w3.heap.size := World.block_lt_of_cell? _ _ hm3; have hz3 : w3.frozen? ⟨t.bp, 9, none⟩ = false := (by rw [hf3.frozen (by simp; omega) (fun e => e)]; simp [go_sem, hb3, q9]); have hz3' : w3.frozen? ⟨bc, 42, none⟩ = false := (by rw [hf3.frozen (by simp; omega) (fun e => e)]; simp [go_sem, hb2, q42'])))
  all_goals go_wp2
  all_goals go_ret2
  all_goals exact want_close HS.out HP.out F1.out F3.out HA2.out HF2.out ((((Fr.refl Nil w2).alloc _).drew.trans hf3 (fun _ _ e => e)).alloc _) Hvl.out Hvs.out (hv'.fr0 ((Fr.refl Nil _).alloc _)) hown4 hg4 hat4 _
end

end Go.Proofs.Ytaokmbmimogdgaa
