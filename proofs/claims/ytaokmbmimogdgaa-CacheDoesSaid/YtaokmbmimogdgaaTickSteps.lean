/- A round of Tick in the cache's memory: a place is asked for again, or dropped. -/
import Derived.Test.YtaokmbmimogdgaaTickLaws
namespace Go.Proofs.Ytaokmbmimogdgaa
open Go.RowKit Go.ChangeMaps

theorem map_erase {α β : Type} (f : α → β) : ∀ (l : List α) (j : Nat), (l.eraseIdx j).map f = (l.map f).eraseIdx j
  | [], _ => rfl
  | _ :: _, 0 => rfl
  | a :: l, j + 1 => by simp [map_erase f l j]

section
variable {w : World} {bc : Nat} {c : Cf} {now : Int} {conf : List Value} {bm : Nat} {ents : List Ent} {F : Nat → Prop}

theorem CAt.asked (h : CAt w bc c now conf bm ents F) {j : Nat} {t : Ent} (hj : ents[j]? = some t) (hk : t.x.known = false) :
    CAt ((w.setCell ⟨t.bp, 7, none⟩ (.int .i64 (t.x.tries + 1))).setCell ⟨t.bp, 8, none⟩ (.int .i64 (now + clamp c.retry 1 4095))) bc c now conf bm (ents.set j { t with x := Proofs.Ytaokmbmimogdgaa.asked now t.x }) F ∧
      Fr F w ((w.setCell ⟨t.bp, 7, none⟩ (.int .i64 (t.x.tries + 1))).setCell ⟨t.bp, 8, none⟩ (.int .i64 (now + clamp c.retry 1 4095))) := by
  have ht := List.mem_of_getElem? hj
  obtain ⟨e1, e2⟩ := h.eat t ht
  have hne : t.bp ≠ bc := h.bpbc ht
  have hnm : t.bp ≠ bm := h.bpbm ht
  have hFt := (h.fe t ht).1
  have hm : May F w t.bp := fun _ => ⟨hFt, h.nb _ hFt⟩
  have hf : Fr F w ((w.setCell ⟨t.bp, 7, none⟩ (.int .i64 (t.x.tries + 1))).setCell ⟨t.bp, 8, none⟩ (.int .i64 (now + clamp c.retry 1 4095))) := ((Fr.refl F w).setCell (p := ⟨t.bp, 7, none⟩) hm _).setCell (p := ⟨t.bp, 8, none⟩) hm _
  have hm' : May (fun b => b = t.bp) w t.bp := fun _ => ⟨rfl, h.nb _ hFt⟩
  have hf' : Fr (fun b => b = t.bp) w ((w.setCell ⟨t.bp, 7, none⟩ (.int .i64 (t.x.tries + 1))).setCell ⟨t.bp, 8, none⟩ (.int .i64 (now + clamp c.retry 1 4095))) := ((Fr.refl _ w).setCell (p := ⟨t.bp, 7, none⟩) hm' _).setCell (p := ⟨t.bp, 8, none⟩) hm' _
  refine ⟨?_, hf⟩
  have hrow : total (rows (ents.set j { t with x := Proofs.Ytaokmbmimogdgaa.asked now t.x })) = total (rows ents) := by
    rw [rows_set, total_perm (set_perm _ (List.getElem?_eq_some_iff.1 (rows_get hj)).1), total_perm (erase_perm (rows_get hj))]
    rfl
  have := h.change (t' := { t with x := Proofs.Ytaokmbmimogdgaa.asked now t.x }) hj hf' (fun b _ e => .inr (.inr (.inl e)))
    (by rw [hrow]; exact h.blk.fr hf' (fun e => hne e.symm))
    (by rw [ekv_set (t' := { t with x := Proofs.Ytaokmbmimogdgaa.asked now t.x }) hj rfl]; exact h.map.kept (hf'.block _ h.map.lt (fun e => hnm e.symm)))
    ⟨by
      have hb := (e1.set 7 (.int .i64 (t.x.tries + 1))).set 8 (.int .i64 (now + clamp c.retry 1 4095))
      rw [asked_due hk]
      exact hb, e2.fr hf' (fun b hb e => by subst e; have := (e2.tag _ hb).uniq e1.tag; revert this; decide)⟩
    (.inl rfl) (fun b hb => .inl hb)
  exact ⟨this.cok, this.blk, this.map, this.eat, this.apart, h.fc, h.fm, fun s hs => by
    obtain ⟨g1, g2⟩ := this.fe s hs
    refine ⟨?_, fun b hb => ?_⟩
    · rcases g1 with g | g | g
      · exact g
      · rw [g]; exact hFt
      · exact (h.fe t ht).2 _ g
    · rcases g2 b hb with g | g | g
      · exact g
      · rw [g]; exact hFt
      · exact (h.fe t ht).2 _ g, fun b hb => this.lt b (.inl hb), fun b hb => this.nb b (.inl hb)⟩

theorem CAt.dropped (h : CAt w bc c now conf bm ents F) {j : Nat} {t : Ent} (hj : ents[j]? = some t) {p : Int × Int} (hi : idx (ents.map ekv) p = some j) {w1 : World} (hf1 : Fr Nil (w.setCell ⟨bc, 42, none⟩ (.int .i64 ((total (rows ents) : Int) - t.x.waits.length))) w1) {es' : Array MapEntry} {ck' : Nat}
    (hm : MapIs (setBlock w1 bm (.map es' ck')) bm (del (ents.map ekv) p)) :
    CAt (setBlock w1 bm (.map es' ck')) bc c now conf bm (ents.eraseIdx j) F ∧ Fr F w (setBlock w1 bm (.map es' ck')) := by
  have hmay : May F w bc := fun _ => ⟨h.fc, h.nb _ h.fc⟩
  have hmay' : May (fun b => b = bc ∨ b = bm) w bc := fun _ => ⟨.inl rfl, h.nb _ h.fc⟩
  have hmm : MapIs w1 bm (ents.map ekv) := h.map.kept ((hf1.block _ (by simp only [World.size_setCell]; exact h.map.lt) (fun e => e)).trans (Below.heap_setCell _ _ _ _ (fun e => h.bcbm e.symm)))
  obtain ⟨es, ck, hes⟩ := hmm.map
  have hf : Fr F w (setBlock w1 bm (.map es' ck')) := (((Fr.refl F w).setCell (p := ⟨bc, 42, none⟩) hmay _).trans hf1 (fun _ _ e => e.elim)).setMap hes (fun _ => ⟨h.fm, h.map.noTag _⟩) _
  have hf' : Fr (fun b => b = bc ∨ b = bm) w (setBlock w1 bm (.map es' ck')) := (((Fr.refl _ w).setCell (p := ⟨bc, 42, none⟩) hmay' _).trans hf1 (fun _ _ e => e.elim)).setMap hes (fun _ => ⟨.inr rfl, h.map.noTag _⟩) _
  have htot := total_erase (rows_get hj)
  have hre : rows (ents.eraseIdx j) = (rows ents).eraseIdx j := by unfold rows; rw [map_erase]
  refine ⟨h.less (j := j) hf' (fun b _ e => e) ?_ ?_, hf⟩
  · have hb := (h.blk.set 42 (.int .i64 ((total (rows ents) : Int) - t.x.waits.length))).fr hf1 (fun e => e) |>.setMap hes (.map es' ck')
    have e1 : ((total (rows ents) : Int) - t.x.waits.length) = (total (rows (ents.eraseIdx j)) : Int) := by rw [hre]; omega
    rw [e1] at hb
    have e2 : (conf ++ [Value.int .i64 now, .map (some bm), .int .i64 (total (rows ents))]).set 42 (.int .i64 (total (rows (ents.eraseIdx j)))) = conf ++ [Value.int .i64 now, .map (some bm), .int .i64 (total (rows (ents.eraseIdx j)))] := by
      have := h.cok.len
      rw [List.set_append_right _ _ (by omega), this]
      rfl
    rw [e2] at hb
    exact hb
  · have e3 : del (ents.map ekv) p = (ents.eraseIdx j).map ekv := by unfold del; rw [hi]; rw [map_erase]
    rw [← e3]; exact hm
end

end Go.Proofs.Ytaokmbmimogdgaa
