/- What the deeds do to the cache's memory, without the walks: one entry changed, one more, one less. -/
import Derived.Test.YtaokmbmimogdgaaCacheGet
import Derived.Test.YtaokmbmimogdgaaJoin
namespace Go.Proofs.Ytaokmbmimogdgaa
open Go.RowKit Go.ChangeMaps

section
variable {w w' : World} {bc : Nat} {c : Cf} {now : Int} {conf : List Value} {bm : Nat} {ents : List Ent} {F : Nat → Prop}

theorem apart_perm {l m : List Ent} (h : l.Perm m) (hl : l.Pairwise Apart) : m.Pairwise Apart :=
  (h.pairwise_iff (fun h => Apart.symm h)).1 hl
theorem CAt.others (h : CAt w bc c now conf bm ents F) {j : Nat} {t : Ent} (hj : ents[j]? = some t) : ∀ s ∈ ents.eraseIdx j, Apart s t := by
  have := apart_perm (erase_perm hj) h.apart
  rw [List.pairwise_cons] at this
  exact fun s hs => (this.1 s hs).symm
theorem CAt.rest (h : CAt w bc c now conf bm ents F) {j : Nat} {t : Ent} (hj : ents[j]? = some t) : ∀ s ∈ ents.eraseIdx j, s ∈ ents := fun s hs => (List.eraseIdx_sublist _ _).subset hs
/-- An entry stands where the blocks of another alone, the cache's own and the map are written. -/
theorem CAt.stay {S : Nat → Prop} (h : CAt w bc c now conf bm ents F) (hf : Fr S w w') {t : Ent} (hS : ∀ b, b < w.heap.size → S b → b = bc ∨ b = bm ∨ b = t.bp ∨ t.u.ownBlock = some b)
    {s : Ent} (hs : s ∈ ents) (hst : Apart s t) (htb : IsTag TP w t.bp) (htu : ∀ b, t.u.ownBlock = some b → IsTag TBs w b) : EntAt w' c s := by
  obtain ⟨e1, e2⟩ := h.eat s hs
  refine ⟨e1.fr hf (fun hb => ?_), e2.fr hf (fun b hu hb => ?_)⟩
  · rcases hS _ e1.lt hb with e | e | e | e
    · exact h.bpbc hs e
    · exact h.bpbm hs e
    · exact hst.1 e
    · have := (htu _ e).uniq e1.tag; revert this; decide
  · have tg := e2.tag b hu
    rcases hS _ tg.lt hb with e | e | e | e
    · subst e; have := tg.uniq h.blk.tag; revert this; decide
    · subst e; exact h.map.noTag _ tg
    · subst e; have := tg.uniq htb; revert this; decide
    · exact hst.2 b hu e
theorem CAt.stayAll {S : Nat → Prop} (h : CAt w bc c now conf bm ents F) (hf : Fr S w w') (hS : ∀ b, b < w.heap.size → S b → b = bc ∨ b = bm) {s : Ent} (hs : s ∈ ents) : EntAt w' c s := by
  obtain ⟨e1, e2⟩ := h.eat s hs
  refine ⟨e1.fr hf (fun hb => ?_), e2.fr hf (fun b hu hb => ?_)⟩
  · rcases hS _ e1.lt hb with e | e
    · exact h.bpbc hs e
    · exact h.bpbm hs e
  · have tg := e2.tag b hu
    rcases hS _ tg.lt hb with e | e
    · subst e; have := tg.uniq h.blk.tag; revert this; decide
    · subst e; exact h.map.noTag _ tg

theorem set_perm' {j : Nat} {t : Ent} (hj : ents[j]? = some t) (t' : Ent) : (ents.set j t').Perm (t' :: ents.eraseIdx j) := set_perm t' (List.getElem?_eq_some_iff.1 hj).1
theorem rows_set (j : Nat) (t' : Ent) : rows (ents.set j t') = (rows ents).set j t'.x := by unfold rows; rw [List.map_set]
theorem rows_get {j : Nat} {t : Ent} (hj : ents[j]? = some t) : (rows ents)[j]? = some t.x := by unfold rows; simp [hj]
theorem ekv_set {j : Nat} {t t' : Ent} (hj : ents[j]? = some t) (he : ekv t' = ekv t) : (ents.set j t').map ekv = ents.map ekv := by
  rw [List.map_set, he]
  apply List.ext_getElem?
  intro k
  rw [List.getElem?_set]
  obtain ⟨hl, hx⟩ := List.getElem?_eq_some_iff.1 hj
  by_cases hk : j = k
  · subst hk; simp [hl, hx]
  · simp [hk]

/-- One entry changed: how all stands again. -/
theorem CAt.change {S : Nat → Prop} (h : CAt w bc c now conf bm ents F) {j : Nat} {t t' : Ent} (hj : ents[j]? = some t) (hf : Fr S w w')
    (hS : ∀ b, b < w.heap.size → S b → b = bc ∨ b = bm ∨ b = t.bp ∨ t.u.ownBlock = some b)
    (hblk : Blk w' bc TC (conf ++ [.int .i64 now, .map (some bm), .int .i64 (total (rows (ents.set j t')))]))
    (hmap : MapIs w' bm ((ents.set j t').map ekv)) (hent : EntAt w' c t')
    (hbp : t'.bp = t.bp ∨ w.heap.size ≤ t'.bp) (hu : ∀ b, t'.u.ownBlock = some b → t.u.ownBlock = some b ∨ w.heap.size ≤ b) :
    CAt w' bc c now conf bm (ents.set j t') (fun b => F b ∨ b = t'.bp ∨ t'.u.ownBlock = some b) := by
  have ht := List.mem_of_getElem? hj
  have hp := set_perm' hj t'
  have hmem : ∀ s ∈ ents.set j t', s = t' ∨ s ∈ ents.eraseIdx j := fun s hs => by simpa using hp.subset hs
  have htb := (h.eat t ht).1.tag
  have htu := (h.eat t ht).2.tag
  refine ⟨h.cok, hblk, hmap, ?_, ?_, .inl h.fc, .inl h.fm, ?_, ?_, ?_⟩
  · intro s hs
    rcases hmem s hs with rfl | hs
    · exact hent
    · exact h.stay hf hS (h.rest hj s hs) (h.others hj s hs) htb htu
  · refine apart_perm hp.symm (List.pairwise_cons.2 ⟨fun s hs => ?_, h.apart.sublist (List.eraseIdx_sublist _ _)⟩)
    have ha := h.others hj s hs
    have hs' := h.rest hj s hs
    refine ⟨?_, fun b hb hb' => ?_⟩
    · rcases hbp with e | e
      · rw [e]; exact ha.1.symm
      · intro e'; have := (h.eat s hs').1.lt; omega
    · rcases hu b hb with e | e
      · exact ha.2 b hb' e
      · have := ((h.eat s hs').2.tag b hb').lt; omega
  · intro s hs
    rcases hmem s hs with rfl | hs
    · exact ⟨.inr (.inl rfl), fun b hb => .inr (.inr hb)⟩
    · exact ⟨.inl (h.fe s (h.rest hj s hs)).1, fun b hb => .inl ((h.fe s (h.rest hj s hs)).2 b hb)⟩
  · intro b hb
    rcases hb with hb | rfl | hb
    · exact Nat.lt_of_lt_of_le (h.lt b hb) hf.size
    · exact hent.1.lt
    · exact (hent.2.tag b hb).lt
  · intro b hb h8
    rcases hb with hb | rfl | hb
    · by_cases hsb : S b
      · rcases hS b (h.lt b hb) hsb with rfl | rfl | rfl | e
        · have := h8.uniq hblk.tag; revert this; decide
        · exact hmap.noTag _ h8
        · have := h8.uniq (hf.tag _ _ htb); revert this; decide
        · have := h8.uniq (hf.tag _ _ (htu b e)); revert this; decide
      · obtain ⟨cur, fr, hh⟩ := h8
        rw [hf.block b (h.lt b hb) hsb] at hh
        exact h.nb b hb ⟨cur, fr, hh⟩
    · have := h8.uniq hent.1.tag; revert this; decide
    · have := h8.uniq (hent.2.tag b hb); revert this; decide

/-- One entry more, in a block that is new; nothing waits for it. -/
theorem CAt.more {S : Nat → Prop} (h : CAt w bc c now conf bm ents F) {t : Ent} (hf : Fr S w w') (hS : ∀ b, b < w.heap.size → S b → b = bc ∨ b = bm)
    (hblk : Blk w' bc TC (conf ++ [.int .i64 now, .map (some bm), .int .i64 (total (rows (ents ++ [t])))]))
    (hmap : MapIs w' bm ((ents ++ [t]).map ekv)) (hent : EntAt w' c t) (hbp : w.heap.size ≤ t.bp) (hu : ∀ b, t.u.ownBlock = some b → w.heap.size ≤ b) :
    CAt w' bc c now conf bm (ents ++ [t]) (fun b => F b ∨ b = t.bp ∨ t.u.ownBlock = some b) := by
  refine ⟨h.cok, hblk, hmap, ?_, ?_, .inl h.fc, .inl h.fm, ?_, ?_, ?_⟩
  · intro s hs
    rcases List.mem_append.1 hs with hs | hs
    · exact h.stayAll hf hS hs
    · simp at hs; subst hs; exact hent
  · rw [List.pairwise_append]
    refine ⟨h.apart, by simp, fun s hs u hu' => ?_⟩
    simp at hu'; subst hu'
    refine ⟨?_, fun b hb hb' => ?_⟩
    · intro e; have := (h.eat s hs).1.lt; omega
    · have h1 := ((h.eat s hs).2.tag b hb).lt
      have h2 := hu b hb'
      omega
  · intro s hs
    rcases List.mem_append.1 hs with hs | hs
    · exact ⟨.inl (h.fe s hs).1, fun b hb => .inl ((h.fe s hs).2 b hb)⟩
    · simp at hs; subst hs; exact ⟨.inr (.inl rfl), fun b hb => .inr (.inr hb)⟩
  · intro b hb
    rcases hb with hb | rfl | hb
    · exact Nat.lt_of_lt_of_le (h.lt b hb) hf.size
    · exact hent.1.lt
    · exact (hent.2.tag b hb).lt
  · intro b hb h8
    rcases hb with hb | rfl | hb
    · by_cases hsb : S b
      · rcases hS b (h.lt b hb) hsb with rfl | rfl
        · have := h8.uniq hblk.tag; revert this; decide
        · exact hmap.noTag _ h8
      · obtain ⟨cur, fr, hh⟩ := h8
        rw [hf.block b (h.lt b hb) hsb] at hh
        exact h.nb b hb ⟨cur, fr, hh⟩
    · have := h8.uniq hent.1.tag; revert this; decide
    · have := h8.uniq (hent.2.tag b hb); revert this; decide

/-- One entry less. -/
theorem CAt.less {S : Nat → Prop} (h : CAt w bc c now conf bm ents F) {j : Nat} (hf : Fr S w w') (hS : ∀ b, b < w.heap.size → S b → b = bc ∨ b = bm)
    (hblk : Blk w' bc TC (conf ++ [.int .i64 now, .map (some bm), .int .i64 (total (rows (ents.eraseIdx j)))]))
    (hmap : MapIs w' bm ((ents.eraseIdx j).map ekv)) : CAt w' bc c now conf bm (ents.eraseIdx j) F := by
  have hsub : ∀ s ∈ ents.eraseIdx j, s ∈ ents := fun s hs => (List.eraseIdx_sublist _ _).subset hs
  refine ⟨h.cok, hblk, hmap, fun s hs => h.stayAll hf hS (hsub s hs), h.apart.sublist (List.eraseIdx_sublist _ _), h.fc, h.fm, fun s hs => h.fe s (hsub s hs), ?_, ?_⟩
  · exact fun b hb => Nat.lt_of_lt_of_le (h.lt b hb) hf.size
  · intro b hb h8
    by_cases hsb : S b
    · rcases hS b (h.lt b hb) hsb with rfl | rfl
      · have := h8.uniq hblk.tag; revert this; decide
      · exact hmap.noTag _ h8
    · obtain ⟨cur, fr, hh⟩ := h8
      rw [hf.block b (h.lt b hb) hsb] at hh
      exact h.nb b hb ⟨cur, fr, hh⟩
end

end Go.Proofs.Ytaokmbmimogdgaa
