/- One frame more waits for a place that is asked for: the memory behind it. -/
import Derived.Test.YtaokmbmimogdgaaCacheSteps
namespace Go.Proofs.Ytaokmbmimogdgaa
open Go.RowKit Go.ChangeMaps

theorem join_one (G : Nat → Prop) (W : World) (g : Nat) (u : Value) (b : List Int) (hg : Blk W g TBs [u]) (hb : RdB G W u b) (hl : b.length ≤ 1000000000) :
    Calls Try.prog 27 #[.slice (some ⟨g, 0, none⟩) 1 1] W (NewB W b) := by
  have h : RdBB (fun _ => True) G W (.slice (some ⟨g, 0, none⟩) 1 1) [b] := by
    refine ⟨[u], rfl, ⟨_, _, rfl, Nat.le_refl _, fun _ => ⟨g, 0, rfl, trivial, hg.lt, fun j v hv => ?_⟩⟩, fun i v l hv hl => ?_⟩
    · rw [Nat.zero_add]; exact hg.cellS hv
    · cases i with
      | zero => simp at hv hl; subst hv; subst hl; exact hb
      | succ i => simp at hv
  have := join_any _ G W _ [b] h (by simp) (by simp; omega)
  simpa using this

theorem total_set {l : List One} {i : Nat} {x y : One} (hi : l[i]? = some x) : total (l.set i y) + x.waits.length = total l + y.waits.length := by
  have h1 := total_perm (set_perm y (List.getElem?_eq_some_iff.1 hi).1)
  have h2 := total_erase hi
  rw [h1, h2]; simp only [total]; omega

section
variable {w : World} {bc : Nat} {c : Cf} {now : Int} {conf : List Value} {bm : Nat} {ents : List Ent} {F : Nat → Prop}
theorem WaitsAt.more {w2 : World} {v2 v' : Value} {ll : List (List Int)} {b : List Int} {vs : List Value} {S : Nat → Prop} (hvl : vs.length = ll.length)
    (hrd : ∀ (i : Nat) (v : Value) (l : List Int), vs[i]? = some v → ll[i]? = some l → RdB Nil w v l) (hb : RdB Nil w v' b) (hf : Fr S w w2)
    (hown : w2.ownsRow 0 TBs 1 v2 (ll.length + 1) (vs ++ [v'])) : WaitsAt w2 v2 (ll ++ [b]) := by
  refine ⟨vs ++ [v'], by simp [hvl], by simpa using hown, fun i v l hv hl => ?_⟩
  by_cases hi : i < ll.length
  · rw [List.getElem?_append_left (by omega)] at hv hl
    exact (hrd i v l hv hl).fr0 hf
  · rw [List.getElem?_append_right (by omega)] at hv hl
    rw [hvl] at hv
    cases hk : i - ll.length with
    | zero => rw [hk] at hv hl; simp at hv hl; subst hv; subst hl; exact hb.fr0 hf
    | succ k => rw [hk] at hv; simp at hv

theorem CAt.waitMore (h : CAt w bc c now conf bm ents F) {j : Nat} {t : Ent} (hj : ents[j]? = some t) {w2 : World} {v2 v' : Value} {b : List Int} {vs : List Value} (hvl : vs.length = t.x.waits.length)
    (hrd : ∀ (i : Nat) (v : Value) (l : List Int), vs[i]? = some v → t.x.waits[i]? = some l → RdB Nil w v l) (hb : RdB Nil w v' b)
    (hown : w2.ownsRow 0 TBs 1 v2 (t.x.waits.length + 1) (vs ++ [v'])) (hg : Gw w w2 t.u.ownBlock) (hat : v2.ownBlock = t.u.ownBlock ∨ v2.ownBlock = some w.heap.size) :
    ∃ F', CAt ((w2.setCell ⟨t.bp, 9, none⟩ v2).setCell ⟨bc, 42, none⟩ (.int .i64 ((total (rows ents) : Int) + 1))) bc c now conf bm (ents.set j ⟨addWait b t.x, t.bp, v2⟩) F' ∧
      Fr F w ((w2.setCell ⟨t.bp, 9, none⟩ v2).setCell ⟨bc, 42, none⟩ (.int .i64 ((total (rows ents) : Int) + 1))) ∧ ∀ b, F' b → F b ∨ w.heap.size ≤ b := by
  have ht := List.mem_of_getElem? hj
  obtain ⟨e1, e2⟩ := h.eat t ht
  have htu := e2.tag
  have nU : ∀ b, t.u.ownBlock = some b → ¬ IsU8 w b := fun b hb h8 => by have := h8.uniq (htu b hb); revert this; decide
  have hbcp : bc ≠ t.bp := (h.bpbc ht).symm
  have hup : t.u.ownBlock ≠ some t.bp := fun e => by have := (htu _ e).uniq e1.tag; revert this; decide
  have huc : t.u.ownBlock ≠ some bc := fun e => by have := (htu _ e).uniq h.blk.tag; revert this; decide
  have hum : t.u.ownBlock ≠ some bm := fun e => h.map.noTag _ (htu _ e)
  -- the set of the blocks that are written
  have f2 : Fr (fun b => b = bc ∨ b = bm ∨ b = t.bp ∨ t.u.ownBlock = some b) w w2 := (Fr.refl _ _).grown hg (fun k hk hlt => ⟨.inr (.inr (.inr hk)), nU k hk⟩)
  have f3 := f2.setCell (p := ⟨t.bp, 9, none⟩) (fun _ => ⟨.inr (.inr (.inl rfl)), fun h8 => by have := h8.uniq e1.tag; revert this; decide⟩) v2
  have f4 := f3.setCell (p := ⟨bc, 42, none⟩) (fun _ => ⟨.inl rfl, fun h8 => by have := h8.uniq h.blk.tag; revert this; decide⟩) (.int .i64 ((total (rows ents) : Int) + 1))
  have lbp : t.bp < w.heap.size := e1.lt
  -- the blocks
  have bp2 : Blk w2 t.bp TP (placeCells t.x (dueOf c t.x) t.u) := (hg.block _ e1.lt (fun e => hup e.symm)).trans e1
  have bc2 : Blk w2 bc TC (conf ++ [.int .i64 now, .map (some bm), .int .i64 (total (rows ents))]) := (hg.block _ h.blk.lt (fun e => huc e.symm)).trans h.blk
  have bp3 := (bp2.set 9 v2).far (p := ⟨bc, 42, none⟩) hbcp.symm (.int .i64 ((total (rows ents) : Int) + 1))
  have bc3 := (bc2.far (p := ⟨t.bp, 9, none⟩) hbcp v2).set 42 (.int .i64 ((total (rows ents) : Int) + 1))
  have hm3 : ((w2.setCell ⟨t.bp, 9, none⟩ v2).setCell ⟨bc, 42, none⟩ (.int .i64 ((total (rows ents) : Int) + 1))).heap[bm]? = w.heap[bm]? := by
    rw [Below.heap_setCell _ _ _ _ (fun e => h.bcbm e.symm), Below.heap_setCell _ _ _ _ (fun e => h.bpbm ht e.symm), hg.block _ h.map.lt (fun e => hum e.symm)]
  have hw2 : WaitsAt w2 v2 (t.x.waits ++ [b]) := WaitsAt.more hvl hrd hb f2 hown
  have ho2 := hw2.tag
  have hne : ∀ k, v2.ownBlock = some k → k ≠ t.bp ∧ k ≠ bc := fun k hk => ⟨fun e => by subst e; have := (ho2 _ hk).uniq bp2.tag; revert this; decide, fun e => by subst e; have := (ho2 _ hk).uniq bc2.tag; revert this; decide⟩
  have f34 : Fr (fun b => b = t.bp ∨ b = bc) w2 ((w2.setCell ⟨t.bp, 9, none⟩ v2).setCell ⟨bc, 42, none⟩ (.int .i64 ((total (rows ents) : Int) + 1))) :=
    ((Fr.refl _ _).setCell (p := ⟨t.bp, 9, none⟩) (fun _ => ⟨.inl rfl, fun h8 => by have := h8.uniq bp2.tag; revert this; decide⟩) v2).setCell (p := ⟨bc, 42, none⟩) (fun _ => ⟨.inr rfl, fun h8 => by have := h8.uniq bc2.tag; revert this; decide⟩) _
  have hw3 : WaitsAt ((w2.setCell ⟨t.bp, 9, none⟩ v2).setCell ⟨bc, 42, none⟩ (.int .i64 ((total (rows ents) : Int) + 1))) v2 (t.x.waits ++ [b]) :=
    hw2.fr f34 (fun k hk hs => by rcases hs with rfl | rfl; exact (hne _ hk).1 rfl; exact (hne _ hk).2 rfl)
  have htot : (total (rows (ents.set j ⟨addWait b t.x, t.bp, v2⟩)) : Int) = (total (rows ents) : Int) + 1 := by
    have := total_set (y := addWait b t.x) (rows_get hj)
    rw [rows_set]
    simp only [addWait, List.length_append, List.length_cons, List.length_nil] at this ⊢
    omega
  refine ⟨_, h.change (t' := ⟨addWait b t.x, t.bp, v2⟩) hj f4 (fun _ _ h => h) ?_ ?_ ⟨?_, hw3⟩ (.inl rfl) ?_, f4.mono ?_, ?_⟩
  · have hl := h.cok.len
    rw [htot]
    have : (conf ++ [Value.int .i64 now, Value.map (some bm), Value.int .i64 (total (rows ents))]).set 42 (Value.int .i64 ((total (rows ents) : Int) + 1)) = conf ++ [Value.int .i64 now, Value.map (some bm), Value.int .i64 ((total (rows ents) : Int) + 1)] := by
      rw [List.set_append_right _ _ (by omega), hl]; rfl
    rw [this] at bc3
    exact bc3
  · rw [ekv_set hj (by rfl)]
    exact h.map.kept hm3
  · exact bp3
  · intro k hk
    rcases hat with e | e
    · left; rw [← e]; exact hk
    · right; have hk' : v2.ownBlock = some k := hk
      rw [e] at hk'; simp at hk'; omega
  · intro k _ hk
    rcases hk with rfl | rfl | rfl | hk
    · exact h.fc
    · exact h.fm
    · exact (h.fe t ht).1
    · exact (h.fe t ht).2 k hk
  · intro k hk
    rcases hk with hk | rfl | hk
    · exact .inl hk
    · exact .inl (h.fe t ht).1
    · rcases hat with e | e
      · have hk' : v2.ownBlock = some k := hk
        rw [e] at hk'; exact .inl ((h.fe t ht).2 k hk')
      · have hk' : v2.ownBlock = some k := hk
        rw [e] at hk'; simp at hk'; right; omega
end

end Go.Proofs.Ytaokmbmimogdgaa
