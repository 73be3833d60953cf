/- Rows of Ones that grow: one more behind the others; the row stored back into the cache. -/
import Derived.Test.YtaokmbmimogdgaaRefRead
namespace Go.Proofs.Ytaokmbmimogdgaa
open Go.RowKit
theorem infoOne : (Try.prog.info? 82).map (fun i => (i.zero, i.size, i.bytes)) = some (some (.agg #[.int .i64 0, .int .u32 0, .bool false, .int .u8 0, .int .u8 0, .int .u8 0, .int .u8 0, .int .u8 0, .int .u8 0, .int .i64 0, .int .i64 0, .slice none 0 0]), 12, 64) := by kernel_rfl
theorem Ones.push {N : Nat} {R : Nat → Prop} {W W' : World} {u v v' : Value} {l : List One} {us : List Value} {x : One} (hul : us.length = l.length)
    (h3 : ∀ (i : Nat) (v : Value) (x : One), us[i]? = some v → l[i]? = some x → RdBB (fun b => R b ∧ IsTag TBs W b) Nil W v x.waits) (hv : RdBB (fun b => R b ∧ IsTag TBs W b) Nil W v x.waits)
    (hu : ∀ b, u.ownBlock = some b → IsTag TOne W b) (hown : W'.ownsRow N TOne 12 v' (l.length + 1) (rowCells l us ++ oneCells x v)) (hg : Gw W W' u.ownBlock) : Ones N R W' v' (l ++ [x]) := by
  have hf : Fr (fun b => u.ownBlock = some b) W W' := (Fr.refl _ W).grown hg (fun k hk _ => ⟨hk, fun h8 => by have := (hu k hk).uniq h8; revert this; decide⟩)
  have hS : ∀ b, b < W.heap.size → IsTag TBs W b → R b → ¬ u.ownBlock = some b := fun b _ ht _ e => by have := (hu b e).uniq ht; revert this; decide
  refine ⟨us ++ [v], by simp [hul], ?_, ?_⟩
  · have : rowCells (l ++ [x]) (us ++ [v]) = rowCells l us ++ oneCells x v := by rw [rowCells_append hul]; simp [rowCells]
    rw [this, List.length_append]
    exact hown
  · intro i v0 x0 h1 h2
    by_cases hi : i < us.length
    · rw [List.getElem?_append_left hi] at h1
      rw [List.getElem?_append_left (by omega)] at h2
      exact rdbb_tag (h3 i v0 x0 h1 h2) hf hS (fun _ _ e => e)
    · have hi2 := (List.getElem?_eq_some_iff.1 h1).1
      simp at hi2
      have : i = us.length := by omega
      subst this
      rw [List.getElem?_append_right (Nat.le_refl _), Nat.sub_self] at h1
      rw [hul, List.getElem?_append_right (Nat.le_refl _), Nat.sub_self] at h2
      simp at h1 h2
      subst h1 h2
      exact rdbb_tag hv hf hS (fun _ _ e => e)
/-- One more: the cells of the new element, as they lie in a block of their own. -/
theorem one_new {w : World} {x : One} {v : Value} : RdS (fun _ => True) (w.alloc (.cells (oneCells x v).toArray TOne)) (.slice (some ⟨w.heap.size, 0, none⟩) 1 1) 1 (oneCells x v) :=
  ⟨_, _, rfl, Nat.le_refl _, fun _ => ⟨w.heap.size, 0, rfl, trivial, (Blk.new w TOne (oneCells x v)).lt, fun j y hy => by rw [Nat.zero_add]; exact (Blk.new w TOne (oneCells x v)).cellS hy⟩⟩
theorem one_one (x : One) {v : Value} {ll : List (List Int)} {G H : Nat → Prop} {w : World} (h : RdBB G H w v ll) : ∀ u ∈ oneCells x v, u.oneCell' = true := by
  obtain ⟨a, c, rfl⟩ := rdbb_form h
  exact oneCells_one x rfl
/-- Rows of one's own lie behind the base. -/
theorem Ones.base {N : Nat} {R : Nat → Prop} {w : World} {u : Value} {l : List One} (h : Ones N R w u l) : ∀ b, u.ownBlock = some b → N ≤ b := by
  obtain ⟨us, _, ⟨_, ⟨rfl, _⟩ | ⟨g, cap, cur, rfl, hbase, _⟩⟩, _⟩ := h
  · intro b hb; cases hb
  · intro b hb
    have : g = b := by simpa [Value.ownBlock] using hb
    omega
section
variable {w W : World} {br : Nat} {c : Cf} {now : Int} {l l2 : List One} {R : Nat → Prop} {conf : List Value} {u out : Value}
/-- Behind what changes the reference's cache. -/
def RNext (M : Nat) (w : World) (br : Nat) (c : Cf) (now : Int) (l : List One) (R : Nat → Prop) (w' : World) : Prop :=
  Fr (fun b => R b ∧ ¬ IsTag TBs w b) w w' ∧ RRep w' br c now l (fun b => (R b ∨ M ≤ b) ∧ b < w'.heap.size)
theorem RAt.close (h : RAt w br c now l R conf u) {M : Nat} (hM : M ≤ w.heap.size) (hfr : Fr Nil w W) (hO : Ones w.heap.size (fun b => R b ∨ M ≤ b) W out l2) : RNext M w br c now l2 R (W.setCell ⟨br, 41, none⟩ out) := by
  have h8 : ¬ IsU8 w br := fun h8 => by have := h.blk.tag.uniq h8; revert this; decide
  have hb := h.blk.fr hfr (fun e => e)
  have hnt : ¬ IsTag TBs w br := fun ht => by have := h.blk.tag.uniq ht; revert this; decide
  have hF : Fr (fun b => R b ∧ ¬ IsTag TBs w b) w (W.setCell ⟨br, 41, none⟩ out) := (hfr.mono (fun _ _ e => e.elim)).setCell (fun _ => ⟨⟨h.rb, hnt⟩, h8⟩) _
  have hW : Fr (fun b => b = br) W (W.setCell ⟨br, 41, none⟩ out) := (Fr.refl (fun b => b = br) W).setCell (p := ⟨br, 41, none⟩) (fun _ => ⟨rfl, fun (h9 : IsU8 W br) => by have := hb.tag.uniq h9; revert this; decide⟩) _
  have hnu : ∀ b, out.ownBlock = some b → ¬ b = br := fun b hb' e => by have := (hO.tag b hb').uniq (e ▸ hb.tag); revert this; decide
  refine ⟨hF, conf, out, ?_⟩
  have hs : (W.setCell ⟨br, 41, none⟩ out).heap.size = W.heap.size := by simp
  have hsw := hfr.size
  have hO2 : Ones w.heap.size (fun b => (R b ∨ M ≤ b) ∧ b < (W.setCell ⟨br, 41, none⟩ out).heap.size) (W.setCell ⟨br, 41, none⟩ out) out l2 :=
    hO.fr hW hnu (fun b _ ht _ e => by subst e; have := hb.tag.uniq ht; revert this; decide) (fun b hlt hb => ⟨hb, by rw [hs]; exact hlt⟩)
  have hO3 := hO2
  obtain ⟨us, o1, o2, o3⟩ := hO2
  refine ⟨h.cok, ?_, ⟨us, o1, ownsRow_rebase o2 (fun _ _ => Nat.zero_le _), o3⟩, ⟨.inl h.rb, by rw [hs]; exact hb.lt⟩, fun b hb' => ⟨.inr (Nat.le_trans hM (hO.base b hb')), (hO3.tag b hb').lt⟩, fun b hb => hb.2⟩
  have := hb.set 41 out
  rw [List.set_append_right _ _ (by rw [h.cok.len]; omega), h.cok.len] at this
  exact this
theorem RRep.mono {R' : Nat → Prop} (h : RRep w br c now l R) (hR : ∀ b, R b → R' b) (hlt : ∀ b, R' b → b < w.heap.size) : RRep w br c now l R' := by
  obtain ⟨conf, u, h⟩ := h
  exact ⟨conf, u, h.cok, h.blk, h.row.fr (Fr.refl Nil w) (fun _ _ e => e) (fun _ _ _ _ e => e) (fun b _ hb => hR b hb), hR _ h.rb, fun b hb => hR b (h.ru b hb), hlt⟩
theorem RNext.from {M : Nat} {W w' : World} {l2 : List One} (h : RNext M W br c now l2 R w') (hf : Fr Nil w W) : RNext M w br c now l2 R w' :=
  ⟨(hf.mono (fun _ _ e => e.elim)).trans h.1 (fun b _ hs => ⟨hs.1, fun ht => hs.2 (hf.tag _ _ ht)⟩), h.2⟩
/-- One change behind another. -/
theorem RNext.then {M N : Nat} {w1 w2 : World} {now1 now2 : Int} {l1 l2 : List One} (h : RNext N w br c now1 l1 R w1) (hN : N = w.heap.size) (hR : ∀ b, R b → b < w.heap.size) (hM : M ≤ w1.heap.size)
    (k : RNext M w1 br c now2 l2 (fun b => (R b ∨ N ≤ b) ∧ b < w1.heap.size) w2) (hMw : w.heap.size ≤ M) : RNext N w br c now2 l2 R w2 := by
  subst hN
  refine ⟨h.1.trans k.1 (fun b hb hs => ?_), k.2.mono (fun b hb => ?_) (fun b hb => hb.2)⟩
  · have h1 : R b := by
      rcases hs.1.1 with e | e
      · exact e
      · omega
    exact ⟨h1, fun ht => hs.2 (h.1.tag _ _ ht)⟩
  · rcases hb.1 with e | e
    · exact ⟨e.1, hb.2⟩
    · exact ⟨.inr (by omega), hb.2⟩
end
end Go.Proofs.Ytaokmbmimogdgaa
