/- The law's own map of waiting frames. -/
import Derived.Test.YtaokmbmimogdgaaKeepLaws
import Derived.Test.YtaokmbmimogdgaaDeeds
namespace Go.Proofs.Ytaokmbmimogdgaa
open Go.RowKit Go.ChangeMaps

def keysOf (kvs : List ((Int × Int) × Value)) : List (Int × Int) := kvs.map (·.1)
theorem idx_keys {kvs kvs' : List ((Int × Int) × Value)} (h : keysOf kvs' = keysOf kvs) (q : Int × Int) : idx kvs' q = idx kvs q := by
  rw [← idx_map, ← idx_map]
  unfold keysOf at h
  rw [h]
theorem keys_set {kvs : List ((Int × Int) × Value)} {p : Int × Int} {j : Nat} (h : idx kvs p = some j) (v : Value) : keysOf (kvs.set j (p, v)) = keysOf kvs := by
  obtain ⟨u, hu⟩ := idx_some h
  unfold keysOf
  rw [List.map_set]
  apply List.ext_getElem?
  intro i
  rw [List.getElem?_set]
  by_cases hi : j = i
  · subst hi
    obtain ⟨h1, h2⟩ := List.getElem?_eq_some_iff.1 hu
    simp [h1, h2]
  · simp [hi]
theorem look_upd (kvs : List ((Int × Int) × Value)) (p : Int × Int) (v : Value) (q : Int × Int) (z : Value) : look (upd kvs p v) q z = if q = p then v else look kvs q z := by
  unfold upd
  cases hi : idx kvs p with
  | some j =>
    simp only
    have hk := idx_keys (keys_set hi v) q
    obtain ⟨u, hu⟩ := idx_some hi
    have hj := (List.getElem?_eq_some_iff.1 hu).1
    by_cases hq : q = p
    · subst hq
      rw [if_pos rfl]
      unfold look
      rw [hk, hi]
      simp [hj]
    · rw [if_neg hq]
      unfold look
      rw [hk]
      cases hx : idx kvs q with
      | none => rfl
      | some i =>
        have hne : j ≠ i := by
          rintro rfl
          obtain ⟨u2, hu2⟩ := idx_some hx
          rw [hu] at hu2
          cases hu2
          exact hq rfl
        simp [List.getElem?_set, hne]
  | none =>
    simp only
    by_cases hq : q = p
    · subst hq
      rw [if_pos rfl]
      unfold look
      rw [idx_push_new hi]
      simp
    · rw [if_neg hq]
      unfold look idx
      rw [List.findIdx?_append]
      cases hx : List.findIdx? (fun x : (Int × Int) × Value => q == x.1) kvs with
      | none => simp [hq]
      | some i =>
        have := (List.findIdx?_eq_some_iff_getElem.1 hx).1
        simp [List.getElem?_append_left this]
theorem nodup_upd {kvs : List ((Int × Int) × Value)} (h : (keysOf kvs).Nodup) (p : Int × Int) (v : Value) : (keysOf (upd kvs p v)).Nodup := by
  unfold upd
  cases hi : idx kvs p with
  | some j => simp only; rw [keys_set hi]; exact h
  | none =>
    simp only
    unfold keysOf at *
    rw [List.map_append, List.nodup_append]
    refine ⟨h, by simp, fun a ha b hb => ?_⟩
    simp at hb
    subst hb
    rintro rfl
    obtain ⟨x, hx, rfl⟩ := List.mem_map.1 ha
    have := List.findIdx?_eq_none_iff.1 hi x hx
    simp at this
theorem look_del {kvs : List ((Int × Int) × Value)} (h : (keysOf kvs).Nodup) (p q : Int × Int) (z : Value) : look (del kvs p) q z = if q = p then z else look kvs q z := by
  have val : ∀ (l : List ((Int × Int) × Value)), (keysOf l).Nodup → ∀ u, (q, u) ∈ l → look l q z = u := by
    intro l hl u hu
    cases hx : idx l q with
    | none =>
      have := List.findIdx?_eq_none_iff.1 hx _ hu
      simp at this
    | some i =>
      obtain ⟨u2, hu2⟩ := idx_some hx
      obtain ⟨j, hj⟩ := List.mem_iff_getElem?.1 hu
      have e1 : (keysOf l)[i]? = some q := by unfold keysOf; rw [List.getElem?_map, hu2]; rfl
      have e2 : (keysOf l)[j]? = some q := by unfold keysOf; rw [List.getElem?_map, hj]; rfl
      obtain ⟨i1, g1⟩ := List.getElem?_eq_some_iff.1 e1
      obtain ⟨j1, g2⟩ := List.getElem?_eq_some_iff.1 e2
      have : i = j := (List.getElem_inj hl).1 (g1.trans g2.symm)
      subst this
      rw [hu2] at hj
      cases hj
      unfold look
      rw [hx]
      simp [hu2]
  have non : ∀ (l : List ((Int × Int) × Value)), (∀ x ∈ l, x.1 ≠ q) → look l q z = z := by
    intro l hl
    have : idx l q = none := by
      rw [idx, List.findIdx?_eq_none_iff]
      intro x hx
      simpa using fun e => hl x hx e.symm
    unfold look
    rw [this]; rfl
  unfold del
  cases hi : idx kvs p with
  | none =>
    simp only
    by_cases hq : q = p
    · subst hq
      rw [if_pos rfl]
      refine non _ (fun x hx e => ?_)
      have := List.findIdx?_eq_none_iff.1 hi x hx
      simp [e] at this
    · rw [if_neg hq]
  | some j =>
    simp only
    obtain ⟨u, hu⟩ := idx_some hi
    have he := erase_perm hu
    have hk : (keysOf kvs).Perm (p :: keysOf (kvs.eraseIdx j)) := by
      have := he.map (·.1)
      simpa [keysOf] using this
    have hn := hk.nodup_iff.1 h
    rw [List.nodup_cons] at hn
    by_cases hq : q = p
    · subst hq
      rw [if_pos rfl]
      exact non _ (fun x hx e => hn.1 (List.mem_map.2 ⟨x, hx, e⟩))
    · rw [if_neg hq]
      by_cases hx : ∃ u, (q, u) ∈ kvs
      · obtain ⟨u2, hu2⟩ := hx
        rw [val _ h u2 hu2]
        refine val _ hn.2 u2 ?_
        rcases List.mem_cons.1 (he.subset hu2) with e | e
        · cases e; exact absurd rfl hq
        · exact e
      · have hno : ∀ x ∈ kvs, x.1 ≠ q := fun x hx' e => hx ⟨x.2, by rw [← e]; exact hx'⟩
        rw [non _ hno, non _ (fun x hx' => hno x ((List.eraseIdx_sublist _ _).subset hx'))]
theorem nodup_del {kvs : List ((Int × Int) × Value)} (h : (keysOf kvs).Nodup) (p : Int × Int) : (keysOf (del kvs p)).Nodup := by
  unfold del
  cases hi : idx kvs p with
  | none => exact h
  | some j =>
    simp only
    unfold keysOf at *
    rw [map_erase]
    exact h.sublist (List.eraseIdx_sublist _ _)

theorem upd_upd (kvs : List ((Int × Int) × Value)) (p : Int × Int) (a b : Value) : upd (upd kvs p a) p b = upd kvs p b := by
  cases hi : idx kvs p with
  | some j =>
    have h1 : upd kvs p a = kvs.set j (p, a) := by unfold upd; rw [hi]
    have h2 : upd kvs p b = kvs.set j (p, b) := by unfold upd; rw [hi]
    rw [h1, h2]
    unfold upd
    rw [idx_set hi]
    simp
  | none =>
    have h1 : upd kvs p a = kvs ++ [(p, a)] := by unfold upd; rw [hi]
    have h2 : upd kvs p b = kvs ++ [(p, b)] := by unfold upd; rw [hi]
    rw [h1, h2]
    unfold upd
    rw [idx_push_new hi]
    simp

def nilS : Value := .slice none 0 0
/-- A row of rows of bytes of one's own; the bytes lie below N0. -/
def RowAt (N0 : Nat) (W : World) (u : Value) (ll : List (List Int)) : Prop :=
  ∃ vs, vs.length = ll.length ∧ W.ownsRow N0 TBs 1 u ll.length vs ∧ ∀ (i : Nat) (v : Value) (l : List Int), vs[i]? = some v → ll[i]? = some l → RdB (fun b => b < N0) W v l
theorem RowAt.nil (N0 : Nat) (W : World) : RowAt N0 W nilS [] := ⟨[], rfl, World.ownsRow_nil _ _ _ _, fun i v l h => by simp at h⟩
theorem RowAt.fr {N0 : Nat} {W W' : World} {u : Value} {ll : List (List Int)} {S : Nat → Prop} (h : RowAt N0 W u ll) (hf : Fr S W W') (hS : ∀ b, S b → N0 ≤ b) (hn : ∀ b, u.ownBlock = some b → ¬ S b) : RowAt N0 W' u ll := by
  obtain ⟨vs, h1, h2, h3⟩ := h
  exact ⟨vs, h1, hf.ownsRow h2 hn, fun i v l a b => (h3 i v l a b).fr hf (fun b _ hb e => by have := hS b e; omega)⟩
theorem RowAt.base {N0 : Nat} {W : World} {u : Value} {ll : List (List Int)} (h : RowAt N0 W u ll) : ∀ b, u.ownBlock = some b → N0 ≤ b ∧ b < W.heap.size ∧ IsTag TBs W b := by
  obtain ⟨vs, _, h2, _⟩ := h
  intro b hb
  refine ⟨?_, (ownsRow_tag h2 b hb).lt, ownsRow_tag h2 b hb⟩
  obtain ⟨_, ⟨rfl, _⟩ | ⟨g, cap, cur, rfl, hbase, _⟩⟩ := h2
  · cases hb
  · have : g = b := by simpa [Value.ownBlock] using hb
    omega
theorem RowAt.bb {N0 : Nat} {W : World} {u : Value} {ll : List (List Int)} (h : RowAt N0 W u ll) : RdBB (fun _ => True) (fun b => b < N0) W u ll := by
  obtain ⟨vs, h1, h2, h3⟩ := h
  exact ⟨vs, h1, RdS.of_own h2 (fun _ _ => trivial), h3⟩
theorem RowAt.form {N0 : Nat} {W : World} {u : Value} {ll : List (List Int)} (h : RowAt N0 W u ll) : ∃ a c, u = .slice a ll.length c := by
  obtain ⟨vs, h1, ⟨_, ⟨rfl, h0⟩ | ⟨g, cap, cur, rfl, _⟩⟩, h3⟩ := h
  · exact ⟨none, 0, by rw [h0]⟩
  · exact ⟨_, _, rfl⟩

/-- Block r is the law's map; what it holds at p reads as m p; no two rows share a block, none lies in F. -/
structure LM (N0 : Nat) (F : Nat → Prop) (W : World) (r : Nat) (kvs : List ((Int × Int) × Value)) (m : (Int × Int) → List (List Int)) : Prop where
  map : MapIs W r kvs
  nd : (keysOf kvs).Nodup
  row : ∀ p, RowAt N0 W (look kvs p nilS) (m p)
  two : ∀ p q b, p ≠ q → (look kvs p nilS).ownBlock = some b → (look kvs q nilS).ownBlock ≠ some b
  nF : ∀ p b, (look kvs p nilS).ownBlock = some b → ¬ F b
  rF : ¬ F r

section
variable {N0 r : Nat} {F F' : Nat → Prop} {W W' : World} {kvs : List ((Int × Int) × Value)} {m m' : (Int × Int) → List (List Int)}
theorem LM.new (hF : ∀ b, F b → b < W.heap.size) : LM N0 F (W.alloc (.map #[] 0)) W.heap.size [] (fun _ => []) :=
  ⟨MapIs.new W, List.nodup_nil, fun p => RowAt.nil _ _, fun _ _ _ _ h => (by cases h), fun _ _ h => (by cases h), fun h => (by have := hF _ h; omega)⟩
theorem LM.fr (h : LM N0 F W r kvs m) {S : Nat → Prop} (hf : Fr S W W') (hS : ∀ b, S b → N0 ≤ b) (hr : ¬ S r) (hn : ∀ p b, (look kvs p nilS).ownBlock = some b → ¬ S b) : LM N0 F W' r kvs m :=
  ⟨h.map.kept (hf.block _ h.map.lt hr), h.nd, fun p => (h.row p).fr hf hS (hn p), h.two, h.nF, h.rF⟩
theorem LM.frN (h : LM N0 F W r kvs m) (hf : Fr Nil W W') : LM N0 F W' r kvs m := h.fr hf (fun _ e => e.elim) (fun e => e) (fun _ _ _ e => e)
theorem LM.frF (h : LM N0 F W r kvs m) (hf : Fr F W W') (hF : ∀ b, F b → N0 ≤ b) : LM N0 F W' r kvs m := h.fr hf hF h.rF h.nF
theorem LM.toF (h : LM N0 F W r kvs m) (hF : ∀ b, F' b → F b ∨ W.heap.size ≤ b) : LM N0 F' W r kvs m :=
  ⟨h.map, h.nd, h.row, h.two, fun p b hb h' => by
    rcases hF b h' with e | e
    · exact h.nF p b hb e
    · have := ((h.row p).base b hb).2.1; omega, fun h' => by
    rcases hF r h' with e | e
    · exact h.rF e
    · have := h.map.lt; omega⟩
theorem LM.next (h : LM N0 F W r kvs m) (hf : Fr F W W') (hF : ∀ b, F b → N0 ≤ b) (hn : ∀ b, F' b → F b ∨ W.heap.size ≤ b) : LM N0 F' W' r kvs m := (h.toF hn).fr hf hF h.rF h.nF
theorem LM.ext (h : LM N0 F W r kvs m) (he : ∀ p, m' p = m p) : LM N0 F W r kvs m' := ⟨h.map, h.nd, fun p => by rw [he]; exact h.row p, h.two, h.nF, h.rF⟩
/-- What is stored at p. -/
theorem LM.put (h : LM N0 F W r kvs m) {S : Nat → Prop} {W' : World} {p : Int × Int} {v : Value} {ll : List (List Int)} (hf : Fr S W W') (hS : ∀ b, b < W.heap.size → S b → b = r ∨ (look kvs p nilS).ownBlock = some b)
    (hN : ∀ b, S b → N0 ≤ b) (hm : MapIs W' r (upd kvs p v)) (hrow : RowAt N0 W' v ll) (hv : ∀ b, v.ownBlock = some b → (look kvs p nilS).ownBlock = some b ∨ W.heap.size ≤ b) (hFl : ∀ b, F b → b < W.heap.size) :
    LM N0 F W' r (upd kvs p v) (fun q => if q = p then ll else m q) := by
  have hne : ∀ q b, q ≠ p → (look kvs q nilS).ownBlock = some b → ¬ S b := by
    intro q b hq hb hs
    obtain ⟨h1, h2, h3⟩ := (h.row q).base b hb
    rcases hS b h2 hs with e | e
    · subst e; exact h.map.noTag _ h3
    · exact h.two q p b hq hb e
  refine ⟨hm, nodup_upd h.nd p v, ?_, ?_, ?_, h.rF⟩
  · intro q
    rw [look_upd]
    by_cases hq : q = p
    · rw [if_pos hq]; simp only [hq, if_true]; exact hrow
    · rw [if_neg hq]; simp only [hq, if_false]
      exact (h.row q).fr hf hN (fun b hb => hne q b hq hb)
  · intro q q' b hqq
    rw [look_upd, look_upd]
    by_cases hq : q = p
    · rw [if_pos hq, if_neg (fun e => hqq (hq.trans e.symm))]
      intro h1 h2
      rcases hv b h1 with e | e
      · exact h.two p q' b (fun e' => hqq (hq.trans e')) e h2
      · have := ((h.row q').base b h2).2.1; omega
    · rw [if_neg hq]
      by_cases hq' : q' = p
      · rw [if_pos hq']
        intro h1 h2
        rcases hv b h2 with e | e
        · exact h.two q p b hq h1 e
        · have := ((h.row q).base b h1).2.1; omega
      · rw [if_neg hq']
        exact h.two q q' b hqq
  · intro q b
    rw [look_upd]
    by_cases hq : q = p
    · rw [if_pos hq]
      intro h1 h2
      rcases hv b h1 with e | e
      · exact h.nF p b e h2
      · have := hFl b h2; omega
    · rw [if_neg hq]; exact h.nF q b
theorem LM.drop (h : LM N0 F W r kvs m) {W' : World} {p : Int × Int} (hf : Fr (fun b => b = r) W W') (hN : N0 ≤ r) (hm : MapIs W' r (del kvs p)) : LM N0 F W' r (del kvs p) (fun q => if q = p then [] else m q) := by
  have hne : ∀ q b, (look kvs q nilS).ownBlock = some b → ¬ b = r := by
    intro q b hb e
    subst e
    exact h.map.noTag _ ((h.row q).base b hb).2.2
  have hl : ∀ q, look (del kvs p) q nilS = if q = p then nilS else look kvs q nilS := fun q => look_del h.nd p q nilS
  refine ⟨hm, nodup_del h.nd p, ?_, ?_, ?_, h.rF⟩
  · intro q
    rw [hl]
    by_cases hq : q = p
    · rw [if_pos hq]; simp only [hq, if_true]; exact RowAt.nil _ _
    · rw [if_neg hq]; simp only [hq, if_false]
      exact (h.row q).fr hf (fun b e => by omega) (fun b hb => hne q b hb)
  · intro q q' b hqq
    rw [hl, hl]
    by_cases hq : q = p
    · rw [if_pos hq]; intro h1; cases h1
    · rw [if_neg hq]
      by_cases hq' : q' = p
      · rw [if_pos hq']; intro _ h2; cases h2
      · rw [if_neg hq']; exact h.two q q' b hqq
  · intro q b
    rw [hl]
    by_cases hq : q = p
    · rw [if_pos hq]; intro h1; cases h1
    · rw [if_neg hq]; exact h.nF q b
/-- 'waits[p] = append(waits[p], b)': behind the entry, the append and the store. -/
theorem LM.store {w3 w4 : World} {m : (Int × Int) → List (List Int)} (h : LM N0 F w3 r kvs m) (hF : ∀ b, F b → b < w3.heap.size) (hr0 : N0 ≤ r) (hN0 : N0 ≤ w3.heap.size) (p : Int × Int) {u2 v2 : Value} {b : List Int} (hb : RdB (fun b => b < N0) w3 u2 b) {es1 es2 : Array MapEntry} {ck1 ck2 : Nat} {vs : List Value} (o : Obj)
    (hvl : vs.length = (m p).length) (hvs : ∀ (i : Nat) (v : Value) (l : List Int), vs[i]? = some v → (m p)[i]? = some l → RdB (fun b => b < N0) w3 v l)
    (hown : w4.ownsRow N0 TBs 1 v2 ((m p).length + 1) (vs ++ [u2])) (hg : Gw (setBlock (w3.alloc o) r (.map es1 ck1)) w4 (look kvs p nilS).ownBlock)
    (hat : v2.ownBlock = (look kvs p nilS).ownBlock ∨ v2.ownBlock = some (setBlock (w3.alloc o) r (.map es1 ck1)).heap.size) (hm : MapIs (setBlock w4 r (.map es2 ck2)) r (upd kvs p v2)) :
    LM N0 F (setBlock w4 r (.map es2 ck2)) r (upd kvs p v2) (fun q => if q = p then m p ++ [b] else m q) ∧ Fr (fun b => b = r ∨ (look kvs p nilS).ownBlock = some b) w3 (setBlock w4 r (.map es2 ck2)) := by
  have hrl := h.map.lt
  obtain ⟨es, ck, hes⟩ := h.map.map
  have hes1 : (w3.alloc o).heap[r]? = some (.map es ck) := (Below.heap_alloc _ _ _ hrl).trans hes
  have hpb := (h.row p).base
  have hrp : ∀ b, (look kvs p nilS).ownBlock = some b → b ≠ r := fun b hb e => by subst e; exact h.map.noTag _ (hpb b hb).2.2
  have may1 : May (fun b => b = r ∨ (look kvs p nilS).ownBlock = some b) w3 r := fun _ => ⟨.inl rfl, h.map.noTag _⟩
  have f1 : Fr (fun b => b = r ∨ (look kvs p nilS).ownBlock = some b) w3 (setBlock (w3.alloc o) r (.map es1 ck1)) := ((Fr.refl _ w3).alloc o).setMap hes1 may1 _
  have f2 : Fr (fun b => b = r ∨ (look kvs p nilS).ownBlock = some b) w3 w4 := f1.grown hg (fun k hk _ => ⟨.inr hk, fun h8 => by have := (hpb k hk).2.2.uniq h8; revert this; decide⟩)
  have hsz1 : (setBlock (w3.alloc o) r (.map es1 ck1)).heap.size = w3.heap.size + 1 := by simp [setBlock]
  have hr4 : w4.heap[r]? = some (.map es1 ck1) := by
    have h0 : (setBlock (w3.alloc o) r (.map es1 ck1)).heap[r]? = some (.map es1 ck1) := heap_setBlock_same hes1 _
    rw [hg.block r (by rw [hsz1]; omega) (fun e => hrp r e.symm rfl)]
    exact h0
  have f3 : Fr (fun b => b = r ∨ (look kvs p nilS).ownBlock = some b) w3 (setBlock w4 r (.map es2 ck2)) := f2.setMap hr4 may1 _
  have f43 : Fr (fun b => b = r) w4 (setBlock w4 r (.map es2 ck2)) := (Fr.refl (fun b => b = r) w4).setMap hr4 (fun _ => ⟨rfl, fun h8 => by obtain ⟨cu, fr, hh⟩ := h8; rw [hr4] at hh; cases hh⟩) _
  have hv2 : ∀ b, v2.ownBlock = some b → (look kvs p nilS).ownBlock = some b ∨ w3.heap.size ≤ b := fun b hb => by
    rcases hat with e | e
    · left; rw [← e]; exact hb
    · right; rw [e, hsz1] at hb; cases hb; omega
  have hS : ∀ b, (b = r ∨ (look kvs p nilS).ownBlock = some b) → N0 ≤ b := fun b hb => by
    rcases hb with rfl | hb
    · exact hr0
    · exact (hpb b hb).1
  have hown2 : (setBlock w4 r (.map es2 ck2)).ownsRow N0 TBs 1 v2 ((m p).length + 1) (vs ++ [u2]) := f43.ownsRow hown (fun b hb e => by
    subst e
    have := ownsRow_tag hown b hb
    obtain ⟨cu, fr, hh⟩ := this
    rw [hr4] at hh; cases hh)
  have hlow : ∀ {v : Value} {l : List Int}, RdB (fun b => b < N0) w3 v l → RdB (fun b => b < N0) (setBlock w4 r (.map es2 ck2)) v l := fun h => h.fr f3 (fun b _ hb e => by have := hS b e; omega)
  refine ⟨h.put f3 (fun b _ e => e) hS hm ⟨vs ++ [u2], by simp [hvl], by simpa using hown2, ?_⟩ hv2 hF, f3⟩
  intro i v l h1 h2
  by_cases hi : i < vs.length
  · rw [List.getElem?_append_left hi] at h1
    rw [List.getElem?_append_left (by omega)] at h2
    exact hlow (hvs i v l h1 h2)
  · rw [List.getElem?_append_right (by omega)] at h1
    rw [List.getElem?_append_right (by omega)] at h2
    have hi0 : i - vs.length = 0 := by
      have := (List.getElem?_eq_some_iff.1 h1).1
      simp at this; omega
    have hi1 : i - (m p).length = 0 := by omega
    rw [hi0] at h1
    rw [hi1] at h2
    simp at h1 h2
    subst h1; subst h2
    exact hlow hb
end

end Go.Proofs.Ytaokmbmimogdgaa
