/- A range over a map keyed by api.Place, whatever its element's type: which keys have come; the iterator behind maps.Keys. -/
import Derived.Test.YtaokmbmimogdgaaMapPlace
import Derived.Maps.RangeRun
import Derived.RangeFuncNested
import Derived.RangeFuncBound
import Derived.RangeFuncCalls
import Derived.RangeFuncLeaves
import Derived.Shelf.Abstract
import Derived.WalkKit
import Derived.OwnWalkIn
import Derived.TacticsInMore
import Derived.LoopNIn
import Derived.LoopIn
import Derived.Sort.MapsRangeIn
namespace Go.Proofs.Ytaokmbmimogdgaa
open Go.RowKit Go.ChangeMaps Go.Shelf Go.MapKept

theorem kv_inj {p q : Int × Int} (h : kv p = kv q) : p = q := by
  obtain ⟨a, b⟩ := p
  obtain ⟨c, d⟩ := q
  unfold kv at h
  simp at h
  rw [h.1, h.2]

/-- Block r walks over the map at bm, which reads as kvs; the keys 'gone' have come. -/
def ItAt (w : World) (bm r : Nat) (kvs : List ((Int × Int) × Value)) (gone : List (Int × Int)) : Prop :=
  ∃ es ck since seen c0, w.heap[bm]? = some (.map es ck) ∧ es.toList.map (fun e => (e.key, e.val)) = kvs.map (fun q => (kv q.1, q.2)) ∧ Born es ck ∧
    w.heap[r]? = some (.mapIter (some bm) since seen c0) ∧ (∀ x ∈ es.toList, x.born < since) ∧ since ≤ c0 ∧ since ≤ ck ∧ gone.Nodup ∧ gone.length + (leftOf es seen).size ≤ kvs.length ∧
    (∀ p ∈ gone, p ∈ kvs.map (·.1)) ∧ ∀ e ∈ es.toList, ∀ p, e.key = kv p → (seen.contains e.born = true ↔ p ∈ gone)

theorem ItAt.map {w : World} {bm r : Nat} {kvs : List ((Int × Int) × Value)} {gone : List (Int × Int)} (h : ItAt w bm r kvs gone) : MapIs w bm kvs := by
  obtain ⟨es, ck, since, seen, c0, hb, hk, hB, _⟩ := h
  exact ⟨es, ck, hb, hk, hB⟩
theorem ItAt.walk {w : World} {bm r : Nat} {kvs : List ((Int × Int) × Value)} {gone : List (Int × Int)} (h : ItAt w bm r kvs gone) : ∃ o : Obj, w.heap[r]? = some o ∧ o.isWalk = true := by
  obtain ⟨es, ck, since, seen, c0, _, _, _, hr, _⟩ := h
  exact ⟨_, hr, rfl⟩
theorem ItAt.walks {w w' : World} {bm r : Nat} {kvs : List ((Int × Int) × Value)} {gone : List (Int × Int)} (h : ItAt w bm r kvs gone) (hk : KeepsWalks w w') : ItAt w' bm r kvs gone := by
  obtain ⟨es, ck, since, seen, c0, hb, h1, h2, hr, rest⟩ := h
  exact ⟨es, ck, since, seen, c0, hk.same _ _ hb rfl, h1, h2, hk.same _ _ hr rfl, rest⟩
def leftAt (w : World) (bm r : Nat) : Nat :=
  match w.heap[bm]?, w.heap[r]? with
  | some (.map es _), some (.mapIter _ _ seen _) => (leftOf es seen).size
  | _, _ => 0
theorem leftAt_walks {w w' : World} {bm r : Nat} {kvs : List ((Int × Int) × Value)} {gone : List (Int × Int)} (h : ItAt w bm r kvs gone) (hk : KeepsWalks w w') : leftAt w' bm r = leftAt w bm r := by
  obtain ⟨es, ck, since, seen, c0, hb, h1, h2, hr, rest⟩ := h
  unfold leftAt
  rw [hk.same _ _ hb rfl, hk.same _ _ hr rfl, hb, hr]

theorem MapIs.range {T E : TypeId} {w : World} {bm : Nat} {kvs : List ((Int × Int) × Value)} (h : MapIs w bm kvs) (hT : Try.prog.underlying T = some (.map 39 E)) :
    ∃ w', (Instr.range T (.map (some bm))).run Try.prog w = .ok (.pointer (some ⟨w.heap.size, 0, none⟩)) w' ∧ ItAt w' bm w.heap.size kvs [] ∧ w.grownBy w' none := by
  obtain ⟨es, ck, hb, hk, hB⟩ := h
  have hlt := (Array.getElem?_eq_some_iff.1 hb).1
  refine ⟨_, run_range_map w T _ E bm es ck hT hb, ⟨es, ck, ck, #[], ck, ((MapKept.heap_alloc w _).2 bm hlt).trans hb, hk, hB, (MapKept.heap_alloc w _).1, hB.2, Nat.le_refl _, Nat.le_refl _, List.nodup_nil, ?_, by simp, by simp⟩, World.grownBy_alloc w _ none⟩
  have := kvs_len hk
  rw [← this]
  simpa [leftOf] using Array.size_filter_le (p := fun _ => true) (xs := es)

theorem ItAt.next {w : World} {bm r : Nat} {kvs : List ((Int × Int) × Value)} {gone : List (Int × Int)} (h : ItAt w bm r kvs gone) (hnd : (kvs.map (·.1)).Nodup) (ty : TypeId) :
    (gone.Perm (kvs.map (·.1)) ∧ (Instr.next (.pointer (some ⟨r, 0, none⟩)) false ty).run Try.prog w = .ok (.tuple #[.bool false]) w) ∨
    ∃ p v w', gone.length < kvs.length ∧ (Instr.next (.pointer (some ⟨r, 0, none⟩)) false ty).run Try.prog w = .ok (.tuple #[.bool true, kv p, v]) w' ∧ ItAt w' bm r kvs (gone ++ [p]) ∧ leftAt w' bm r < leftAt w bm r ∧ w.grownBy w' (some r) ∧
      (Instr.entry (.pointer (some ⟨r, 0, none⟩))).run Try.prog w' = .ok (.tuple #[kv p, v]) w' := by
  obtain ⟨es, ck, since, seen, c0, hb, hk, hB, hr, hold, hsc, hsk, hgn, hle, hsub, hiff⟩ := h
  have hne : r ≠ bm := by intro e; rw [e, hb] at hr; cases hr
  have keyOf : ∀ e ∈ es.toList, ∃ p, e.key = kv p ∧ p ∈ kvs.map (·.1) := by
    intro e he
    obtain ⟨j, hj⟩ := List.mem_iff_getElem?.1 he
    have h1 := kvs_key hk j
    rw [← Array.getElem?_toList, hj] at h1
    cases hq : kvs[j]? with
    | none => rw [hq] at h1; simp at h1
    | some q =>
      rw [hq] at h1
      simp at h1
      exact ⟨q.1, h1, List.mem_map.2 ⟨q, List.mem_of_getElem? hq, rfl⟩⟩
  rcases run_next_at (P := Try.prog) w ty r bm since c0 seen es ck hr hb hold hsc with ⟨h0, hrun⟩ | ⟨e, he, w1, hal, hrun⟩
  · refine Or.inl ⟨(List.perm_ext_iff_of_nodup hgn hnd).2 fun p => ⟨hsub p, fun hp => ?_⟩, hrun⟩
    obtain ⟨q, hq, rfl⟩ := List.mem_map.1 hp
    obtain ⟨j, hj⟩ := List.mem_iff_getElem?.1 hq
    have h1 := kvs_key hk j
    rw [hj] at h1
    cases hx : es[j]? with
    | none => rw [hx] at h1; simp at h1
    | some x =>
      rw [hx] at h1
      simp at h1
      have hx' : x ∈ es.toList := List.mem_of_getElem? (by rw [Array.getElem?_toList]; exact hx)
      exact (hiff x hx' _ h1).1 (all_seen es seen h0 x hx')
  · obtain ⟨hem, hes⟩ := mem_left he
    obtain ⟨p, hep, hpm⟩ := keyOf e hem
    have hpg : p ∉ gone := fun hp => by have := (hiff e hem p hep).2 hp; rw [this] at hes; cases hes
    have hr1 : w1.heap[r]? = some (.mapIter (some bm) since seen c0) := by rcases hal with rfl | rfl <;> exact hr
    have hb1 : w1.heap[bm]? = some (.map es ck) := by rcases hal with rfl | rfl <;> exact hb
    have hset := heap_set (o' := .mapIter (some bm) since (seen.push e.born) ck) hr1
    have hb' : (setBlock w1 r (.mapIter (some bm) since (seen.push e.born) ck)).heap[bm]? = some (.map es ck) := (hset.2 bm (fun e1 => hne e1.symm)).trans hb1
    have hls := left_shrinks es seen e he
    have hone : ∀ x ∈ es.toList, x.key = kv p → x = e := by
      intro x hx hxp
      obtain ⟨i, hi⟩ := List.mem_iff_getElem?.1 hx
      obtain ⟨j, hj⟩ := List.mem_iff_getElem?.1 hem
      have h1 := kvs_key hk i
      have h2 := kvs_key hk j
      rw [← Array.getElem?_toList, hi] at h1
      rw [← Array.getElem?_toList, hj] at h2
      have g1 : (kvs.map (·.1))[i]? = some p := by
        rw [List.getElem?_map]
        cases hq : kvs[i]? with
        | none => rw [hq] at h1; simp at h1
        | some q => rw [hq] at h1; simp at h1; rw [hxp] at h1; simp [kv_inj h1]
      have g2 : (kvs.map (·.1))[j]? = some p := by
        rw [List.getElem?_map]
        cases hq : kvs[j]? with
        | none => rw [hq] at h2; simp at h2
        | some q => rw [hq] at h2; simp at h2; rw [hep] at h2; simp [kv_inj h2]
      obtain ⟨hi', gi⟩ := List.getElem?_eq_some_iff.1 g1
      obtain ⟨hj', gj⟩ := List.getElem?_eq_some_iff.1 g2
      have : i = j := (List.getElem_inj hnd).1 (gi.trans gj.symm)
      subst this
      rw [hi] at hj
      cases hj; rfl
    have hbi : ∀ x ∈ es.toList, x.born = e.born → x = e := by
      intro x hx hxe
      obtain ⟨i, hi⟩ := List.mem_iff_getElem?.1 hx
      obtain ⟨j, hj⟩ := List.mem_iff_getElem?.1 hem
      have g1 : (es.toList.map (·.born))[i]? = some e.born := by rw [List.getElem?_map, hi]; simp [hxe]
      have g2 : (es.toList.map (·.born))[j]? = some e.born := by rw [List.getElem?_map, hj]; rfl
      obtain ⟨hi', gi⟩ := List.getElem?_eq_some_iff.1 g1
      obtain ⟨hj', gj⟩ := List.getElem?_eq_some_iff.1 g2
      have : i = j := (List.getElem_inj hB.1).1 (gi.trans gj.symm)
      subst this
      rw [hi] at hj
      cases hj; rfl
    refine Or.inr ⟨p, e.val, _, by omega, by rw [hrun, hep],
      ⟨es, ck, since, seen.push e.born, ck, hb', hk, hB, hset.1, hold, hsk, hsk, ?_, by rw [List.length_append]; simp; omega, ?_, ?_⟩, ?_, ?_, ?_⟩
    · rw [List.nodup_append]
      exact ⟨hgn, by simp, fun a ha b hb => by simp at hb; subst hb; rintro rfl; exact hpg ha⟩
    · intro q hq
      rcases List.mem_append.1 hq with hq | hq
      · exact hsub q hq
      · simp at hq; subst hq; exact hpm
    · intro x hx q hxq
      rw [contains_push, Bool.or_eq_true, hiff x hx q hxq, List.mem_append, List.mem_singleton]
      constructor
      · rintro (h1 | h1)
        · exact Or.inl h1
        · have := hbi x hx (by simpa using h1)
          subst this
          exact Or.inr (kv_inj (hxq.symm.trans hep))
      · rintro (h1 | rfl)
        · exact Or.inl h1
        · have := hone x hx hxq
          subst this
          exact Or.inr (by simp)
    · unfold leftAt
      rw [hb', show (setBlock w1 r (.mapIter (some bm) since (seen.push e.born) ck)).heap[r]? = _ from hset.1, hb, hr]
      exact hls
    · rcases hal with rfl | rfl <;> exact ⟨rfl, rfl, rfl, by simp [setBlock], fun i _ hi => hset.2 i (fun e1 => hi (by rw [e1]))⟩
    · rw [← hep]
      exact run_entry_at _ r bm since seen es ck e hset.1 hb' hem hB.1

section
variable {F : Fence} {n : Nat} (w : World) {ops : Array Oper} {rest : List Oper} {o : Oper} {a : Act} {Q : Exit → Act → World → Prop}
theorem wpListIn_range_place (hg : o.guard = none) (m : Operand) (t : TypeId) (hop : o.op = Op.range t m) {E : TypeId} (ht : Try.prog.underlying t = some (.map 39 E)) (b : Nat) {kvs : List ((Int × Int) × Value)}
    (hm : a.eval m = .map (some b)) (hown : MapIs w b kvs)
    (hK : ∀ w', ItAt w' b w.heap.size kvs [] → w.grownBy w' none → wpListIn F n Try.prog ops Q rest (a.put o.dst (.pointer (some ⟨w.heap.size, 0, none⟩))) w') :
    wpListIn F n Try.prog ops Q (o :: rest) a w := by
  refine wpListIn_plain hg fun K' hK' => ?_
  obtain ⟨w', hrun, r1, r2⟩ := hown.range ht
  unfold Oper.wpIn
  refine ⟨?_, ?_⟩
  · simp [Oper.about, hop]
  · rw [Oper.semAt_plain F _ _ (by rw [hop]; intro c hc'; cases hc')]
    simp [execOp, hop, hm, hrun, Result.andThen]
    exact hK' _ _ (hK w' r1 r2)

theorem wpListIn_next_place (hg : o.guard = none) (it : Operand) (hop : o.op = Op.next it false) (b r : Nat) {kvs : List ((Int × Int) × Value)} {gone : List (Int × Int)} (hnd : (kvs.map (·.1)).Nodup)
    (hit : a.eval it = .pointer (some ⟨r, 0, none⟩)) (h : ItAt w b r kvs gone)
    (hDone : gone.Perm (kvs.map (·.1)) → wpListIn F n Try.prog ops Q rest (a.put o.dst (.tuple #[.bool false])) w)
    (hMore : ∀ (p : Int × Int) (v : Value) (w' : World), gone.length < kvs.length → ItAt w' b r kvs (gone ++ [p]) → leftAt w' b r < leftAt w b r → w.grownBy w' (some r) →
      (Instr.entry (.pointer (some ⟨r, 0, none⟩))).run Try.prog w' = .ok (.tuple #[kv p, v]) w' → wpListIn F n Try.prog ops Q rest (a.put o.dst (.tuple #[.bool true, kv p, v])) w') :
    wpListIn F n Try.prog ops Q (o :: rest) a w := by
  refine wpListIn_plain hg fun K' hK' => ?_
  unfold Oper.wpIn
  refine ⟨by simp [Oper.about, hop], ?_⟩
  rw [Oper.semAt_plain F _ _ (by rw [hop]; intro c hc'; cases hc')]
  rcases h.next hnd o.type with ⟨h0, hrun⟩ | ⟨p, v, w', hlt, hrun, hit', hms, hgr, hen⟩
  · simp [execOp, hop, hit, hrun, Result.andThen]
    exact hK' _ _ (hDone h0)
  · simp [execOp, hop, hit, hrun, Result.andThen]
    exact hK' _ _ (hMore p v w' hlt hit' hms hgr hen)
end

end Go.Proofs.Ytaokmbmimogdgaa
