/- Maps keyed by api.Place: what look-up, store, delete, len come to, the block's entries being known. -/
import Derived.Test.YtaokmbmimogdgaaSpec
import Derived.Test.YtaokmbmimogdgaaTypes
import Derived.Maps.Keyed
namespace Go.Proofs.Ytaokmbmimogdgaa
open Go.RowKit Go.ChangeMaps

/-- A place as a value. -/
def kv (p : Int × Int) : Value := .agg #[.int .i64 p.1, .int .u32 p.2]

theorem eq_place (w : World) (p q : Int × Int) : (Op.equal 39 (kv p) (kv q)).run Try.prog w = .ok (p == q) w := by
  obtain ⟨a, b⟩ := p
  obtain ⟨c, d⟩ := q
  have h1 : ((a, b) == (c, d)) = (a == c && b == d) := rfl
  rw [h1]
  unfold kv Op.equal Op.maxDepth
  go_simp
  by_cases e1 : a = c <;> by_cases e2 : b = d <;> simp [e1, e2]

theorem check_place (w : World) (e : Bool) (p : Int × Int) : (Instr.checkKey e 10000 39 (kv p)).run Try.prog w = .ok () w := by
  obtain ⟨a, b⟩ := p
  unfold kv
  kernel_rfl

/-- The entries' keys are the places ks, one behind the other. -/
def Keys (es : List MapEntry) (ks : List (Int × Int)) : Prop := es.map (·.key) = ks.map kv

theorem run_findAsking (w : World) (p : Int × Int) : ∀ (es : List MapEntry) (ks : List (Int × Int)) (i : Nat), Keys es ks →
    (Instr.findAsking 39 (kv p) es i).run Try.prog w = .ok ((ks.findIdx? (p == ·)).bind fun j => (es[j]?).map fun e => (i + j, e.val)) w
  | [], ks, i, h => by
    have : ks = [] := by cases ks with | nil => rfl | cons _ _ => simp [Keys] at h
    subst this
    simp [Instr.findAsking]
  | e :: es, [], i, h => by simp [Keys] at h
  | e :: es, q :: ks, i, h => by
    simp only [Keys, List.map_cons, List.cons.injEq] at h
    obtain ⟨hk, h⟩ := h
    have ih := run_findAsking w p es ks (i + 1) h
    simp only [Instr.findAsking, Sem.run_bind, hk, eq_place, Result.andThen_ok]
    by_cases hpq : (p == q) = true
    · simp [hpq, List.findIdx?_cons]
    · simp only [hpq, Bool.false_eq_true, if_false, ih, List.findIdx?_cons]
      congr 1
      cases List.findIdx? (fun x => p == x) ks with
      | none => rfl
      | some j => simp [Nat.add_comm, Nat.add_left_comm]

theorem under_place : ∃ fs, Try.prog.underlying 39 = some (.struct fs) := ⟨_, Try.underlying39⟩

theorem run_findKey (w : World) (p : Int × Int) (es : List MapEntry) (ks : List (Int × Int)) (h : Keys es ks) :
    (Instr.findKey 39 (kv p) es).run Try.prog w = .ok ((ks.findIdx? (p == ·)).bind fun j => (es[j]?).map fun e => (j, e.val)) w := by
  obtain ⟨fs, hu⟩ := under_place
  have hr := run_findAsking w p es ks 0 h
  simp only [Nat.zero_add] at hr
  simp only [Instr.findKey, Sem.run_bind, run_underlying hu, Result.andThen_ok]
  cases es with
  | nil =>
    have : ks = [] := by cases ks with | nil => rfl | cons _ _ => simp [Keys] at h
    subst this
    simp [Instr.findNow]
  | cons e es => simpa [Instr.findNow, Instr.sameNow, kv] using hr

/-- m[k] at a map of T (T's key is a place). -/
theorem run_lookup_place {T E : TypeId} (hT : Try.prog.underlying T = some (.map 39 E)) {z : Value} (hz : ∀ w, (zeroValue E).run Try.prog w = .ok z w) (w : World) (r : Nat) (es : Array MapEntry) (ck : Nat) (hr : w.heap[r]? = some (.map es ck))
    (ks : List (Int × Int)) (h : Keys es.toList ks) (p : Int × Int) :
    (Instr.lookup T (.map (some r)) (kv p) false).run Try.prog w = .ok (((ks.findIdx? (p == ·)).bind fun j => (es[j]?).map (·.val)).getD z) w := by
  simp only [Instr.lookup, Sem.run_bind, run_underlying hT, Result.andThen_ok]
  simp only [getObj, Sem.run, hr, Sem.run_bind, Result.andThen_ok, Sem.run_pure, check_place, run_findKey w p es.toList ks h]
  cases hf : ks.findIdx? (p == ·) with
  | none => simp [hz]
  | some j =>
    have hj : j < es.size := by
      have h1 := (List.findIdx?_eq_some_iff_getElem.1 hf).1
      have h2 : es.toList.length = ks.length := by simpa [Keys] using congrArg List.length h
      simp at h2; omega
    simp [hj]

/-- Stamps are told apart, and lie below the clock. -/
def Born (es : Array MapEntry) (ck : Nat) : Prop := (es.toList.map (·.born)).Nodup ∧ ∀ e ∈ es.toList, e.born < ck
/-- Block r of w is a map whose entries are kvs, in the order in which their keys came. -/
def MapIs (w : World) (r : Nat) (kvs : List ((Int × Int) × Value)) : Prop :=
  ∃ es ck, w.heap[r]? = some (.map es ck) ∧ es.toList.map (fun e => (e.key, e.val)) = kvs.map (fun q => (kv q.1, q.2)) ∧ Born es ck
def idx (kvs : List ((Int × Int) × Value)) (p : Int × Int) : Option Nat := kvs.findIdx? (fun q => p == q.1)
def look (kvs : List ((Int × Int) × Value)) (p : Int × Int) (z : Value) : Value := ((idx kvs p).bind fun j => (kvs[j]?).map (·.2)).getD z
def upd (kvs : List ((Int × Int) × Value)) (p : Int × Int) (v : Value) : List ((Int × Int) × Value) :=
  match idx kvs p with | some j => kvs.set j (p, v) | none => kvs ++ [(p, v)]
def del (kvs : List ((Int × Int) × Value)) (p : Int × Int) : List ((Int × Int) × Value) :=
  match idx kvs p with | some j => kvs.eraseIdx j | none => kvs

theorem kvs_len {es : Array MapEntry} {kvs : List ((Int × Int) × Value)} (h : es.toList.map (fun e => (e.key, e.val)) = kvs.map (fun q => (kv q.1, q.2))) : es.size = kvs.length := by
  have := congrArg List.length h; simpa using this
theorem kvs_keys {es : Array MapEntry} {kvs : List ((Int × Int) × Value)} (h : es.toList.map (fun e => (e.key, e.val)) = kvs.map (fun q => (kv q.1, q.2))) : Keys es.toList (kvs.map (·.1)) := by
  have := congrArg (List.map Prod.fst) h
  simpa [Keys, List.map_map, Function.comp_def] using this
theorem kvs_val {es : Array MapEntry} {kvs : List ((Int × Int) × Value)} (h : es.toList.map (fun e => (e.key, e.val)) = kvs.map (fun q => (kv q.1, q.2))) (j : Nat) : (es[j]?).map (·.val) = (kvs[j]?).map (·.2) := by
  have := congrArg (fun l => (l[j]?).map Prod.snd) h
  simpa [List.getElem?_map, Option.map_map, Function.comp_def] using this
theorem kvs_key {es : Array MapEntry} {kvs : List ((Int × Int) × Value)} (h : es.toList.map (fun e => (e.key, e.val)) = kvs.map (fun q => (kv q.1, q.2))) (j : Nat) : (es[j]?).map (·.key) = (kvs[j]?).map (fun q => kv q.1) := by
  have := congrArg (fun l => (l[j]?).map Prod.fst) h
  simpa [List.getElem?_map, Option.map_map, Function.comp_def] using this
theorem idx_map (kvs : List ((Int × Int) × Value)) (p : Int × Int) : (kvs.map (·.1)).findIdx? (p == ·) = idx kvs p := by
  unfold idx
  rw [List.findIdx?_map]; rfl
theorem idx_some {kvs : List ((Int × Int) × Value)} {p : Int × Int} {j : Nat} (h : idx kvs p = some j) : ∃ v, kvs[j]? = some (p, v) := by
  obtain ⟨hj, hp, _⟩ := List.findIdx?_eq_some_iff_getElem.1 h
  refine ⟨kvs[j].2, ?_⟩
  rw [List.getElem?_eq_getElem hj]
  have : p = kvs[j].1 := by simpa using hp
  rw [this]
theorem sameBits_kv (p : Int × Int) : Instr.sameBits 10000 (kv p) (kv p) = true := by
  obtain ⟨a, b⟩ := p
  unfold kv
  simp [Instr.sameBits]

theorem MapIs.look {T E : TypeId} {w : World} {r : Nat} {kvs : List ((Int × Int) × Value)} (h : MapIs w r kvs) (hT : Try.prog.underlying T = some (.map 39 E)) {z : Value} (hz : ∀ w, (zeroValue E).run Try.prog w = .ok z w) (p : Int × Int) :
    (Instr.lookup T (.map (some r)) (kv p) false).run Try.prog w = .ok (look kvs p z) w := by
  obtain ⟨es, ck, hr, he, _⟩ := h
  rw [run_lookup_place hT hz w r es ck hr _ (kvs_keys he) p, idx_map]
  unfold Proofs.Ytaokmbmimogdgaa.look
  cases idx kvs p with
  | none => rfl
  | some j => simp only [Option.bind_some, kvs_val he]

theorem MapIs.upd {T E : TypeId} {w : World} {r : Nat} {kvs : List ((Int × Int) × Value)} (h : MapIs w r kvs) (hT : Try.prog.underlying T = some (.map 39 E)) (p : Int × Int) (v : Value) :
    ∃ es' ck', (Instr.mapUpdate T (.map (some r)) (kv p) v).run Try.prog w = .ok () (setBlock w r (.map es' ck')) ∧ MapIs (setBlock w r (.map es' ck')) r (upd kvs p v) := by
  obtain ⟨es, ck, hr, he, hb⟩ := h
  have hkey := run_findKey w p es.toList _ (kvs_keys he)
  rw [idx_map] at hkey
  simp only [Instr.mapUpdate, Sem.run_bind, run_underlying hT, Result.andThen_ok, getObj, Sem.run, hr, Sem.run_pure, check_place, hkey]
  unfold Proofs.Ytaokmbmimogdgaa.upd
  cases hi : idx kvs p with
  | none =>
    simp only [Option.bind_none, setObj, Sem.run, hr]
    refine ⟨_, _, rfl, _, _, heap_setBlock_same hr _, ?_, ?_, ?_⟩
    · simp only [Array.toList_push, List.map_append, he]; simp
    · simp only [Array.toList_push, List.map_append, List.map_cons, List.map_nil]
      rw [List.nodup_append]
      refine ⟨hb.1, by simp, ?_⟩
      intro a ha b hb' hab
      simp at ha hb'
      obtain ⟨e, he', rfl⟩ := ha
      have := hb.2 e (by simpa using he')
      omega
    · intro e he'
      simp at he'
      rcases he' with he' | rfl
      · have := hb.2 e (by simpa using he'); omega
      · simp
  | some j =>
    obtain ⟨u, hu⟩ := idx_some hi
    have hj : j < es.size := by
      rw [kvs_len he]
      exact (List.getElem?_eq_some_iff.1 hu).1
    have hkj : es[j].key = kv p := by
      have := kvs_key he j
      rw [hu, Array.getElem?_eq_getElem hj] at this
      simpa using this
    simp only [Option.bind_some, List.getElem?_toArray, Array.getElem?_toList, Array.getElem?_eq_getElem hj, Option.map_some, Option.getD_some, hkj, Instr.keyThatStays, sameBits_kv, if_true, Sem.run_bind, Sem.run_pure, Result.andThen_ok, setObj, Sem.run, hr]
    refine ⟨_, _, rfl, _, _, heap_setBlock_same hr _, ?_, ?_, ?_⟩
    · apply List.ext_getElem?
      intro k
      have hk := congrArg (·[k]?) he
      simp only [List.getElem?_map, Array.getElem?_toList, Array.getElem?_modify, List.getElem?_set] at hk ⊢
      by_cases hjk : j = k
      · subst hjk
        have hl : j < kvs.length := by rw [← kvs_len he]; exact hj
        simp [hj, hl, Array.getElem?_eq_getElem hj]
      · simp only [hjk, if_false]; exact hk
    · have : (es.modify j fun e => { e with key := kv p, val := v }).toList.map (·.born) = es.toList.map (·.born) := by
        apply List.ext_getElem?
        intro k
        simp only [List.getElem?_map, Array.getElem?_toList, Array.getElem?_modify]
        by_cases hjk : j = k
        · subst hjk; simp [Array.getElem?_eq_getElem hj]
        · simp [hjk]
      rw [this]; exact hb.1
    · intro e he'
      have := List.getElem?_of_mem he'
      obtain ⟨k, hk⟩ := this
      simp only [Array.getElem?_toList, Array.getElem?_modify] at hk
      by_cases hjk : j = k
      · subst hjk
        simp [Array.getElem?_eq_getElem hj] at hk
        rw [← hk]
        exact hb.2 es[j] (by simp)
      · simp only [hjk, if_false] at hk
        exact hb.2 e (by rw [← Array.getElem?_toList] at hk; exact List.mem_of_getElem? hk)

theorem map_eraseIdx {α β : Type} (f : α → β) : ∀ (l : List α) (j : Nat), (l.eraseIdx j).map f = (l.map f).eraseIdx j
  | [], j => by simp
  | a :: l, 0 => by simp
  | a :: l, j + 1 => by simp [map_eraseIdx f l j]

theorem MapIs.del {T E K : TypeId} {w : World} {r : Nat} {kvs : List ((Int × Int) × Value)} (h : MapIs w r kvs) (hT : Try.prog.underlying T = some (.map 39 E)) (p : Int × Int) (ty : TypeId) :
    ∃ es' ck', (Builtin.delete_ #[T, K] ty #[.map (some r), kv p]).run Try.prog w = .ok (.tuple #[]) (setBlock w r (.map es' ck')) ∧ MapIs (setBlock w r (.map es' ck')) r (del kvs p) := by
  obtain ⟨es, ck, hr, he, hb⟩ := h
  have hkey := run_findKey w p es.toList _ (kvs_keys he)
  rw [idx_map] at hkey
  simp only [Builtin.delete_, List.getElem?_toArray, List.getElem?_cons_zero, List.getElem?_cons_succ, Sem.run_bind, run_underlying hT, Result.andThen_ok, getObj, Sem.run, hr, Sem.run_pure, check_place, hkey]
  unfold Proofs.Ytaokmbmimogdgaa.del
  cases hi : idx kvs p with
  | none =>
    simp only [Option.bind_none, setObj, Sem.run, hr, Result.andThen_ok, Sem.run_pure, Sem.run_bind]
    exact ⟨_, _, rfl, _, _, heap_setBlock_same hr _, he, hb⟩
  | some j =>
    obtain ⟨u, hu⟩ := idx_some hi
    have hj : j < es.size := by
      rw [kvs_len he]
      exact (List.getElem?_eq_some_iff.1 hu).1
    simp only [Option.bind_some, Array.getElem?_toList, Array.getElem?_eq_getElem hj, Option.map_some, setObj, Sem.run, hr, Sem.run_bind, Result.andThen_ok, Sem.run_pure]
    have ht : (es.eraseIdxIfInBounds j).toList = es.toList.eraseIdx j := by
      simp [Array.eraseIdxIfInBounds, hj]
    refine ⟨_, _, rfl, _, _, heap_setBlock_same hr _, ?_, ?_, ?_⟩
    · rw [ht, map_eraseIdx, he, map_eraseIdx]
    · rw [ht, map_eraseIdx]
      exact hb.1.sublist (List.eraseIdx_sublist _ _)
    · intro e he'
      rw [ht] at he'
      exact hb.2 e ((List.eraseIdx_sublist _ _).subset he')

theorem MapIs.len {T E : TypeId} {w : World} {r : Nat} {kvs : List ((Int × Int) × Value)} (h : MapIs w r kvs) (hT : Try.prog.underlying T = some (.map 39 E)) (ty : TypeId) :
    (Builtin.len_ #[T] ty #[.map (some r)]).run Try.prog w = .ok (goInt kvs.length) w := by
  obtain ⟨es, ck, hr, he, _⟩ := h
  simp only [Builtin.len_, List.getElem?_toArray, List.getElem?_cons_zero, Sem.run_bind, run_underlying hT, Result.andThen_ok, getObj, Sem.run, hr, Sem.run_pure, kvs_len he]

/-- .. and the entry of p bears the stamp s. -/
def MapSt (w : World) (r : Nat) (kvs : List ((Int × Int) × Value)) (p : Int × Int) (s : Int) : Prop :=
  ∃ es ck j, w.heap[r]? = some (.map es ck) ∧ es.toList.map (fun e => (e.key, e.val)) = kvs.map (fun q => (kv q.1, q.2)) ∧ Born es ck ∧ idx kvs p = some j ∧ ∃ e, es[j]? = some e ∧ (e.born : Int) = s
theorem MapSt.is {w : World} {r : Nat} {kvs : List ((Int × Int) × Value)} {p : Int × Int} {s : Int} (h : MapSt w r kvs p s) : MapIs w r kvs := by
  obtain ⟨es, ck, j, h1, h2, h3, _⟩ := h; exact ⟨es, ck, h1, h2, h3⟩
theorem MapIs.map {w : World} {r : Nat} {kvs : List ((Int × Int) × Value)} (h : MapIs w r kvs) : ∃ es ck, w.heap[r]? = some (.map es ck) := by
  obtain ⟨es, ck, h1, _⟩ := h; exact ⟨es, ck, h1⟩
theorem MapIs.lt {w : World} {r : Nat} {kvs : List ((Int × Int) × Value)} (h : MapIs w r kvs) : r < w.heap.size := by
  obtain ⟨es, ck, h1, _⟩ := h; exact (Array.getElem?_eq_some_iff.1 h1).1
theorem MapIs.kept {w w' : World} {r : Nat} {kvs : List ((Int × Int) × Value)} (h : MapIs w r kvs) (hk : w'.heap[r]? = w.heap[r]?) : MapIs w' r kvs := by
  obtain ⟨es, ck, h1, h2⟩ := h; exact ⟨es, ck, hk.trans h1, h2⟩
theorem MapSt.kept {w w' : World} {r : Nat} {kvs : List ((Int × Int) × Value)} {p : Int × Int} {s : Int} (h : MapSt w r kvs p s) (hk : w'.heap[r]? = w.heap[r]?) : MapSt w' r kvs p s := by
  obtain ⟨es, ck, j, h1, h2⟩ := h; exact ⟨es, ck, j, hk.trans h1, h2⟩
theorem MapIs.new (w : World) : MapIs (w.alloc (.map #[] 0)) w.heap.size [] := ⟨#[], 0, (MapKept.heap_alloc w _).1, rfl, by simp, by simp⟩
theorem MapIs.noTag {w : World} {r : Nat} {kvs : List ((Int × Int) × Value)} (h : MapIs w r kvs) (e : Nat) : ¬ IsTag e w r := by
  obtain ⟨es, ck, h1, _⟩ := h
  intro ⟨cur, fr, h2⟩
  rw [h1] at h2; cases h2

theorem idx_push_new {kvs : List ((Int × Int) × Value)} {p : Int × Int} (h : idx kvs p = none) (v : Value) : idx (kvs ++ [(p, v)]) p = some kvs.length := by
  unfold idx at h ⊢
  rw [List.findIdx?_append, h]
  simp [List.findIdx?_cons]
theorem idx_set {kvs : List ((Int × Int) × Value)} {p : Int × Int} {j : Nat} (h : idx kvs p = some j) (v : Value) : idx (kvs.set j (p, v)) p = some j := by
  obtain ⟨hj, hp, hlt⟩ := List.findIdx?_eq_some_iff_getElem.1 h
  refine List.findIdx?_eq_some_iff_getElem.2 ⟨by simpa using hj, by simp, fun i hi => ?_⟩
  rw [List.getElem_set_ne (by omega)]
  exact hlt i hi

theorem MapIs.entry {T E : TypeId} {w : World} {r : Nat} {kvs : List ((Int × Int) × Value)} (h : MapIs w r kvs) (hT : Try.prog.underlying T = some (.map 39 E)) {z : Value} (hz : ∀ w, (zeroValue E).run Try.prog w = .ok z w) (p : Int × Int) :
    ∃ es' ck' s, (Instr.mapEntry T (.map (some r)) (kv p)).run Try.prog w = .ok (.tuple #[Proofs.Ytaokmbmimogdgaa.look kvs p z, .int .i64 s]) (setBlock w r (.map es' ck')) ∧
      MapSt (setBlock w r (.map es' ck')) r (Proofs.Ytaokmbmimogdgaa.upd kvs p (Proofs.Ytaokmbmimogdgaa.look kvs p z)) p s := by
  obtain ⟨es, ck, hr, he, hb⟩ := h
  have hkey := run_findKey w p es.toList _ (kvs_keys he)
  rw [idx_map] at hkey
  simp only [Instr.mapEntry, Sem.run_bind, run_underlying hT, Result.andThen_ok, getObj, Sem.run, hr, Sem.run_pure, check_place, hkey]
  unfold Proofs.Ytaokmbmimogdgaa.upd Proofs.Ytaokmbmimogdgaa.look
  cases hi : idx kvs p with
  | none =>
    simp only [Option.bind_none, hz, Option.getD_none, Sem.run_bind, Result.andThen_ok, setObj, Sem.run, hr, Sem.run_pure]
    refine ⟨_, _, ck, rfl, _, _, kvs.length, heap_setBlock_same hr _, ?_, ⟨?_, ?_⟩, idx_push_new hi z, ?_⟩
    · simp only [Array.toList_push, List.map_append, he]; simp
    · simp only [Array.toList_push, List.map_append, List.map_cons, List.map_nil]
      rw [List.nodup_append]
      refine ⟨hb.1, by simp, ?_⟩
      intro a ha b hb' hab
      simp at ha hb'
      obtain ⟨e, he', rfl⟩ := ha
      have := hb.2 e (by simpa using he')
      omega
    · intro e he'
      simp at he'
      rcases he' with he' | rfl
      · have := hb.2 e (by simpa using he'); omega
      · simp
    · exact ⟨{ key := kv p, val := z, born := ck }, by rw [← kvs_len he]; simp, rfl⟩
  | some j =>
    obtain ⟨u, hu⟩ := idx_some hi
    have hj : j < es.size := by
      rw [kvs_len he]
      exact (List.getElem?_eq_some_iff.1 hu).1
    have hkj : es[j].key = kv p := by
      have := kvs_key he j
      rw [hu, Array.getElem?_eq_getElem hj] at this
      simpa using this
    have hvj : es[j].val = u := by
      have := kvs_val he j
      rw [hu, Array.getElem?_eq_getElem hj] at this
      simpa using this
    simp only [Option.bind_some, Array.getElem?_toList, Array.getElem?_eq_getElem hj, Option.map_some, Option.getD_some, hkj, Instr.keyThatStays, sameBits_kv, if_true, Sem.run_bind, Sem.run_pure, Result.andThen_ok, setObj, Sem.run, hr, hu, hvj]
    refine ⟨_, _, es[j].born, rfl, _, _, j, heap_setBlock_same hr _, ?_, ⟨?_, ?_⟩, idx_set hi u, ?_⟩
    · apply List.ext_getElem?
      intro k
      have hk := congrArg (·[k]?) he
      simp only [List.getElem?_map, Array.getElem?_toList, Array.getElem?_modify, List.getElem?_set] at hk ⊢
      by_cases hjk : j = k
      · subst hjk
        have hl : j < kvs.length := by rw [← kvs_len he]; exact hj
        simp [hj, hl, Array.getElem?_eq_getElem hj, hvj]
      · simp only [hjk, if_false]; exact hk
    · have : (es.modify j fun e => { e with key := kv p }).toList.map (·.born) = es.toList.map (·.born) := by
        apply List.ext_getElem?
        intro k
        simp only [List.getElem?_map, Array.getElem?_toList, Array.getElem?_modify]
        by_cases hjk : j = k
        · subst hjk; simp [Array.getElem?_eq_getElem hj]
        · simp [hjk]
      rw [this]; exact hb.1
    · intro e he'
      have := List.getElem?_of_mem he'
      obtain ⟨k, hk⟩ := this
      simp only [Array.getElem?_toList, Array.getElem?_modify] at hk
      by_cases hjk : j = k
      · subst hjk
        simp [Array.getElem?_eq_getElem hj] at hk
        rw [← hk]
        exact hb.2 es[j] (by simp)
      · simp only [hjk, if_false] at hk
        exact hb.2 e (by rw [← Array.getElem?_toList] at hk; exact List.mem_of_getElem? hk)
    · exact ⟨{ es[j] with key := kv p }, by simp [Array.getElem?_modify, Array.getElem?_eq_getElem hj], rfl⟩

theorem MapSt.store {T : TypeId} {w : World} {r : Nat} {kvs : List ((Int × Int) × Value)} {p : Int × Int} {s : Int} (h : MapSt w r kvs p s) (v : Value) :
    ∃ es' ck', (Instr.entryStore T (.map (some r)) (.int .i64 s) v).run Try.prog w = .ok () (setBlock w r (.map es' ck')) ∧ MapIs (setBlock w r (.map es' ck')) r (upd kvs p v) := by
  obtain ⟨es, ck, j, hr, he, hb, hi, e, hej, hs⟩ := h
  have hj : j < es.size := (Array.getElem?_eq_some_iff.1 hej).1
  have hej' : es[j] = e := by rw [Array.getElem?_eq_getElem hj] at hej; simpa using hej
  have hfind : es.findIdx? (fun e => (e.born : Int) == s) = some j := by
    rw [Array.findIdx?_eq_some_iff_getElem]
    refine ⟨hj, by rw [hej']; simpa using hs, fun i hi' => ?_⟩
    have hn := hb.1
    intro hc
    have h1 : es[i].born = e.born := by have : (es[i].born : Int) = s := by simpa using hc
                                        omega
    have := (List.getElem_inj (h₀ := by simpa using (by omega : i < es.size)) (h₁ := by simpa using hj) hn).1 (by simp [h1, hej'])
    omega
  simp only [Instr.entryStore, Sem.run_bind, getObj, Sem.run, hr, Sem.run_pure, Result.andThen_ok, asInt, asIntOf, hfind, setObj]
  obtain ⟨u, hu⟩ := idx_some hi
  have hkj : e.key = kv p := by
    have := kvs_key he j
    rw [hu, hej] at this
    simpa using this
  unfold upd
  rw [hi]
  refine ⟨_, _, rfl, _, _, heap_setBlock_same hr _, ?_, ?_, ?_⟩
  · apply List.ext_getElem?
    intro k
    have hk := congrArg (·[k]?) he
    simp only [List.getElem?_map, Array.getElem?_toList, Array.getElem?_modify, List.getElem?_set] at hk ⊢
    by_cases hjk : j = k
    · subst hjk
      have hl : j < kvs.length := by rw [← kvs_len he]; exact hj
      simp [hj, hl, Array.getElem?_eq_getElem hj, hej', hkj]
    · simp only [hjk, if_false]; exact hk
  · have : (es.modify j fun e => { e with val := v }).toList.map (·.born) = es.toList.map (·.born) := by
      apply List.ext_getElem?
      intro k
      simp only [List.getElem?_map, Array.getElem?_toList, Array.getElem?_modify]
      by_cases hjk : j = k
      · subst hjk; simp [Array.getElem?_eq_getElem hj]
      · simp [hjk]
    rw [this]; exact hb.1
  · intro e' he'
    have := List.getElem?_of_mem he'
    obtain ⟨k, hk⟩ := this
    simp only [Array.getElem?_toList, Array.getElem?_modify] at hk
    by_cases hjk : j = k
    · subst hjk
      simp [Array.getElem?_eq_getElem hj] at hk
      rw [← hk]
      exact hb.2 es[j] (by simp)
    · simp only [hjk, if_false] at hk
      exact hb.2 e' (by rw [← Array.getElem?_toList] at hk; exact List.mem_of_getElem? hk)

end Go.Proofs.Ytaokmbmimogdgaa
