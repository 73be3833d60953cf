/- The cache's places in order: maps.Keys, slices.SortedFunc, and 'order'. -/
import Derived.Test.YtaokmbmimogdgaaIter3
import Derived.Test.YtaokmbmimogdgaaCmpClosure
import Derived.Test.YtaokmbmimogdgaaLay
import Derived.Test.YtaokmbmimogdgaaCache
namespace Go.Proofs.Ytaokmbmimogdgaa
open Go.RowKit Go.Shelf Go.Lib Go.Sort

/-! ### the plain part: one order -/
def ltP (p q : Int × Int) : Bool := decide (p.1 < q.1 ∨ (p.1 = q.1 ∧ p.2 < q.2))
theorem cmpP_lt (p q : Int × Int) : ltOf cmpP p q = ltP p q := by
  unfold ltOf cmpP cmpI ltP
  congr 1
  apply propext
  constructor
  · intro h
    (repeat' split at h) <;> omega
  · intro h
    (repeat' split) <;> omega
theorem cmpP_swo : SWO (ltOf cmpP) where
  irrefl x := by rw [cmpP_lt]; simp [ltP]
  trans x y z h1 h2 := by rw [cmpP_lt] at *; simp [ltP] at *; omega
  ntrans x y z h1 h2 := by rw [cmpP_lt] at *; simp [ltP] at *; omega
theorem cmpP_apart (x y : Int × Int) (h1 : ltOf cmpP x y = false) (h2 : ltOf cmpP y x = false) : x = y := by
  rw [cmpP_lt] at h1 h2
  obtain ⟨a, b⟩ := x
  obtain ⟨c, d⟩ := y
  simp [ltP] at h1 h2
  rw [Prod.mk.injEq]
  omega

def sortP (ss : List (Int × Int)) : List (Int × Int) := ss.mergeSort fun x y => !(ltOf cmpP) y x
theorem sortP_length (ss : List (Int × Int)) : (sortP ss).length = ss.length := List.length_mergeSort ..
theorem sortP_keys {l : List One} (h : Sorted l) {ss : List (Int × Int)} (hp : ss.Perm (l.map key)) : sortP ss = l.map key := by
  have h1 : (sortP ss).Perm (l.map key) := (List.mergeSort_perm ..).trans hp
  have h2 : (sortP ss).Pairwise (fun x y => (!(ltOf cmpP) y x) = true) := List.pairwise_mergeSort
    (fun a b c h1 h2 => by simp at *; exact cmpP_swo.ntrans _ _ _ h2 h1)
    (fun a b => by
      cases h1 : ltOf cmpP b a with
      | false => simp
      | true => have := cmpP_swo.asymmA h1; simp [this]) ss
  have h3 : (l.map key).Pairwise (fun x y => (!(ltOf cmpP) y x) = true) := by
    rw [List.pairwise_map]
    refine h.imp ?_
    intro a b hab
    have := before_iff.1 hab
    simp [cmpP_lt, ltP, key]
    omega
  exact List.Perm.eq_of_pairwise (le := fun x y => (!(ltOf cmpP) y x) = true) (fun a b _ _ h1 h2 => cmpP_apart a b (by simpa using h2) (by simpa using h1)) h2 h3 h1

/-! ### rows of places in memory -/
theorem pcells_get (l : List (Int × Int)) (t : Nat) (ht : t < l.length * 2) : (pcells l)[t]? = some ((pcs l[t / 2]!)[t % 2]!) := by
  have e : pcells l = (l.map pcs).flatten := by simp [pcells, List.flatMap_def]
  have hq : t / 2 < l.length := by omega
  have hm : t % 2 < 2 := Nat.mod_lt _ (by omega)
  have := flatten_get (n := 2) (l.map pcs) (by intro x hx; obtain ⟨p, _, rfl⟩ := List.mem_map.1 hx; rfl) (t / 2) (t % 2) (pcs l[t / 2]!) hm (by simp [hq, List.getElem?_eq_getElem hq])
  rw [e, show t = t / 2 * 2 + t % 2 by omega, this]
  rw [show (t / 2 * 2 + t % 2) / 2 = t / 2 by omega, show (t / 2 * 2 + t % 2) % 2 = t % 2 by omega]
  have h2 : t % 2 = 0 ∨ t % 2 = 1 := by omega
  rcases h2 with h | h <;> rw [h] <;> rfl
theorem flatK_toList (l : List (Int × Int)) : (flatK pcs 2 l.toArray).toList = pcells l := by
  apply List.ext_getElem?
  intro t
  by_cases ht : t < l.length * 2
  · rw [pcells_get l t ht]
    have h0 : t < (flatK pcs 2 l.toArray).size := by simpa using ht
    rw [Array.getElem?_toList, Array.getElem?_eq_getElem h0]
    have := get_flatK pcs 2 l.toArray t (by simpa using ht)
    rw [getElem!_pos _ t h0] at this
    rw [this]
    simp
  · rw [List.getElem?_eq_none (by simp; omega), List.getElem?_eq_none (by rw [pcells_length]; omega)]

theorem holds_places {w : World} {g : Nat} {cur : Array Value} {ss : List (Int × Int)} (hb : w.heap[g]? = some (.cells cur 39 (0, 0))) (ht : cur.toList.take (ss.length * 2) = pcells ss) : HoldsK pcs 2 w g 0 ss.toArray := by
  intro j hj
  have hj' : j < ss.length * 2 := by simpa using hj
  have hB : Blk w g 39 cur.toList := by simpa [Blk] using hb
  rw [Nat.zero_add]
  refine ⟨?_, hB.frozen j⟩
  rw [hB.cell j]
  have h1 : (cur.toList.take (ss.length * 2))[j]? = cur.toList[j]? := List.getElem?_take_of_lt hj'
  rw [← h1, ht, ← flatK_toList]
  rw [Array.getElem?_toList, Array.getElem?_eq_getElem hj, getElem!_pos _ j hj]
  rfl

theorem sorted_world {w : World} {g cap base : Nat} {cur : Array Value} {ss ts : List (Int × Int)} (n : Nat) (os : Array Obj) (hl : ts.length = ss.length) (hb : w.heap[g]? = some (.cells cur 39 (0, 0))) (hbase : base ≤ g)
    (h3 : ss.length ≤ cap) (h4 : cap ≤ maxLen) (h5 : cur.size = cap * 2) :
    (sortWorldK pcs 2 w g 0 n ts.toArray os).ownsRow base 39 2 (.slice (some ⟨g, 0, none⟩) ss.length cap) ss.length (pcells ts) ∧ Fr (fun b => b = g) w (sortWorldK pcs 2 w g 0 n ts.toArray os) := by
  have hlt := (Array.getElem?_eq_some_iff.1 hb).1
  have hsz : (sortWorldK pcs 2 w g 0 n ts.toArray os).heap.size = w.heap.size + os.size := by simp [sortWorldK, grow, putRowK, putRow, mapBlock, Sort.ahead]
  have hold : ∀ k, k < w.heap.size → (sortWorldK pcs 2 w g 0 n ts.toArray os).heap[k]? = if k = g then some (.cells (putCells id 0 (flatK pcs 2 ts.toArray) cur) 39 (0, 0)) else w.heap[k]? := by
    intro k hk
    have e1 : (sortWorldK pcs 2 w g 0 n ts.toArray os).heap[k]? = (w.heap.modify g (onCells (putCells id 0 (flatK pcs 2 ts.toArray))))[k]? := by
      show (w.heap.modify g _ ++ os)[k]? = _
      rw [Array.getElem?_append_left (by simpa using hk)]
    rw [e1, Array.getElem?_modify]
    by_cases hkg : k = g
    · subst hkg
      rw [if_pos rfl, if_pos rfl, hb]; rfl
    · rw [if_neg (fun e => hkg e.symm), if_neg hkg]
  have hg := hold g hlt
  rw [if_pos rfl] at hg
  have hf : Fr (fun b => b = g) w (sortWorldK pcs 2 w g 0 n ts.toArray os) := by
    refine ⟨?_, rfl, rfl, rfl, by rw [hsz]; omega, ?_, ?_⟩
    · rintro e b ⟨cu, fr, h⟩
      have hbl := (Array.getElem?_eq_some_iff.1 h).1
      by_cases hbg : b = g
      · subst hbg
        rw [hb] at h
        cases h
        exact ⟨_, _, hg⟩
      · exact ⟨cu, fr, by rw [hold b hbl, if_neg hbg]; exact h⟩
    · intro b hbl hbg
      rw [hold b hbl, if_neg hbg]
    · intro b hu
      have hbl := hu.lt
      have hbg : b ≠ g := by
        rintro rfl
        obtain ⟨cu, fr, h⟩ := hu
        rw [hb] at h
        cases h
      rw [hold b hbl, if_neg hbg]
  refine ⟨⟨by rw [pcells_length, hl], .inr ⟨g, cap, _, rfl, hbase, hg, h3, h4, ?_, ?_⟩⟩, hf⟩
  · simp [putCells, h5]
  · rw [← flatK_toList ts]
    apply List.ext_getElem?
    intro t
    by_cases ht : t < ss.length * 2
    · rw [List.getElem?_take_of_lt ht, Array.getElem?_toList, Array.getElem?_toList]
      have h1 : t < cur.size := by omega
      have h2 : t < (flatK pcs 2 ts.toArray).size := by simp [hl]; omega
      simp only [putCells, Array.getElem?_mapIdx, Array.getElem?_eq_getElem h1, Option.map_some, Nat.zero_le, true_and, Nat.zero_add, h2, if_true, Nat.sub_zero, id_eq]
      rw [getElem!_pos _ t h2, Array.getElem?_eq_getElem h2]
    · rw [List.getElem?_eq_none (by simp; omega), List.getElem?_eq_none (by simp [hl]; omega)]

theorem frBelow {w w' : World} (h : Below w.heap.size w w') : Fr Nil w w' :=
  ⟨fun e b ⟨cu, fr, hh⟩ => ⟨cu, fr, by rw [h.block b (Array.getElem?_eq_some_iff.1 hh).1]; exact hh⟩, h.os, h.tape, h.output, h.size, fun b hb _ => h.block b hb, fun b hu => h.block b hu.lt⟩

/-- slices.SortFunc over places, under the cache's order. -/
theorem sort_any (base : Nat) (v : Value) (ss : List (Int × Int)) (w : World) (hlen : ss.length ≤ 1000000) (hown : w.ownsRow base 39 2 v ss.length (pcells ss)) :
    Calls Try.prog 41 #[v, .func (.func 36) #[] #[]] w fun e w' =>
      e = .returned (.tuple #[]) ∧ w'.ownsRow base 39 2 v ss.length (pcells (sortP ss)) ∧ Fr (fun b => v.ownBlock = some b) w w' := by
  obtain ⟨_, ⟨rfl, h0⟩ | ⟨g, cap, cur, rfl, hbase, hb, h3, h4, h5, h6⟩⟩ := id hown
  · have : ss = [] := List.length_eq_zero_iff.1 h0
    subst this
    refine (AnyF.slices_SortFunc_none sortPl none 0 _ w).mono ?_
    rintro e w' ⟨rfl, rfl⟩
    exact ⟨rfl, by simpa [sortP] using hown, Fr.refl _ _⟩
  · have hlt := (Array.getElem?_eq_some_iff.1 hb).1
    have hH := holds_places hb h6
    have hcon := AnyQ.slices_SortFunc_total sortPl 2 Try.isAgg39 Try.sizeOf39 pcs (fun _ => rfl) (fun x v hv => by simp [pcs] at hv; rcases hv with rfl | rfl <;> rfl) cmpP cmpP_swo 36 #[] g 0 cap ss.toArray w
      (enters_of Try.func36 (by kernel_rfl) rfl) (fun _ _ _ _ x y => order_closure x y _) hH hlt (by simp; omega) cmpP_apart
    simp only [List.toList_toArray, List.size_toArray] at hcon
    refine Calls.mono (show Calls Try.prog 41 _ w _ from hcon) ?_
    rintro e w' ⟨rfl, n, os, rfl⟩
    obtain ⟨h7, h8⟩ := sorted_world (ts := sortP ss) n os (sortP_length ss) hb hbase h3 h4 h5
    exact ⟨rfl, h7, h8.mono (fun k _ e => by rw [e]; rfl)⟩

/-- slices.SortedFunc over a map's keys. -/
theorem sortedFunc_any (Bm b : Nat) {kvs : List ((Int × Int) × Value)} (hnd : (kvs.map (·.1)).Nodup) (hlen : kvs.length ≤ 1000000) (w : World) (hBm : Bm < w.heap.size) (hm : w.cell? ⟨Bm, 0, none⟩ = some (.map (some b))) (hown : MapIs w b kvs) :
    Calls Try.prog 34 #[.func (.func 42) #[] #[.pointer (some ⟨Bm, 0, none⟩)], .func (.func 36) #[] #[]] w fun e w' =>
      ∃ (v : Value) (ss : List (Int × Int)), e = .returned v ∧ ss.Perm (kvs.map (·.1)) ∧ w'.ownsRow w.heap.size 39 2 v ss.length (pcells (sortP ss)) ∧ Fr Nil w w' := by
  have hc := collect_keys Bm b hnd hlen w hBm hm hown
  clear hnd hm hown
  go_enter Try.func34, Try.ntmps34
  go_wp2_with (go_at_call 40; refine hc.mono ?_; rintro e w1 ⟨v, ss, rfl, hp, hr, hb⟩)
  have hl : ss.length ≤ 1000000 := by have := hp.length_eq; simp at this; omega
  have HR := Lib.hid hr
  clear hr hc
  go_wp2_with (go_at_call 41; refine (sort_any w.heap.size v ss _ hl (by exact HR.out)).mono ?_; rintro e w2 ⟨rfl, hr2, hf2⟩)
  have hf : Fr Nil w w2 := by
    refine (frBelow hb).trans hf2 (fun k hk e => ?_)
    obtain ⟨_, ⟨rfl, _⟩ | ⟨g, cap, cur, rfl, hbase, _⟩⟩ := HR.out
    · cases e
    · have : g = k := by simpa [Value.ownBlock] using e
      omega
  have HR2 := Lib.hid hr2
  clear hr2 hb hf2
  go_wp2
  go_returns
  exact ⟨v, ss, rfl, hp, HR2.out, hf⟩

theorem ents_nodup {l : List One} (hs : Sorted l) {ents : List Ent} (hp : l.Perm (rows ents)) : ((ents.map ekv).map (·.1)).Nodup := by
  have e : (ents.map ekv).map (·.1) = (rows ents).map key := by simp [rows, ekv, List.map_map, Function.comp_def]
  rw [e]
  exact (hp.map key).nodup_iff.1 hs.keys

/-- The cache's places, in order. -/
theorem order_any {w : World} {bc : Nat} {c : Cf} {now : Int} {conf : List Value} {bm : Nat} {ents : List Ent} {F : Nat → Prop} {l : List One} (hs : Sorted l) (h : CAt w bc c now conf bm ents F) (hp : l.Perm (rows ents)) (hlen : l.length ≤ 1000000) :
    Calls Try.prog 29 #[.pointer (some ⟨bc, 0, none⟩)] w fun e w' =>
      ∃ v, e = .returned v ∧ w'.ownsRow w.heap.size 39 2 v l.length (pcells (l.map key)) ∧ Fr Nil w w' := by
  have hc := h.c41
  have hbc := World.block_lt_of_cell? _ _ hc
  have hk := keys_any bm w
  have hl2 : (ents.map ekv).length ≤ 1000000 := by have := hp.length_eq; simp [rows] at this; simp; omega
  have hso := sortedFunc_any w.heap.size bm (ents_nodup hs hp) hl2 (w.alloc (.cells #[.map (some bm)] 69)) (by simp) ((Blk.new w _ [.map (some bm)]).cell 0) (h.map.kept ((Below.heap_alloc _ _ _ h.map.lt)))
  have HS := Lib.hid hs
  have HP := Lib.hid hp
  clear h hs hp
  go_enter Try.func29, Try.ntmps29
  go_wp2_with (first
    | (go_at_call 35; refine hk.mono ?_; rintro e w1 ⟨rfl, rfl⟩)
    | (go_at_call 34; refine hso.mono ?_; rintro e w2 ⟨v, ss, rfl, hpe, hr, hf⟩))
  go_returns
  have hk2 : sortP ss = l.map key := by
    refine sortP_keys HS.out (hpe.trans ?_)
    have e : (ents.map ekv).map (·.1) = (rows ents).map key := by simp [rows, ekv, List.map_map, Function.comp_def]
    rw [e]
    exact (HP.out.map key).symm
  have hll : ss.length = l.length := by rw [← sortP_length, hk2]; simp
  rw [hk2, hll] at hr
  exact ⟨v, rfl, ownsRow_rebase hr (fun b hb => by
    obtain ⟨_, ⟨rfl, _⟩ | ⟨g, cap, cur, rfl, hbase, _⟩⟩ := hr
    · cases hb
    · have : g = b := by simpa [Value.ownBlock] using hb
      simp at hbase; omega), (Fr.refl Nil w |>.alloc _).trans hf (fun _ _ e => e)⟩

end Go.Proofs.Ytaokmbmimogdgaa
