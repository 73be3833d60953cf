/- Contracts of the cache's small methods: New, get, Find, Len, Waits, Now, due. -/
import Derived.Test.YtaokmbmimogdgaaCache
import Derived.WalkLawsBesides
import Derived.Deep.QuietTactic
import Derived.BigQuiet
import Derived.Handy
namespace Go.Proofs.Ytaokmbmimogdgaa
open Go.RowKit Go.ChangeMaps

/-- Returned v; of what was there only S may have turned. -/
def RetF (v : Value) (S : Nat → Prop) (w : World) (e : Ending) (w' : World) : Prop := e = .returned v ∧ Fr S w w'

theorem zeroPtr (w : World) : (zeroValue 72).run Try.prog w = .ok (.pointer none) w := by kernel_rfl

set_option maxHeartbeats 400000 in
theorem get_any {w : World} {bc : Nat} {c : Cf} {now : Int} {conf : List Value} {bm : Nat} {ents : List Ent} {F : Nat → Prop} (h : CAt w bc c now conf bm ents F) (n k : Int) :
    Calls Try.prog 25 #[.pointer (some ⟨bc, 0, none⟩), .agg #[.int .i64 n, .int .u32 k]] w (RetF (look (ents.map ekv) (n, k) (.pointer none)) Nil w) := by
  have h41 := h.c41
  have hbc := h.blk.lt
  have hl : ∀ nq, (Instr.lookup 69 (.map (some bm)) (.agg #[.int .i64 n, .int .u32 k]) false).run Try.prog ((w.alloc (.cells #[.int .i64 n, .int .u32 k] 39)).drewN nq) =
      .ok (look (ents.map ekv) (n, k) (.pointer none)) ((w.alloc (.cells #[.int .i64 n, .int .u32 k] 39)).drewN nq) := fun nq =>
    MapIs.look (h.map.kept (w' := (w.alloc (.cells #[.int .i64 n, .int .u32 k] 39)).drewN nq) (Below.heap_alloc _ _ _ h.map.lt)) Try.underlying69 zeroPtr (n, k)
  generalize look (ents.map ekv) (n, k) (.pointer none) = v at *
  clear h
  go_enter Try.func25, Try.ntmps25
  go_wp2_with fail
  go_quiet (fail)
  go_wp2
  go_ret
  exact ⟨rfl, ((Fr.refl _ _).alloc _).drewN _⟩

theorem look_none {ents : List Ent} {p : Int × Int} (h : idx (ents.map ekv) p = none) : look (ents.map ekv) p (.pointer none) = .pointer none := by
  unfold look; rw [h]; rfl
theorem look_some {ents : List Ent} {p : Int × Int} {j : Nat} {t : Ent} (h : idx (ents.map ekv) p = some j) (ht : ents[j]? = some t) : look (ents.map ekv) p (.pointer none) = .pointer (some ⟨t.bp, 0, none⟩) := by
  unfold look; rw [h]; simp [ht, ekv]
/-- Where the map has the place is where the row has it. -/
theorem idx_find {l : List One} {ents : List Ent} (hs : Sorted l) (hp : l.Perm (rows ents)) (n k : Int) :
    (find n k l = none ∧ idx (ents.map ekv) (n, k) = none) ∨
    ∃ i j t, find n k l = some i ∧ idx (ents.map ekv) (n, k) = some j ∧ ents[j]? = some t ∧ l[i]? = some t.x ∧ key t.x = (n, k) := by
  cases hi : idx (ents.map ekv) (n, k) with
  | none =>
    left
    refine ⟨?_, rfl⟩
    cases hf : find n k l with
    | none => rfl
    | some i =>
      obtain ⟨x, hx, hk⟩ := find_some hf
      have hm : x ∈ rows ents := hp.subset (List.mem_of_getElem? hx)
      obtain ⟨t, ht, rfl⟩ := List.mem_map.1 hm
      have := List.findIdx?_eq_none_iff.1 hi (ekv t) (List.mem_map.2 ⟨t, ht, rfl⟩)
      simp [ekv, hk] at this
  | some j =>
    right
    obtain ⟨v, hv⟩ := idx_some hi
    rw [List.getElem?_map] at hv
    cases ht : ents[j]? with
    | none => rw [ht] at hv; simp at hv
    | some t =>
      rw [ht] at hv
      simp only [Option.map_some, Option.some.injEq, ekv, Prod.mk.injEq] at hv
      have hm : t.x ∈ l := hp.symm.subset (List.mem_map.2 ⟨t, List.mem_of_getElem? ht, rfl⟩)
      obtain ⟨i, hf, hl⟩ := find_of_mem hs hm hv.1
      exact ⟨i, j, t, hf, rfl, ht, hl, hv.1⟩

set_option maxHeartbeats 400000 in
theorem waits_any {w : World} {bc : Nat} {c : Cf} {now : Int} {conf : List Value} {bm : Nat} {ents : List Ent} {F : Nat → Prop} (h : CAt w bc c now conf bm ents F) :
    Calls Try.prog 12 #[.pointer (some ⟨bc, 0, none⟩)] w (RetF (.int .i64 (total (rows ents))) Nil w) := by
  have h42 := h.c42
  clear h
  go_enter Try.func12, Try.ntmps12
  go_wp2
  go_ret
  exact ⟨rfl, Fr.refl _ _⟩

set_option maxHeartbeats 400000 in
theorem now_any {w : World} {bc : Nat} {c : Cf} {now : Int} {conf : List Value} {bm : Nat} {ents : List Ent} {F : Nat → Prop} (h : CAt w bc c now conf bm ents F) :
    Calls Try.prog 23 #[.pointer (some ⟨bc, 0, none⟩)] w (RetF (.int .i64 now) Nil w) := by
  have h40 := h.c40
  clear h
  go_enter Try.func23, Try.ntmps23
  go_wp2
  go_ret
  exact ⟨rfl, Fr.refl _ _⟩

set_option maxHeartbeats 400000 in
theorem len_any {w : World} {bc : Nat} {c : Cf} {now : Int} {conf : List Value} {bm : Nat} {ents : List Ent} {F : Nat → Prop} (h : CAt w bc c now conf bm ents F) :
    Calls Try.prog 14 #[.pointer (some ⟨bc, 0, none⟩)] w (RetF (.int .i64 ents.length) Nil w) := by
  have h41 := h.c41
  have hl : ∀ ty, (Builtin.len_ #[69] ty #[.map (some bm)]).run Try.prog w = .ok (.int .i64 ents.length) w := fun ty => by
    have := h.map.len Try.underlying69 ty
    simpa [goInt] using this
  clear h
  go_enter Try.func14, Try.ntmps14
  go_wp2
  go_ret
  exact ⟨rfl, Fr.refl _ _⟩

set_option maxHeartbeats 400000 in
theorem due_any (w : World) (bc : Nat) (now n : Int) (h : w.cell? ⟨bc, 40, none⟩ = some (.int .i64 now)) (h0 : 0 ≤ now) (h1 : now ≤ 4000000000) :
    Calls Try.prog 26 #[.pointer (some ⟨bc, 0, none⟩), .int .i64 n] w fun e w' => e = .returned (.int .i64 (now + clamp n 1 4095)) ∧ w = w' := by
  unfold clamp
  by_cases a1 : n < 1
  · rw [if_pos a1]
    have b1 : max n 1 = 1 := by omega
    have b2 : min (1 : Int) 4095 = 1 := by omega
    go_enter Try.func26, Try.ntmps26
    go_wp2
    go_ret
    exact ⟨reti (by simp), rfl⟩
  · rw [if_neg a1]
    have b1 : max n 1 = n := by omega
    by_cases a2 : 4095 < n
    · rw [if_pos a2]
      have b2 : min n 4095 = 4095 := by omega
      go_enter Try.func26, Try.ntmps26
      go_wp2
      go_ret
      exact ⟨reti (by simp), rfl⟩
    · rw [if_neg a2]
      have b2 : min n 4095 = n := by omega
      go_enter Try.func26, Try.ntmps26
      go_wp2
      go_ret
      exact ⟨reti (by simp), rfl⟩

def macV (m : Mac) : Value := .agg #[.int .u8 m.a, .int .u8 m.b, .int .u8 m.c, .int .u8 m.d, .int .u8 m.e, .int .u8 m.f]
/-- What 'Find' answers. -/
def macOf (l : List One) (n k : Int) : Mac × Bool :=
  match find n k l with
  | some i => match l[i]? with
    | some x => if x.known then (x.mac, true) else (Mac.zero, false)
    | none => (Mac.zero, false)
  | none => (Mac.zero, false)

section
variable {w : World} {bc : Nat} {c : Cf} {now : Int} {conf : List Value} {bm : Nat} {ents : List Ent} {F : Nat → Prop}
theorem EntAt.p0 {t : Ent} (h : EntAt w c t) : w.cell? ⟨t.bp, 0, none⟩ = some (.bool t.x.known) := h.1.cellS rfl
theorem EntAt.p7 {t : Ent} (h : EntAt w c t) : w.cell? ⟨t.bp, 7, none⟩ = some (.int .i64 t.x.tries) := h.1.cellS rfl
theorem EntAt.p8 {t : Ent} (h : EntAt w c t) : w.cell? ⟨t.bp, 8, none⟩ = some (.int .i64 (dueOf c t.x)) := h.1.cellS rfl
theorem EntAt.p9 {t : Ent} (h : EntAt w c t) : w.cell? ⟨t.bp, 9, none⟩ = some t.u := h.1.cellS rfl
theorem EntAt.fr {t : Ent} {S : Nat → Prop} {w' : World} (h : EntAt w c t) (hf : Fr S w w') (h1 : ¬ S t.bp) (h2 : ∀ b, t.u.ownBlock = some b → ¬ S b) : EntAt w' c t := ⟨h.1.fr hf h1, h.2.fr hf h2⟩

set_option maxHeartbeats 1000000 in
theorem find_any {l : List One} (hs : Sorted l) (h : CAt w bc c now conf bm ents F) (hp : l.Perm (rows ents)) (n k : Int) :
    Calls Try.prog 20 #[.pointer (some ⟨bc, 0, none⟩), .agg #[.int .i64 n, .int .u32 k]] w
      (RetF (.tuple #[macV (macOf l n k).1, .bool (macOf l n k).2]) Nil w) := by
  have hf0 : Fr Nil w ((w.alloc (.cells #[.int .i64 n, .int .u32 k] 39)).alloc (.cells #[.int .u8 0, .int .u8 0, .int .u8 0, .int .u8 0, .int .u8 0, .int .u8 0] 23)) := ((Fr.refl _ _).alloc _).alloc _
  have C := get_any (h.fr hf0 (fun _ _ e => e)) n k
  have hbc := h.blk.lt
  rcases idx_find hs hp n k with ⟨f1, f2⟩ | ⟨i, j, t, f1, f2, f3, f4, f5⟩
  · have em : macOf l n k = (Mac.zero, false) := by unfold macOf; rw [f1]
    rw [em]
    rw [look_none f2] at C
    have R := Lib.hid C
    have F0 := Lib.hid hf0
    clear C hf0 h hp hs em f1 f2
    go_enter Try.func20, Try.ntmps20
    go_wp2_with (go_at_call 25; refine R.out.mono ?_)
    rintro e w1 ⟨rfl, hf1⟩
    have B0 := Lib.hid (Blk.fr (Blk.new (w.alloc (.cells #[.int .i64 n, .int .u32 k] 39)) 23 [.int .u8 0, .int .u8 0, .int .u8 0, .int .u8 0, .int .u8 0, .int .u8 0]) hf1 (fun e => e))
    have hf2 := Lib.hid (F0.out.trans hf1 (fun _ _ e => e))
    have hz : w1.heap.size > w.heap.size + 1 := by have := hf1.size; simp at this; omega
    clear hf1
    go_wp2_with (with_reducible refine here (o := ⟨none, .store 23 _ _, _, _, _, _⟩) ?_; refine wpList_store_blk rfl _ (.tmp 4) (.tmp 19) rfl _ [.int .u8 0, .int .u8 0, .int .u8 0, .int .u8 0, .int .u8 0, .int .u8 0] rfl rfl _ [.int .u8 0, .int .u8 0, .int .u8 0, .int .u8 0, .int .u8 0, .int .u8 0] (by simpa using B0.out) (by kernel_rfl) rfl (by simp [Value.oneCell']) ?_)
    intro w2 hb2 hg2
    have hf3 := hf2.out.grown hg2 (by intro k hk hlt; simp at hk; omega)
    have HF := Lib.hid hf3
    clear hf3 hg2 hf2
    have HB := Lib.hid hb2; clear hb2
    go_wp2_with fail
    refine bodyPost_ret (results_cell2 rfl _ _ _ _ _ rfl HB.out _ Try.underlying23 rfl (by kernel_rfl)) rfl ?_
    exact ⟨rfl, HF.out⟩
  · have em : macOf l n k = if t.x.known then (t.x.mac, true) else (Mac.zero, false) := by unfold macOf; rw [f1]; simp [f4]
    rw [em]
    rw [look_some f2 f3] at C
    have hm := List.mem_of_getElem? f3
    have E0 := h.eat t hm
    have R := Lib.hid C
    have F0 := Lib.hid hf0
    have HE := Lib.hid E0
    have hbp := E0.1.lt
    clear C hf0 h hp hs em f1 f2 f3 f4 f5 hm
    cases hk : t.x.known with
    | false =>
      have HK := Lib.hid hk; clear hk
      simp only [Bool.false_eq_true, if_false]
      go_enter Try.func20, Try.ntmps20
      go_wp2_with (go_at_call 25; refine R.out.mono ?_)
      rintro e w1 ⟨rfl, hf1⟩
      have B0 := Lib.hid (Blk.fr (Blk.new (w.alloc (.cells #[.int .i64 n, .int .u32 k] 39)) 23 [.int .u8 0, .int .u8 0, .int .u8 0, .int .u8 0, .int .u8 0, .int .u8 0]) hf1 (fun e => e))
      have hf2 := Lib.hid (F0.out.trans hf1 (fun _ _ e => e))
      have hz : w1.heap.size > w.heap.size + 1 := by have := hf1.size; simp at this; omega
      have p0 : w1.cell? ⟨t.bp, 0, none⟩ = some (.bool false) := by rw [← HK.out]; exact hf2.out.cellS E0.p0 (fun e => e)
      clear hf1 E0
      go_wp2_with (with_reducible refine here (o := ⟨none, .store 23 _ _, _, _, _, _⟩) ?_; refine wpList_store_blk rfl _ (.tmp 4) (.tmp 19) rfl _ [.int .u8 0, .int .u8 0, .int .u8 0, .int .u8 0, .int .u8 0, .int .u8 0] rfl rfl _ [.int .u8 0, .int .u8 0, .int .u8 0, .int .u8 0, .int .u8 0, .int .u8 0] (by simpa using B0.out) (by kernel_rfl) rfl (by simp [Value.oneCell']) ?_)
      intro w2 hb2 hg2
      have hf3 := hf2.out.grown hg2 (by intro k hk hlt; simp at hk; omega)
      have HF := Lib.hid hf3
      clear hf3 hg2 hf2
      have HB := Lib.hid hb2; clear hb2
      go_wp2_with fail
      refine bodyPost_ret (results_cell2 rfl _ _ _ _ _ rfl HB.out _ Try.underlying23 rfl (by kernel_rfl)) rfl ?_
      exact ⟨rfl, HF.out⟩
    | true =>
      have HK := Lib.hid hk; clear hk
      simp only [if_true]
      go_enter Try.func20, Try.ntmps20
      go_wp2_with (go_at_call 25; refine R.out.mono ?_)
      rintro e w1 ⟨rfl, hf1⟩
      have B0 := Lib.hid (Blk.fr (Blk.new (w.alloc (.cells #[.int .i64 n, .int .u32 k] 39)) 23 [.int .u8 0, .int .u8 0, .int .u8 0, .int .u8 0, .int .u8 0, .int .u8 0]) hf1 (fun e => e))
      have hf2 := Lib.hid (F0.out.trans hf1 (fun _ _ e => e))
      have hz : w1.heap.size > w.heap.size + 1 := by have := hf1.size; simp at this; omega
      have hbl := E0.1.fr hf2.out (fun e => e)
      have p0 : w1.cell? ⟨t.bp, 0, none⟩ = some (.bool true) := by rw [← HK.out]; exact hbl.cellS rfl
      have p1 := hbl.cellS (i := 1) rfl; have p2 := hbl.cellS (i := 2) rfl; have p3 := hbl.cellS (i := 3) rfl; have p4 := hbl.cellS (i := 4) rfl; have p5 := hbl.cellS (i := 5) rfl; have p6 := hbl.cellS (i := 6) rfl
      clear hf1 E0 hbl
      go_wp2_with (with_reducible refine here (o := ⟨none, .store 23 _ _, _, _, _, _⟩) ?_; refine wpList_store_blk rfl _ (.tmp 4) (.tmp 23) rfl _ [.int .u8 t.x.mac.a, .int .u8 t.x.mac.b, .int .u8 t.x.mac.c, .int .u8 t.x.mac.d, .int .u8 t.x.mac.e, .int .u8 t.x.mac.f] rfl rfl _ [.int .u8 0, .int .u8 0, .int .u8 0, .int .u8 0, .int .u8 0, .int .u8 0] (by simpa using B0.out) (by kernel_rfl) rfl (by simp [Value.oneCell']) ?_)
      intro w2 hb2 hg2
      have hf3 := hf2.out.grown hg2 (by intro k hk hlt; simp at hk; omega)
      have HF := Lib.hid hf3
      clear hf3 hg2 hf2 p0 p1 p2 p3 p4 p5 p6
      have HB := Lib.hid hb2; clear hb2
      go_wp2_with fail
      refine bodyPost_ret (results_cell2 rfl _ _ _ _ _ rfl HB.out _ Try.underlying23 rfl (by kernel_rfl)) rfl ?_
      exact ⟨rfl, HF.out⟩
end

end Go.Proofs.Ytaokmbmimogdgaa
