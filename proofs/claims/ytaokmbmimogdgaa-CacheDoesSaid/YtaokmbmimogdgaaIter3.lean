/- slices.AppendSeq and slices.Collect at places, over whatever iterator hands places out. -/
import Derived.Test.YtaokmbmimogdgaaIter2
import Derived.Maps.AppendAt
namespace Go.Proofs.Ytaokmbmimogdgaa
open Go.RowKit Go.ChangeMaps Go.Shelf Go.MapKept

attribute [local go_sem] Oper.semAt_some

theorem infoPl : (Try.prog.info? 39).map (fun i => (i.zero, i.size, i.bytes)) = some (some (.agg #[.int .i64 0, .int .u32 0]), 2, 16) := by kernel_rfl

/-- A row of places, as cells. -/
def pcs (p : Int × Int) : List Value := [.int .i64 p.1, .int .u32 p.2]
def pcells (l : List (Int × Int)) : List Value := l.flatMap pcs
theorem pcells_append (l m : List (Int × Int)) : pcells (l ++ m) = pcells l ++ pcells m := by simp [pcells]
theorem pcells_length (l : List (Int × Int)) : (pcells l).length = l.length * 2 := by
  induction l with
  | nil => rfl
  | cons a l ih => show (pcs a ++ pcells l).length = _; rw [List.length_append, ih]; simp [pcs]; omega

set_option maxRecDepth 100000 in
set_option maxHeartbeats 2000000 in
/-- slices.AppendSeq(nil, seq): what the iterator gave, in that order. -/
theorem appendSeq_in (F : Fence) (n : Nat) (h45 : F.fn 45) (hro : F.round = none) (hn : 2 ≤ n) (g : Nat) (lb : Array Value) (hFg : F.fn g) (eg : ∀ args w, (callFunc g args).run Try.prog w = .ok (.enter g args) w)
    (S : List (Int × Int) → Prop) (N : Nat) (hN : N ≤ 1000000) (w : World) (hseq : SeqStopsK F (n - 1) Try.prog g lb (fun x : Int × Int => #[kv x]) KeepsWalks S (fun _ => True) N w) :
    CallsIn F n Try.prog 45 #[.slice none 0 0, .func (.func g) #[] lb] w fun e w' =>
      ∃ (v : Value) (ss : List (Int × Int)), e = .returned v ∧ S ss ∧ w'.ownsRow w.heap.size 39 2 v ss.length (pcells ss) ∧ Below w.heap.size w w' := by
  have h1 : 1 ≤ n := by omega
  obtain ⟨i0, hi, hz0, hz1, hz2⟩ := info_parts infoPl
  have hmax : maxLen = 9223372036854775807 := rfl
  refine callsIn_of_wp_marks Try.func45 rfl h45 ?_ hro
  simp only [Try.ntmps45, List.size_toArray, List.length_cons, List.length_nil, Nat.reduceAdd, Nat.reduceSub, Array.replicate_succ, Array.replicate_zero, List.push_toArray, List.append_toArray, List.nil_append, List.cons_append]
  gi_wp2
  have bO := Boxed.new w 51 (.slice none 0 0)
  have hB0 : Below w.heap.size w (w.alloc (.cells #[.slice none 0 0] 51)) := (Below.refl _ w).alloc (Nat.le_refl _) _
  refine wpIn_rangeFunc_ownH hro h1 (gf := g) (lb := lb) rfl hFg eg hseq walksK_t walksK_b hB0 (fun _ => rfl)
    (fun pre W => (∃ v, Boxed W w.heap.size 51 v ∧ W.ownsRow w.heap.size 39 2 v pre.length (pcells pre) ∧ True) ∧ Below w.heap.size w W)
    (fun _ _ _ => False)
    (OwnFrom.and (Own.from (holdsRow_own w.heap.size w.heap.size 51 39 2 (fun pre => pre.length) (fun pre => pcells pre) (fun _ _ => True)) _) (ownFrom_below (Nat.le_refl _) (by simp)))
    (fun _ _ _ _ _ hs _ _ => hs)
    ⟨⟨_, bO, World.ownsRow_nil _ _ _ _, trivial⟩, hB0⟩
    (fun x a' W => ∃ Bx, w.heap.size < Bx ∧ W.heap[Bx]? = some (.cells #[.int .i64 x.1, .int .u32 x.2] 39 (0, 0)) ∧ a' = { tmps := #[.slice none 0 0, .func (.func g) #[] lb, .pointer (some ⟨w.heap.size, 0, none⟩), undef, .slice none 0 0, .pointer (some ⟨Bx, 0, none⟩), .func (.func g) #[] lb, kv x, undef, undef, undef, undef, undef], defers := [] })
    (fun x a' _ A B row hs hg hr => by
      obtain ⟨Bx, h1, h2, h3⟩ := hs
      refine ⟨Bx, h1, (hg.block Bx (Array.getElem?_eq_some_iff.1 h2).1 (fun e => ?_)).trans h2, h3⟩
      obtain ⟨_, o, ho, hc⟩ := hr Bx e.symm
      rw [h2] at ho; cases ho; cases hc)
    ?assign ?body ?done ?stop
  case assign =>
    rintro l pre ⟨x1, x2⟩ W K ⟨⟨v, hv, hr, _⟩, hB⟩ hK
    simp only [kv] at hK ⊢
    have := hB.size
    gi_wp2
    refine hK _ _ ((KeepsOthers.alloc W _).from _) (KeepsWalks.alloc W _) ⟨⟨v, hv.alloc _, hr.alloc _, trivial⟩, hB.alloc hB.size _⟩ ⟨W.heap.size, ?_, World.alloc_heap_new W _, rfl⟩
    exact hv.lt
  case body =>
    rintro l pre ⟨x1, x2⟩ a' W hl hl2 ⟨⟨v, hv, hrow, _⟩, hB⟩ ⟨Bx, hBx, bX, rfl⟩ hlt
    have hc := hv.cell
    have hX : Blk W Bx 39 [.int .i64 x1, .int .u32 x2] := bX
    have hx0 : W.cell? ⟨Bx, 0, none⟩ = some (.int .i64 x1) := hX.cell 0
    have hx1 : W.cell? ⟨Bx, 1, none⟩ = some (.int .u32 x2) := hX.cell 1
    gi_wp2_with (gi_at_builtin; refine wpListIn_append_own _ rfl _ _ 51 rfl w.heap.size 39 i0 _ 2 16 Try.underlying51 hi hz0 hz1 hz2 rfl (by decide) _ _ _ rfl (hrow.alloc _) ⟨W.heap.size, 0, none⟩ 1 1 [.int .i64 x1, .int .u32 x2] rfl rfl (fun j u h => by rw [add_lit, (Blk.new _ _ _).cell]; simpa using h) (by simp [Value.oneCell']) (by omega) (by omega) (by have := hB.size; simp; omega) ?_; intro v' w1 hown' hgrow _; obtain ⟨g', cap', rfl⟩ := ownsRow_succ hown'; obtain ⟨hv1, hv2, hr2, hk2, hb2⟩ := hv.appended (by decide) hrow hB.size (Nat.le_refl _) hown' hgrow; have hc1 := hv1.cell; have hf1 := hv1.frozen)
    exact ⟨hk2.from _, ⟨hk2.size, fun k o h hw => hk2.same k o h (Obj.not_cells_of_walk hw)⟩, ⟨_, hv2, by simpa [pcells_append, pcells, pcs] using hr2⟩, hB.trans hb2⟩
  case done =>
    rintro D ys W hD hS ⟨⟨v, hv, hrow, _⟩, hB⟩ hK
    have hc := hv.cell
    gi_wp2
    refine ⟨by simp, .inl ⟨_, _, rfl, run_takeDeferred hK, ?_⟩⟩
    exact ⟨_, results_tmp rfl _ _ _, v, ys, rfl, hS, ownsRow_putObj hrow _ hK rfl, hB.trans (belowK_b (w := w) (Nat.le_refl _) W D _ _ (by simp at hD; omega) hK rfl rfl)⟩
  case stop =>
    rintro D c pre W _ _ h _
    exact h.elim

set_option maxHeartbeats 1000000 in
theorem collect_in (F : Fence) (n : Nat) (h40 : F.fn 40) (h45 : F.fn 45) (hro : F.round = none) (hn : 3 ≤ n) (g : Nat) (lb : Array Value) (hFg : F.fn g) (eg : ∀ args w, (callFunc g args).run Try.prog w = .ok (.enter g args) w)
    (S : List (Int × Int) → Prop) (N : Nat) (hN : N ≤ 1000000) (w : World) (hseq : SeqStopsK F (n - 1 - 1) Try.prog g lb (fun x : Int × Int => #[kv x]) KeepsWalks S (fun _ => True) N w) :
    CallsIn F n Try.prog 40 #[.func (.func g) #[] lb] w fun e w' =>
      ∃ (v : Value) (ss : List (Int × Int)), e = .returned v ∧ S ss ∧ w'.ownsRow w.heap.size 39 2 v ss.length (pcells ss) ∧ Below w.heap.size w w' := by
  have h1 : 1 ≤ n := by omega
  refine callsIn_of_wp Try.func40 rfl h40 ?_ hro
  simp only [Try.ntmps40, List.size_toArray, List.length_cons, List.length_nil, Nat.reduceAdd, Nat.reduceSub, Array.replicate_succ, Array.replicate_zero, List.push_toArray, List.append_toArray, List.nil_append, List.cons_append]
  gi_wp2_with (gi_at_call 45; refine (appendSeq_in F (n - 1) h45 hro (by omega) g lb hFg eg S N hN _ hseq).mono ?_; rintro e w' ⟨v, ss, rfl, hS, hrow, hb⟩)
  go_ret
  exact ⟨v, ss, rfl, hS, hrow, hb⟩

/-- In plain words: Collect over maps.Keys' iterator at a map of places. -/
theorem collect_keys (Bm b : Nat) {kvs : List ((Int × Int) × Value)} (hnd : (kvs.map (·.1)).Nodup) (hlen : kvs.length ≤ 1000000) (w : World) (hBm : Bm < w.heap.size) (hm : w.cell? ⟨Bm, 0, none⟩ = some (.map (some b))) (hown : MapIs w b kvs) :
    Calls Try.prog 40 #[.func (.func 42) #[] #[.pointer (some ⟨Bm, 0, none⟩)]] w fun e w' =>
      ∃ (v : Value) (ss : List (Int × Int)), e = .returned v ∧ ss.Perm (kvs.map (·.1)) ∧ w'.ownsRow w.heap.size 39 2 v ss.length (pcells ss) ∧ Below w.heap.size w w' :=
  (callsIn_wide (n := 8)).1 (collect_in _ 8 trivial trivial rfl (by omega) _ _ trivial (enters_of Try.func42 (by kernel_rfl) rfl) _ kvs.length hlen w
    (keys_stops _ _ trivial rfl (by omega) Bm b hnd w hBm hm hown))

theorem keys_any (b : Nat) (w : World) : Calls Try.prog 35 #[.map (some b)] w fun e w' =>
      e = .returned (.func (.func 42) #[] #[.pointer (some ⟨w.heap.size, 0, none⟩)]) ∧ w' = w.alloc (.cells #[.map (some b)] 69) :=
  (callsIn_wide (n := 8)).1 (keys_in _ 8 trivial rfl b w)

end Go.Proofs.Ytaokmbmimogdgaa
