/- The function that the cache hands to the sort: places by their card, then by their address. -/
import Derived.Test.YtaokmbmimogdgaaCmp
import Derived.Shelf.SlSortCmp.NoneTotal
namespace Go.Proofs.Ytaokmbmimogdgaa
open Go.RowKit Go.Shelf Go.Lib Go.Sort
attribute [local go_sem ↓] Go.wp_at_zero Go.wp_at_succ

set_option maxHeartbeats 1000000 in
theorem order_closure (p q : Int × Int) (W : World) : Calls Try.prog 36 #[.agg #[.int .i64 p.1, .int .u32 p.2], .agg #[.int .i64 q.1, .int .u32 q.2]] W fun e w' =>
    e = .returned (.int .i64 (cmpP p q)) ∧ ∃ m os', w' = grow (W.drewN m) os' := by
  obtain ⟨a, b⟩ := p
  obtain ⟨c, d⟩ := q
  unfold cmpP
  generalize hx : cmpI a c = x
  generalize hy : cmpI b d = y
  have h1 : ∀ w, Calls Try.prog 38 #[.int .i64 a, .int .i64 c] w fun e w' => e = .returned (.int .i64 x) ∧ w' = w := by intro w; rw [← hx]; exact compare_int a c w
  have h2 : ∀ w, Calls Try.prog 39 #[.int .u32 b, .int .u32 d] w fun e w' => e = .returned (.int .i64 y) ∧ w' = w := by intro w; rw [← hy]; exact compare_u32 b d w
  clear hx hy
  have h3 : ∀ g w, w.cell? ⟨g, 0, none⟩ = some (.int .i64 x) → w.cell? ⟨g, 1, none⟩ = some (.int .i64 y) → Calls Try.prog 37 #[.slice (some ⟨g, 0, none⟩) 2 2] w fun e w' => e = .returned (.int .i64 (if x = 0 then y else x)) ∧ w' = w := fun g w => or_two x y g w
  generalize (if x = 0 then y else x) = r at h3 ⊢
  go_enter Try.func36, Try.ntmps36
  go_wp2_with fail
  have g0 := (Blk.new W 39 [.int .i64 a, .int .u32 b]).alloc (.cells #[.int .i64 c, .int .u32 d] 39)
  have g1 := Blk.new (W.alloc (.cells #[.int .i64 a, .int .u32 b] 39)) 39 [.int .i64 c, .int .u32 d]
  have e0 : ((W.alloc (.cells #[.int .i64 a, .int .u32 b] 39)).alloc (.cells #[.int .i64 c, .int .u32 d] 39)).cell? ⟨W.heap.size, 0, none⟩ = some (.int .i64 a) := g0.cell 0
  have e1 : ((W.alloc (.cells #[.int .i64 a, .int .u32 b] 39)).alloc (.cells #[.int .i64 c, .int .u32 d] 39)).cell? ⟨W.heap.size, 1, none⟩ = some (.int .u32 b) := g0.cell 1
  have e2 : ((W.alloc (.cells #[.int .i64 a, .int .u32 b] 39)).alloc (.cells #[.int .i64 c, .int .u32 d] 39)).cell? ⟨W.heap.size + 1, 0, none⟩ = some (.int .i64 c) := by rw [World.size_alloc] at g1; exact g1.cell 0
  have e3 : ((W.alloc (.cells #[.int .i64 a, .int .u32 b] 39)).alloc (.cells #[.int .i64 c, .int .u32 d] 39)).cell? ⟨W.heap.size + 1, 1, none⟩ = some (.int .u32 d) := by rw [World.size_alloc] at g1; exact g1.cell 1
  obtain ⟨V, hV⟩ : ∃ V, (W.alloc (.cells #[.int .i64 a, .int .u32 b] 39)).alloc (.cells #[.int .i64 c, .int .u32 d] 39) = V := ⟨_, rfl⟩
  rw [hV] at e0 e1 e2 e3 ⊢
  clear g0 g1
  go_region_held3 (fun w' => w'.cell? ⟨W.heap.size, 0, none⟩ = some (.int .i64 a) ∧ w'.cell? ⟨W.heap.size, 1, none⟩ = some (.int .u32 b) ∧ w'.cell? ⟨W.heap.size + 1, 0, none⟩ = some (.int .i64 c) ∧ w'.cell? ⟨W.heap.size + 1, 1, none⟩ = some (.int .u32 d)) (go_keep)
    (first
      | (go_at_call 38; refine (h1 _).mono ?_; rintro e w' ⟨rfl, rfl⟩)
      | (go_at_call 39; refine (h2 _).mono ?_; rintro e w' ⟨rfl, rfl⟩)
      | (go_at_call 37; refine (h3 V.heap.size _ (by exact (Blk.new V 3 [.int .i64 x, .int .i64 y]).cell 0) (by exact (Blk.new V 3 [.int .i64 x, .int .i64 y]).cell 1)).mono ?_; rintro e w' ⟨rfl, rfl⟩))
  go_wp2
  go_ret
  refine ⟨rfl, 1, #[.cells #[.int .i64 a, .int .u32 b] 39, .cells #[.int .i64 c, .int .u32 d] 39, .cells #[.int .i64 x, .int .i64 y] 3], ?_⟩
  rw [← hV]
  simp only [alloc_eq_grow, grow_grow]
  rfl

end Go.Proofs.Ytaokmbmimogdgaa
