/- What the law's own small trial of a cache comes to: it answers true. -/
import Derived.Test.YtaokmbmimogdgaaCacheCalls
namespace Go.Proofs.Ytaokmbmimogdgaa
open Go.RowKit Go.ChangeMaps

def lconf : List Value := [.int .u8 0, .int .u8 0, .int .u8 0, .int .u8 0, .int .u8 0, .int .u8 0, .int .u8 0, .int .u8 0, .int .u8 0, .int .u8 0, .int .u8 0, .int .u8 0,
  .int .u32 0, .int .u32 0, .int .i64 0, .int .i64 0, .int .u32 0, .int .i64 0, .int .u64 0, .int .u64 0, .int .u64 0, .int .u64 0, .int .u16 0, .int .i64 0, .int .i64 0, .int .i64 0, .int .i64 0,
  .int .i64 1, .int .i64 2, .int .i64 3, .int .i64 1, .int .i64 2, .int .i64 0, .int .i64 0, .int .i64 0, .int .i64 0, .int .i64 0, .int .i64 0, .int .i64 0, .int .i64 0]
def lcf : Cf := ⟨1, 2, 3, 1, 2⟩
theorem lcf_ok : CfOK lconf lcf := ⟨rfl, rfl, rfl, rfl, rfl, rfl, by decide⟩
def l1 : List One := [⟨1, 5, false, Mac.zero, 1, 0, [[1]]⟩]
def l2 : List One := [⟨1, 5, false, Mac.zero, 1, 0, [[1], [2]]⟩]
def lm : Mac := ⟨2, 0, 0, 0, 0, 0⟩
def l3 : List One := [⟨1, 5, true, lm, 0, 0, []⟩]
theorem lw1 : want lcf 0 [] 1 5 [1] = ((true, 0), l1) := by rfl
theorem lw2 : want lcf 0 l1 1 5 [2] = ((false, 0), l2) := by rfl
theorem lw3 : learn lcf 0 l2 1 5 lm false = (([[1], [2]], true), l3) := by rfl
theorem lf1 : Fine lcf 0 [] 0 := Fine.new lcf 0
theorem lf2 : Fine lcf 0 l1 1 := by have := lf1.want 1 5 [1]; rwa [lw1] at this
theorem lf3 : Fine lcf 0 l2 2 := by have := lf2.want 1 5 [2]; rwa [lw2] at this

theorem rdb_new (w : World) (x : Int) : RdB Nil (w.alloc (.cells #[.int .u8 x] 5)) (.slice (some ⟨w.heap.size, 0, none⟩) 1 1) [x] :=
  ⟨_, _, rfl, Nat.le_refl _, fun _ => ⟨w.heap.size, 0, rfl, .inr (Blk.new w 5 [.int .u8 x]).tag, (Blk.new w 5 [.int .u8 x]).lt, fun j v hv => by rw [Nat.zero_add]; exact (Blk.new w 5 [.int .u8 x]).cellS hv⟩⟩

theorem rdbb_head {G H : Nat → Prop} {w : World} {u : Value} {x : Int} {b : List Int} {ll : List (List Int)} (h : RdBB G H w u ((x :: b) :: ll)) :
    ∃ g o c g0 o0 c0, u = .slice (some ⟨g, o, none⟩) (ll.length + 1) c ∧ w.cell? ⟨g, o, none⟩ = some (.slice (some ⟨g0, o0, none⟩) (b.length + 1) c0) ∧ w.cell? ⟨g0, o0, none⟩ = some (.int .u8 x) := by
  obtain ⟨vs, hl, ⟨a, c, rfl, _, hne⟩, hv⟩ := h
  cases vs with
  | nil => simp at hl
  | cons v0 vs =>
    obtain ⟨g, o, rfl, _, _, hc⟩ := hne (by simp)
    have hc0 := hc 0 v0 rfl
    obtain ⟨a0, c0, rfl, _, hne0⟩ := hv 0 v0 (x :: b) rfl rfl
    obtain ⟨g0, o0, rfl, _, _, hd⟩ := hne0 (by simp [bv])
    exact ⟨g, o, c, g0, o0, c0, rfl, by simpa using hc0, by simpa [bv] using hd 0 (.int .u8 x) rfl⟩

set_option maxRecDepth 100000 in
set_option maxHeartbeats 3000000 in
theorem lives_any (w : World) : Calls Try.prog 13 #[] w (RetF (.bool true) Nil w) := by
  have hn := new_any w lconf lcf lcf_ok 0
  unfold lconf at hn
  have HN := Lib.hid hn
  clear hn
  go_enter Try.func13, Try.ntmps13
  go_wp2_with (go_at_call 6; refine HN.out.mono ?_)
  rintro e w1 ⟨bc, rfl, hc, hf⟩
  have HC1 := Lib.hid hc
  have HF1 := Lib.hid hf
  clear hc hf HN
  have B2 := Blk.new w1 39 [.int .i64 1, .int .u32 5]
  have hf2 : Fr Nil w1 (w1.alloc (.cells #[.int .i64 1, .int .u32 5] 39)) := (Fr.refl _ _).alloc _
  have b20 := B2.cellS (i := 0) rfl
  have b21 := B2.cellS (i := 1) rfl
  have hb2 := B2.lt
  have hf2b : Fr Nil w1 ((w1.alloc (.cells #[.int .i64 1, .int .u32 5] 39)).alloc (.cells #[.int .u8 1] 5)) := hf2.alloc _
  have R1 := want_calls (HC1.out.fr hf2b (fun _ _ e => e)) lf1 (by omega) 1 5 _ (rdb_new (w1.alloc (.cells #[.int .i64 1, .int .u32 5] 39)) 1) (fun _ _ e => e.elim) (by decide)
  rw [show clamp 0 0 1073741824 = 0 from rfl, lw1] at R1
  simp only [World.size_alloc] at R1
  have HR1 := Lib.hid R1
  have HF2 := Lib.hid (HF1.out.trans hf2b (fun _ _ e => e))
  have b20' := ((Fr.refl Nil (w1.alloc (.cells #[.int .i64 1, .int .u32 5] 39))).alloc (.cells #[.int .u8 1] 5)).cellS b20 (fun e => e)
  have b21' := ((Fr.refl Nil (w1.alloc (.cells #[.int .i64 1, .int .u32 5] 39))).alloc (.cells #[.int .u8 1] 5)).cellS b21 (fun e => e)
  have hlt := HC1.out.lt
  have HLT := Lib.hid hlt
  clear R1 hf2 hf2b b20 b21 hlt B2
  have hs1 : w1.heap.size < ((w1.alloc (.cells #[.int .i64 1, .int .u32 5] 39)).alloc (.cells #[.int .u8 1] 5)).heap.size := by simp; omega
  have hw1 : w.heap.size ≤ w1.heap.size := HF1.out.size
  have b00 := (Blk.new w1 39 [.int .i64 1, .int .u32 5]).cellS (i := 0) rfl
  have b01 := (Blk.new w1 39 [.int .i64 1, .int .u32 5]).cellS (i := 1) rfl
  go_wp2_with (go_at_call 8; refine HR1.out.mono ?_)
  clear b00 b01
  generalize (w1.alloc (.cells #[.int .i64 1, .int .u32 5] 39)).alloc (.cells #[.int .u8 1] 5) = w2 at *
  rintro e w3 ⟨rfl, hf3, F3, hc3, hn3⟩
  have n3 : ¬ F3 w1.heap.size := fun h => by
    rcases hn3 _ h with h | h
    · have := HLT.out _ h; omega
    · omega
  have d0 := hf3.cellS b20' (fun h => by have := HLT.out _ h; simp at this)
  have d1 := hf3.cellS b21' (fun h => by have := HLT.out _ h; simp at this)
  have HF3 := Lib.hid (HF2.out.trans hf3 (fun k hk h => by have := h.1; omega))
  have HC3 := Lib.hid hc3
  have N3 := Lib.hid n3
  have HN3 := Lib.hid (fun b (h : F3 b) => show w.heap.size ≤ b by rcases hn3 b h with h | h; exact h.1; have := HF2.out.size; omega)
  have hs3 : w1.heap.size < w3.heap.size := Nat.lt_of_lt_of_le hs1 hf3.size
  clear hf3 hc3 n3 hn3 HR1 HC1 HF2 HLT b20' b21' hs1 HF1
  have hf4 : Fr Nil w3 (w3.alloc (.cells #[.int .u8 2] 5)) := (Fr.refl _ _).alloc _
  have R2 := want_calls (HC3.out.fr hf4 (fun _ _ e => e)) lf2 (by omega) 1 5 _ (rdb_new w3 2) (fun _ _ e => e.elim) (by decide)
  rw [lw2] at R2
  have HR2 := Lib.hid R2
  have HF4 := Lib.hid hf4
  clear R2 hf4
  go_wp2_with (go_at_call 8; refine HR2.out.mono ?_)
  rintro e w5 ⟨rfl, hf5, F5, hc5, hn5⟩
  have n5 : ¬ F5 w1.heap.size := fun h => by
    rcases hn5 _ h with h | h
    · exact N3.out h
    · simp at h; omega
  have e0 := hf5.cellS (HF4.out.cellS d0 (fun e => e)) N3.out
  have e1 := hf5.cellS (HF4.out.cellS d1 (fun e => e)) N3.out
  have hw3 : w.heap.size ≤ w3.heap.size := HF3.out.size
  have HF5 := Lib.hid ((HF3.out.trans HF4.out (fun _ _ e => e)).trans hf5 (fun k hk h => by have := HN3.out k h; omega))
  have HC5 := Lib.hid hc5
  have N5 := Lib.hid n5
  have HN5 := Lib.hid (fun b (h : F5 b) => show w.heap.size ≤ b by rcases hn5 b h with h | h; exact HN3.out b h; simp at h; omega)
  clear hf5 hc5 n5 hn5 HR2 HC3 HF4 HF3 N3 HN3 d0 d1
  have R3 := learn_calls HC5.out lf3 (by omega) 1 5 lm false
  rw [lw3] at R3
  unfold lm macV at R3
  have HR3 := Lib.hid R3
  clear R3
  go_wp2_with (go_at_call 9; refine HR3.out.mono ?_)
  rintro e w6 ⟨u, rfl, hr6, hf6, F6, hc6, hn6⟩
  obtain ⟨g, o, cc, g0, o0, c0, rfl, r0, r1⟩ := rdbb_head hr6
  have f0 := hf6.cellS e0 N5.out
  have f1 := hf6.cellS e1 N5.out
  have HF6 := Lib.hid (HF5.out.trans hf6 (fun k hk h => by have := HN5.out k h; omega))
  have HC6 := Lib.hid hc6
  have R6 := find_calls hc6 1 5
  rw [show macOf l3 1 5 = (lm, true) from rfl] at R6
  unfold lm macV at R6
  have HR6 := Lib.hid R6
  clear hr6 hf6 hc6 hn6 R6 HR3 HC5 HF5 N5 HN5 e0 e1
  go_wp2_with (go_at_call 20; refine HR6.out.mono ?_)
  rintro e w7 ⟨rfl, hf7⟩
  have hf8 : Fr Nil w7 (w7.alloc (.cells #[.int .u8 2, .int .u8 0, .int .u8 0, .int .u8 0, .int .u8 0, .int .u8 0] 23)) := (Fr.refl _ _).alloc _
  have s0 := hf8.cellS (hf7.cellS r0 (fun e => e)) (fun e => e)
  have s1 := hf8.cellS (hf7.cellS r1 (fun e => e)) (fun e => e)
  have HF7 := Lib.hid ((HF6.out.trans hf7 (fun _ _ e => e)).trans hf8 (fun _ _ e => e))
  clear hf8 hf7 r0 r1 HF6 HC6 HR6 f0 f1
  go_wp2
  go_ret
  exact ⟨rfl, HF7.out⟩

end Go.Proofs.Ytaokmbmimogdgaa
