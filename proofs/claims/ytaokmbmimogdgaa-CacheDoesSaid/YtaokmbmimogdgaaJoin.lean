/- Contracts of octet.Join and the reference's Add: new bytes, nothing that was there has turned. -/
import Derived.Test.YtaokmbmimogdgaaBytes
import Derived.Test.YtaokmbmimogdgaaTypes
namespace Go.Proofs.Ytaokmbmimogdgaa
open Go.RowKit

/-- Returned bytes in new memory; what was there is as it was. -/
def NewB (w : World) (l : List Int) (e : Ending) (w' : World) : Prop := ∃ u, e = .returned u ∧ RdB Nil w' u l ∧ Fr Nil w w'

set_option maxHeartbeats 1000000 in
theorem join_any (G H : Nat → Prop) (w : World) (v : Value) (ll : List (List Int)) (h : RdBB G H w v ll) (hn : ll.length ≤ 1000000) (hb : ll.flatten.length ≤ 1000000000000) :
    Calls Try.prog 27 #[v] w (NewB w ll.flatten) := by
  obtain ⟨i0, hi0, hz0, hz1, hz2⟩ := info_parts infoU8
  obtain ⟨xs, hxl, ⟨a, c, rfl, hc, ha⟩, hxs⟩ := h
  have Hxs := Lib.hid hxs; clear hxs
  have Hxl := Lib.hid hxl; clear hxl
  have Ha := Lib.hid ha; clear ha
  have Hb := Lib.hid hb; clear hb
  go_enter Try.func27, Try.ntmps27
  go_wp2
  go_loopw [3, 8, 5] (fun o i _ wr => ∃ k : Nat, k ≤ ll.length ∧ i = .int .i64 k ∧ wr.ownsRow w.heap.size 5 1 o ((ll.take k).flatten.length) (bv (ll.take k).flatten) ∧ Fr Nil w wr) (fun _ i _ _ => ll.length - (intOf i).toNat)
  case atStart => exact ⟨0, Nat.zero_le _, rfl, World.ownsRow_nil _ _ _ _, Fr.refl _ _⟩
  case round =>
    obtain ⟨k, hk, rfl, hown, hfr⟩ := hrel
    have Hown := Lib.hid hown; clear hown
    have Hfr := Lib.hid hfr; clear hfr
    by_cases hlt : k < ll.length
    · have hkx : k < xs.length := by have := Hxl.out; omega
      obtain ⟨b, o, rfl, hG, hbs, hcell⟩ := Ha.out (by intro e; subst e; simp at hkx)
      have h1 : wr.cell? ⟨b, o + k, none⟩ = some xs[k] := by
        rw [Hfr.out.cell (p := ⟨b, o + k, none⟩) hbs (fun e => e)]; exact hcell k _ (List.getElem?_eq_getElem hkx)
      have r1 : RdB H wr xs[k] ll[k] := (Hxs.out k _ _ (List.getElem?_eq_getElem hkx) (List.getElem?_eq_getElem hlt)).frN Hfr.out
      have t1 : (ll.take (k + 1)).flatten = (ll.take k).flatten ++ ll[k] := by
        rw [List.take_succ_eq_append_getElem hlt]; simp only [List.flatten_append, List.flatten_cons, List.flatten_nil, List.append_nil]
      have hle : (ll.take (k + 1)).flatten.length ≤ ll.flatten.length := by
        have e : ll.flatten = (ll.take (k + 1)).flatten ++ (ll.drop (k + 1)).flatten := by rw [← List.flatten_append, List.take_append_drop]
        rw [e]; simp
      have hle2 : (ll.take k).flatten.length + ll[k].length ≤ 1000000000000 := by
        have := Hb.out; rw [t1] at hle; simp only [List.length_append] at hle; omega
      have hsz := Hfr.out.size
      generalize xs[k] = u at *
      generalize hx : ll[k] = x at *
      have T1 := Lib.hid t1; clear t1 hx
      have R1 := Lib.hid r1; clear r1
      clear hcell
      go_wp2_with
        (at_builtin
         refine wpList_append_rd _ rfl (.tmp 12) (.tmp 13) _ rfl w.heap.size 5 i0 _ 1 1 Try.underlying40 hi0 hz0 hz1 hz2 rfl (by omega) _ _ _ rfl
           Hown.out _ _ x.length (bv x) rfl R1.out (by simp) (bv_one _) (by simp only [maxLen]; omega) (by omega) hsz ?_
         intro v1 w1 hown1 hg1 hat1
         have Hown1 := Lib.hid hown1; clear hown1
         have Hg1 := Lib.hid hg1; clear hg1
         clear hat1)
      go_roundw
      case rel =>
        refine ⟨k + 1, by omega, by go_num, ?_, Hfr.out.grown Hg1.out ?_⟩
        · have := Hown1.out
          rw [T1.out]; simpa using this
        · intro b hh hb
          have := (Hown.out.lt b hh).1
          omega
      case measure => simp [intOf]; omega
    · have hk' : k = ll.length := by omega
      have Hk := Lib.hid hk'; clear hk'
      go_wp2
      go_ret
      refine ⟨_, rfl, ?_, Hfr.out⟩
      have := Hown.out
      rw [Hk.out, List.take_length] at this
      exact RdB.of_own this

theorem run_bs0 (ρ : Operand → Value) (d : Option Tmp) (ty : TypeId) (pos : String) (af : Array Edge) (g : Option (Nat × Bool)) (w : World) :
    (execOp ρ ⟨d, .buildSlice 40 0 #[], ty, pos, af, g⟩).run Try.prog w = .ok (.value (.slice (some ⟨w.heap.size, 0, none⟩) 0 0)) (w.alloc (.cells #[] 5)) := by kernel_rfl

set_option maxHeartbeats 1000000 in
theorem add_any (G H : Nat → Prop) (w : World) (va vb : Value) (la lb : List Int) (ha : RdB G w va la) (hb : RdB H w vb lb) (hla : la.length ≤ 1000000000) (hlb : lb.length ≤ 1000000000) :
    Calls Try.prog 32 #[va, vb] w (NewB w (la ++ lb)) := by
  obtain ⟨i0, hi0, hz0, hz1, hz2⟩ := info_parts infoU8
  have Ha := Lib.hid ha; clear ha
  have Hb := Lib.hid hb; clear hb
  have h0 : (w.alloc (.cells #[] 5)).ownsRow w.heap.size 5 1 (.slice (some ⟨w.heap.size, 0, none⟩) 0 0) 0 [] := World.ownsRow_made w #[] 0 (Nat.le_refl _) (by simp [maxLen]) rfl
  have H0 := Lib.hid h0; clear h0
  have f0 : Fr Nil w (w.alloc (.cells #[] 5)) := (Fr.refl _ _).alloc _
  have F0 := Lib.hid f0; clear f0
  go_enter Try.func32, Try.ntmps32
  iterate 9 go_step
  go_step
  refine wpList_value (o := ⟨some 6, _, _, _, _, _⟩) rfl _ _ (run_bs0 _ _ _ _ _ _ _) ?_
  go_wp2_with (at_builtin; refine wpList_append_rd _ rfl (.tmp 7) (.tmp 8) _ rfl w.heap.size 5 i0 _ 1 1 Try.underlying40 hi0 hz0 hz1 hz2 rfl (by omega) _ _ _ rfl H0.out _ _ la.length (bv la) rfl (Ha.out.frN F0.out) (by simp) (bv_one _) (by simp only [maxLen]; omega) (by omega) (by simp) ?_)
  intro v1 w1 hown1 hg1 hat1
  have f1 : Fr Nil w w1 := F0.out.grown hg1 (by intro k e hk; simp [Value.ownBlock] at e; omega)
  have Hown1 := Lib.hid hown1; clear hown1
  have F1 := Lib.hid f1; clear f1
  have hsz1 := F1.out.size
  clear hat1 hg1
  go_wp2_with (at_builtin; refine wpList_append_rd _ rfl (.tmp 10) (.tmp 11) _ rfl w.heap.size 5 i0 _ 1 1 Try.underlying40 hi0 hz0 hz1 hz2 rfl (by omega) _ _ _ rfl Hown1.out _ _ lb.length (bv lb) rfl (Hb.out.frN F1.out) (by simp) (bv_one _) (by simp only [maxLen]; omega) (by omega) hsz1 ?_)
  intro v2 w2 hown2 hg2 hat2
  have f2 : Fr Nil w w2 := F1.out.grown hg2 (by intro k e hk; have := (Hown1.out.lt k e).1; omega)
  have Hown2 := Lib.hid hown2; clear hown2
  have F2 := Lib.hid f2; clear f2
  clear hat2 hg2
  go_wp2_with fail
  go_ret
  refine ⟨_, rfl, ?_, F2.out⟩
  have := Hown2.out
  simp only [← bv_append, ← List.length_append] at this
  exact RdB.of_own this

end Go.Proofs.Ytaokmbmimogdgaa
