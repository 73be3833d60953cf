/- The reference's Tick. -/
import Derived.Test.YtaokmbmimogdgaaRefDrop
import Derived.Test.YtaokmbmimogdgaaInAny
namespace Go.Proofs.Ytaokmbmimogdgaa
open Go.RowKit
section
variable {w : World} {br : Nat} {c : Cf} {now : Int} {l : List One} {R : Nat → Prop} {conf : List Value} {u : Value}
theorem RAt.tick (h : RAt w br c now l R conf u) (now' : Int) : RAt (w.setCell ⟨br, 40, none⟩ (.int .i64 now')) br c now' l R conf u ∧ Fr (fun b => R b ∧ ¬ IsTag TBs w b) w (w.setCell ⟨br, 40, none⟩ (.int .i64 now')) := by
  have h8 : ¬ IsU8 w br := fun h8 => by have := h.blk.tag.uniq h8; revert this; decide
  have hnt : ¬ IsTag TBs w br := fun ht => by have := h.blk.tag.uniq ht; revert this; decide
  have hW : Fr (fun b => b = br) w (w.setCell ⟨br, 40, none⟩ (.int .i64 now')) := (Fr.refl (fun b => b = br) w).setCell (p := ⟨br, 40, none⟩) (fun _ => ⟨rfl, h8⟩) _
  refine ⟨⟨h.cok, ?_, h.row.fr hW (fun b hb e => by have := (h.row.tag b hb).uniq (e ▸ h.blk.tag); revert this; decide) (fun b _ ht _ e => by subst e; exact hnt ht) (fun _ _ e => e), h.rb, h.ru, fun b hb => Nat.lt_of_lt_of_le (h.lt b hb) hW.size⟩, (Fr.refl _ w).setCell (fun _ => ⟨⟨h.rb, hnt⟩, h8⟩) _⟩
  have := h.blk.set 40 (.int .i64 now')
  rw [List.set_append_right _ _ (by rw [h.cok.len]; omega), h.cok.len] at this
  exact this
def TickPost (w : World) (br : Nat) (c : Cf) (now : Int) (l : List One) (R : Nat → Prop) (e : Ending) (w' : World) : Prop :=
  ∃ v, e = .returned (.tuple #[v, .int .i64 (tickLost c (now + 1) l)]) ∧ w'.ownsRow w.heap.size 39 2 v (tickAsks c (now + 1) l).length (pcells (tickAsks c (now + 1) l)) ∧
    RNext w.heap.size w br c (now + 1) (tickRow c (now + 1) l) R w'
theorem tickRow_keep {k : Nat} {x : One} (h : l[k]? = some x) (hf : fate c now x = .keep) : tickRow c now (l.take (k + 1)) = tickRow c now (l.take k) ++ [x] := by
  rw [take_succ_one h, tickRow_append]; simp [tickRow, hf]
theorem tickRow_ask {k : Nat} {x : One} (h : l[k]? = some x) (hf : fate c now x = .ask) : tickRow c now (l.take (k + 1)) = tickRow c now (l.take k) ++ [asked now x] := by
  rw [take_succ_one h, tickRow_append]; simp [tickRow, hf]
theorem tickRow_drop {k : Nat} {x : One} (h : l[k]? = some x) (hf : fate c now x = .drop) : tickRow c now (l.take (k + 1)) = tickRow c now (l.take k) := by
  rw [take_succ_one h, tickRow_append]; simp [tickRow, hf]
theorem Gw.ownsRow {w w' : World} {row : Option Nat} (hg : Gw w w' row) {base e size n : Nat} {v : Value} {xs : List Value} (h : w.ownsRow base e size v n xs) (hn : ∀ b, v.ownBlock = some b → row ≠ some b) : w'.ownsRow base e size v n xs := by
  obtain ⟨h1, h2⟩ := h
  refine ⟨h1, ?_⟩
  rcases h2 with h2 | ⟨g, cap, cur, hv, hb, hc, h3⟩
  · exact .inl h2
  · refine .inr ⟨g, cap, cur, hv, hb, ?_, h3⟩
    have hgl : g < w.heap.size := by
      by_cases hlt : g < w.heap.size
      · exact hlt
      · rw [Array.getElem?_eq_none (by omega)] at hc; cases hc
    rw [hg.block g hgl (fun e => hn g (by rw [hv]; rfl) e.symm)]
    exact hc
theorem row_base {w : World} {base e size n : Nat} {v : Value} {xs : List Value} (h : w.ownsRow base e size v n xs) : ∀ b, v.ownBlock = some b → base ≤ b := by
  obtain ⟨_, ⟨rfl, _⟩ | ⟨g, cap, cur, rfl, hbase, _⟩⟩ := h
  · intro b hb; cases hb
  · intro b hb
    have : g = b := by simpa [Value.ownBlock] using hb
    omega
set_option maxRecDepth 100000 in
set_option maxHeartbeats 4000000 in
theorem rtick_any (h : RAt w br c now l R conf u) (hn0 : 0 ≤ now) (hn1 : now < 4000000000) (hl : l.length ≤ 1000000) (htot : total l ≤ 1000000) (hsi : ∀ x ∈ l, 0 ≤ x.since ∧ x.since ≤ now) (htr : ∀ x ∈ l, 0 ≤ x.tries) (hct : c.tries ≤ 9223372036854775807) :
    Calls Try.prog 18 #[.pointer (some ⟨br, 0, none⟩)] w (TickPost w br c now l R) := by
  have c40 := h.c40
  have q40 : w.frozen? ⟨br, 40, none⟩ = false := h.blk.frozen 40
  have hbr := h.blk.lt
  obtain ⟨h1, hF1⟩ := h.tick (now + 1)
  obtain ⟨a, cp, hu⟩ := h.row.form
  subst hu
  have H := Lib.hid h1
  have HF1 := Lib.hid hF1
  have HSI := Lib.hid hsi
  have HTR := Lib.hid htr
  have hbr2 := h1.blk.lt
  have hws : (w.setCell ⟨br, 40, none⟩ (.int .i64 (now + 1))).heap.size = w.heap.size := by simp
  have HWS := Lib.hid hws
  obtain ⟨i0, hi0, hz0, hz1, hz2⟩ := info_parts infoOne
  obtain ⟨j0, hj0, hy0, hy1, hy2⟩ := info_parts infoPl
  have hc1 := fun W' => rin_any c.retry 1 4095 (by omega) W'
  have hc2 := fun W' => rin_any c.age 1 4095 (by omega) W'
  clear h h1 hF1 hsi htr hws
  go_enter Try.func18, Try.ntmps18
  go_wp2
  generalize w.setCell ⟨br, 40, none⟩ (.int .i64 (now + 1)) = W at *
  clear c40 q40
  go_loopw [4, 5, 6, 7] (fun av ov lv iv wr => ∃ k : Nat, k ≤ l.length ∧ iv = .int .i64 k ∧ lv = .int .i64 (tickLost c (now + 1) (l.take k)) ∧ Fr Nil W wr ∧ Ones W.heap.size (fun b => R b ∨ W.heap.size ≤ b) wr ov (tickRow c (now + 1) (l.take k)) ∧
    wr.ownsRow W.heap.size 39 2 av (tickAsks c (now + 1) (l.take k)).length (pcells (tickAsks c (now + 1) (l.take k)))) (fun _ _ _ iv _ => l.length - (intOf iv).toNat)
  case atStart => exact ⟨0, Nat.zero_le _, rfl, rfl, Fr.refl _ _, Ones.nil _ _ _, World.ownsRow_nil _ _ _ _⟩
  case round =>
    obtain ⟨k, hk, rfl, rfl, hfr, hO, hA⟩ := hrel
    have HFR := Lib.hid hfr
    have HA := Lib.hid hA
    have hsz := hfr.size
    have h2 := H.out.fr hfr (fun _ _ e => e)
    have c41 := h2.c41
    by_cases hlt : k < l.length
    · obtain ⟨⟨nic, nxt, kn, mac, tries, since, waits⟩, hx⟩ : ∃ x, l[k]? = some x := ⟨_, List.getElem?_eq_getElem hlt⟩
      have hlt' : (k : Int) < (l.length : Int) := by omega
      obtain ⟨g, v, ha, hvx, d0, d1, d2, d3, d4, d5, d6, d7, d8, d9, d10, d11⟩ := h2.twelve hx
      subst ha
      obtain ⟨xa, xc, rfl⟩ := rdbb_form hvx
      dsimp only at hvx d0 d1 d2 d3 d4 d5 d6 d7 d8 d9 d10 d11
      have hg : g < wr.heap.size := World.block_lt_of_cell? _ _ d0
      have hmem := List.mem_of_getElem? hx
      obtain ⟨hs0, hs1⟩ := HSI.out _ hmem
      have ht0 := HTR.out _ hmem
      dsimp only at hs0 hs1 ht0
      have e40 := h2.c40
      have e15 := h2.c15
      have e14 := h2.c14
      have e16 := h2.c16
      have hbw := h2.blk.lt
      have HVX0 := Lib.hid (rdbb_tag (R' := fun b => R b ∨ W.heap.size ≤ b) hvx (Fr.refl Nil wr) (fun _ _ _ _ e => e) (fun _ _ e => .inl e))
      have HX := Lib.hid hx
      have H1X := Lib.hid (one_one (⟨nic, nxt, kn, mac, tries, since, waits⟩ : One) hvx)
      have hll : (tickRow c (now + 1) (l.take k)).length ≤ 1000000 := by have := tickRow_length (c := c) (now := now + 1) (l.take k); simp at this; omega
      have hal : (tickAsks c (now + 1) (l.take k)).length ≤ 1000000 := by have := tickAsks_length c (now + 1) (l.take k); simp at this; omega
      have hlo : tickLost c (now + 1) (l.take k) + waits.length ≤ 1000000 := by
        have h5 := tickLost_le c (now + 1) (l.take k); have h6 := total_append (l.take k) (l.drop k); rw [List.take_append_drop, drop_one hx] at h6; simp [total] at h6; omega
      have HO := Lib.hid hO
      clear hvx hx hmem h2 hfr hA hO
      cases kn with
      | false =>
        go_wp2_with (go_at_call 24; refine (rin_any _ _ _ (by omega) _).mono ?_; rintro e w' ⟨rfl, rfl⟩)
        by_cases hkeep : now + 1 - since < clamp c.retry 1 4095
        · have hft : fate c (now + 1) (⟨nic, nxt, false, mac, tries, since, waits⟩ : One) = .keep := by unfold fate; rw [if_pos (by simpa [waitOf] using hkeep)]
          have HFT := Lib.hid hft
          clear hft
          go_quiet (fail)
          have fX : Fr Nil wr ((wr.alloc (.cells #[.int .i64 nic, .int .u32 nxt, .bool false, .int .u8 mac.a, .int .u8 mac.b, .int .u8 mac.c, .int .u8 mac.d, .int .u8 mac.e, .int .u8 mac.f, .int .i64 tries, .int .i64 since, (.slice xa waits.length xc)] 82)).drewN nq) := ((Fr.refl Nil wr).alloc _).drewN nq
          have hB : Blk ((wr.alloc (.cells #[.int .i64 nic, .int .u32 nxt, .bool false, .int .u8 mac.a, .int .u8 mac.b, .int .u8 mac.c, .int .u8 mac.d, .int .u8 mac.e, .int .u8 mac.f, .int .i64 tries, .int .i64 since, (.slice xa waits.length xc)] 82)).drewN nq) wr.heap.size TOne (oneCells (⟨nic, nxt, false, mac, tries, since, waits⟩ : One) (.slice xa waits.length xc)) := (Blk.new wr TOne (oneCells (⟨nic, nxt, false, mac, tries, since, waits⟩ : One) (.slice xa waits.length xc))).drewN nq
          generalize (wr.alloc (.cells #[.int .i64 nic, .int .u32 nxt, .bool false, .int .u8 mac.a, .int .u8 mac.b, .int .u8 mac.c, .int .u8 mac.d, .int .u8 mac.e, .int .u8 mac.f, .int .i64 tries, .int .i64 since, (.slice xa waits.length xc)] 82)).drewN nq = V at *
          have fV := fX
          have hvlt := hB.lt
          have v16 := fV.cellS e16 (fun e => e)
          have v40 := fV.cellS e40 (fun e => e)
          have x0 := hB.cellS (i := 0) rfl
          have x1 := hB.cellS (i := 1) rfl
          have x2 := hB.cellS (i := 2) rfl
          have x3 := hB.cellS (i := 3) rfl
          have x4 := hB.cellS (i := 4) rfl
          have x5 := hB.cellS (i := 5) rfl
          have x6 := hB.cellS (i := 6) rfl
          have x7 := hB.cellS (i := 7) rfl
          have x8 := hB.cellS (i := 8) rfl
          have x9 := hB.cellS (i := 9) rfl
          have x10 := hB.cellS (i := 10) rfl
          have x11 := hB.cellS (i := 11) rfl
          have fZ : Fr Nil wr (V.alloc (.cells (oneCells (⟨nic, nxt, false, mac, tries, since, waits⟩ : One) (.slice xa waits.length xc)).toArray TOne)) := fV.alloc _
          have hOX := HO.out.fr (R' := fun b => R b ∨ W.heap.size ≤ b) fZ (fun _ _ e => e) (fun _ _ _ _ e => e) (fun _ _ e => e)
          have HVX := Lib.hid (rdbb_tag (R' := fun b => R b ∨ W.heap.size ≤ b) HVX0.out fZ (fun _ _ _ _ e => e) (fun _ _ e => e))
          have HAX := Lib.hid (fZ.ownsRow HA.out (fun _ _ e => e))
          have HUT := Lib.hid hOX.tag
          have HUB := Lib.hid hOX.base
          obtain ⟨us, hul, hown, hus⟩ := hOX
          have HUL := Lib.hid hul
          have HOWN := Lib.hid hown
          have HUS := Lib.hid hus
          have HNX := Lib.hid (one_new (w := V) (x := (⟨nic, nxt, false, mac, tries, since, waits⟩ : One)) (v := (.slice xa waits.length xc)))
          have HFX := Lib.hid (HFR.out.trans fZ (fun _ _ e => e))
          clear hul hown hus fZ
          unfold oneCells at HNX HOWN HUS HVX HAX
          go_wp2_with (at_builtin; refine wpList_append_rd _ rfl (.tmp 57) (.tmp 59) _ rfl W.heap.size TOne i0 _ 12 64 Try.underlying64 hi0 hz0 hz1 hz2 rfl (by omega) u5 (tickRow c (now + 1) (l.take k)).length (rowCells (tickRow c (now + 1) (l.take k)) us) (by rfl) HOWN.out (fun _ => True) (.slice (some ⟨V.heap.size, 0, none⟩) 1 1) 1 (oneCells (⟨nic, nxt, false, mac, tries, since, waits⟩ : One) (.slice xa waits.length xc)) (by rfl) HNX.out rfl H1X.out (by simp only [maxLen]; omega) (by omega) (by simp; omega) ?_; intro v2 w4 hown4 hg4 hat4; have HO4 := Lib.hid (Ones.push HUL.out HUS.out HVX.out HUT.out hown4 hg4); have HF4 := Lib.hid (HFX.out.grown hg4 (fun b hb hlt => by have := HUB.out b hb; omega)); have HA4 := Lib.hid (hg4.ownsRow HAX.out (fun b hb e => by have h1 := HUT.out b e; have h2 := row_tag HAX.out b hb; have := h1.uniq h2; revert this; decide)); clear hown4 hg4 hat4)
          go_roundw
          case rel => exact ⟨k + 1, by omega, by go_num, by rw [lost_keep HX.out (by rw [HFT.out]; simp)], HF4.out, by rw [tickRow_keep HX.out HFT.out]; exact HO4.out, by rw [asks_keep HX.out (by rw [HFT.out]; simp)]; exact HA4.out⟩
          case measure => simp [intOf]; omega
        · by_cases htri : tries < c.tries
          · have hft : fate c (now + 1) (⟨nic, nxt, false, mac, tries, since, waits⟩ : One) = .ask := by
              unfold fate
              rw [if_neg (by simpa [waitOf] using hkeep)]
              simp [htri]
            have HFT := Lib.hid hft
            have htri' : decide (tries < c.tries) = true := by simpa using htri
            have htb : tries + 1 ≤ 9223372036854775807 := by omega
            clear hft htri
            go_quiet (fail)
            have fV : Fr Nil wr ((wr.alloc (.cells #[.int .i64 nic, .int .u32 nxt, .bool false, .int .u8 mac.a, .int .u8 mac.b, .int .u8 mac.c, .int .u8 mac.d, .int .u8 mac.e, .int .u8 mac.f, .int .i64 tries, .int .i64 since, (.slice xa waits.length xc)] 82)).drewN nq) := ((Fr.refl Nil wr).alloc _).drewN nq
            have hB : Blk ((wr.alloc (.cells #[.int .i64 nic, .int .u32 nxt, .bool false, .int .u8 mac.a, .int .u8 mac.b, .int .u8 mac.c, .int .u8 mac.d, .int .u8 mac.e, .int .u8 mac.f, .int .i64 tries, .int .i64 since, (.slice xa waits.length xc)] 82)).drewN nq) wr.heap.size TOne (oneCells (⟨nic, nxt, false, mac, tries, since, waits⟩ : One) (.slice xa waits.length xc)) := (Blk.new wr TOne (oneCells (⟨nic, nxt, false, mac, tries, since, waits⟩ : One) (.slice xa waits.length xc))).drewN nq
            generalize (wr.alloc (.cells #[.int .i64 nic, .int .u32 nxt, .bool false, .int .u8 mac.a, .int .u8 mac.b, .int .u8 mac.c, .int .u8 mac.d, .int .u8 mac.e, .int .u8 mac.f, .int .i64 tries, .int .i64 since, (.slice xa waits.length xc)] 82)).drewN nq = V at *
            have hvlt := hB.lt
            have v16 := fV.cellS e16 (fun e => e)
            have v40 := fV.cellS e40 (fun e => e)
            have x0 := hB.cellS (i := 0) rfl
            have x1 := hB.cellS (i := 1) rfl
            have x2 := hB.cellS (i := 2) rfl
            have x3 := hB.cellS (i := 3) rfl
            have x4 := hB.cellS (i := 4) rfl
            have x5 := hB.cellS (i := 5) rfl
            have x6 := hB.cellS (i := 6) rfl
            have x7 := hB.cellS (i := 7) rfl
            have x8 := hB.cellS (i := 8) rfl
            have x9 := hB.cellS (i := 9) rfl
            have x10 := hB.cellS (i := 10) rfl
            have x11 := hB.cellS (i := 11) rfl
            have HFV := Lib.hid fV
            have HB := Lib.hid hB
            have z9 := hB.frozen 9
            have z10 := hB.frozen 10
            clear fV hB
            go_wp2_with fail
            go_quiet (fail)
            have hB3 : Blk (((V.drewN nq).setCell ⟨wr.heap.size, 9, none⟩ (.int .i64 (tries + 1))).setCell ⟨wr.heap.size, 10, none⟩ (.int .i64 (now + 1))) wr.heap.size TOne (oneCells (⟨nic, nxt, false, mac, tries + 1, now + 1, waits⟩ : One) (.slice xa waits.length xc)) := ((HB.out.drewN nq).set 9 _).set 10 _
            have fV3 : Fr Nil wr (((V.drewN nq).setCell ⟨wr.heap.size, 9, none⟩ (.int .i64 (tries + 1))).setCell ⟨wr.heap.size, 10, none⟩ (.int .i64 (now + 1))) := ((HFV.out.drewN nq).setCell (fun h => absurd h (Nat.lt_irrefl _)) _).setCell (fun h => absurd h (Nat.lt_irrefl _)) _
            have hs3 : (((V.drewN nq).setCell ⟨wr.heap.size, 9, none⟩ (.int .i64 (tries + 1))).setCell ⟨wr.heap.size, 10, none⟩ (.int .i64 (now + 1))).heap.size = V.heap.size := by simp
            have hPP : RdS (fun _ => True) ((((V.drewN nq).setCell ⟨wr.heap.size, 9, none⟩ (.int .i64 (tries + 1))).setCell ⟨wr.heap.size, 10, none⟩ (.int .i64 (now + 1))).alloc (.cells #[.int .i64 nic, .int .u32 nxt] 39)) (.slice (some ⟨V.heap.size, 0, none⟩) 1 1) 1 [.int .i64 nic, .int .u32 nxt] := by
              rw [← hs3]
              exact ⟨_, _, rfl, Nat.le_refl _, fun _ => ⟨_, 0, rfl, trivial, (Blk.new _ 39 [.int .i64 nic, .int .u32 nxt]).lt, fun j y hy => by rw [Nat.zero_add]; exact (Blk.new _ 39 [.int .i64 nic, .int .u32 nxt]).cellS hy⟩⟩
            have HPP := Lib.hid hPP
            have HB3 := Lib.hid hB3
            have HFV3 := Lib.hid fV3
            have HAO := Lib.hid ((fV3.alloc (.cells #[.int .i64 nic, .int .u32 nxt] 39)).ownsRow HA.out (fun _ _ e => e))
            have hsz2 : W.heap.size ≤ V.heap.size := Nat.le_trans HFR.out.size HFV.out.size
            clear hPP hB3 fV3 hs3
            have HAB := Lib.hid (fun b (hb : u4.ownBlock = some b) => (show W.heap.size ≤ b from row_base HA.out b hb))
            have H1A := Lib.hid (oneCells_one (⟨nic, nxt, false, mac, tries + 1, now + 1, waits⟩ : One) (u := (.slice xa waits.length xc)) rfl)
            go_wp2_with (first | (at_builtin; refine wpList_append_rd _ rfl (.tmp 83) (.tmp 86) _ rfl W.heap.size 39 j0 _ 2 16 Try.underlying51 hj0 hy0 hy1 hy2 rfl (by omega) u4 (tickAsks c (now + 1) (l.take k)).length (pcells (tickAsks c (now + 1) (l.take k))) (by rfl) HAO.out (fun _ => True) (.slice (some ⟨V.heap.size, 0, none⟩) 1 1) 1 [.int .i64 nic, .int .u32 nxt] (by rfl) HPP.out rfl (by simp [Value.oneCell']) (by simp only [maxLen]; omega) (by omega) (by simp; omega) ?_; intro v3 w3 hown3 hg3 hat3; have hB4 := HB3.out.fr (((Fr.refl (fun b => u4.ownBlock = some b) _).alloc _).grown hg3 (fun b hb _ => ⟨hb, fun h8 => by have := (row_tag HAO.out b hb).uniq ((Fr.refl Nil _).alloc _ |>.tag _ _ h8); revert this; decide⟩)) (fun e => by have := (row_tag HAO.out _ e).uniq (HB3.out.tag.alloc _); revert this; decide); have HG3 := Lib.hid hg3; have HOW3 := Lib.hid hown3; have HB4 := Lib.hid hB4; clear x0 x1 x2 x3 x4 x5 x6 x7 x8 x9 x10 x11 hown3 hg3 hat3; have x0 := hB4.cellS (i := 0) rfl; have x1 := hB4.cellS (i := 1) rfl; have x2 := hB4.cellS (i := 2) rfl; have x3 := hB4.cellS (i := 3) rfl; have x4 := hB4.cellS (i := 4) rfl; have x5 := hB4.cellS (i := 5) rfl; have x6 := hB4.cellS (i := 6) rfl; have x7 := hB4.cellS (i := 7) rfl; have x8 := hB4.cellS (i := 8) rfl; have x9 := hB4.cellS (i := 9) rfl; have x10 := hB4.cellS (i := 10) rfl; have x11 := hB4.cellS (i := 11) rfl; have hblt := hB4.lt; clear hB4; have fW4 := ((HFV3.out.mono (S' := fun b => u4.ownBlock = some b) (fun _ _ e => e.elim)).alloc (.cells #[.int .i64 nic, .int .u32 nxt] 39)).grown HG3.out (fun b hb hlt => ⟨hb, fun h8 => by have := (row_tag HA.out b hb).uniq h8; revert this; decide⟩); have fN4 := (HFR.out.trans ((HFV3.out).alloc (.cells #[.int .i64 nic, .int .u32 nxt] 39)) (fun _ _ e => e)).grown HG3.out (fun b hb hlt => absurd (HAB.out b hb) (by omega)); have hsW4 := fN4.size; have fZ := fW4.alloc (.cells (oneCells (⟨nic, nxt, false, mac, tries + 1, now + 1, waits⟩ : One) (.slice xa waits.length xc)).toArray TOne); have hOX := HO.out.fr (R' := fun b => R b ∨ W.heap.size ≤ b) fZ (fun b hb e => by have := (HO.out.tag b hb).uniq (row_tag HA.out b e); revert this; decide) (fun b _ ht _ e => by have := ht.uniq (row_tag HA.out b e); revert this; decide) (fun _ _ e => e); have HVX := Lib.hid (rdbb_tag (R' := fun b => R b ∨ W.heap.size ≤ b) HVX0.out fZ (fun b _ ht _ e => by have := ht.uniq (row_tag HA.out b e); revert this; decide) (fun _ _ e => e)); have HAX := Lib.hid (((Fr.refl Nil w3).alloc (.cells (oneCells (⟨nic, nxt, false, mac, tries + 1, now + 1, waits⟩ : One) (.slice xa waits.length xc)).toArray TOne)).ownsRow HOW3.out (fun _ _ e => e)); have HUT := Lib.hid hOX.tag; have HUB := Lib.hid hOX.base; obtain ⟨us, hul, hown, hus⟩ := hOX; have HUL := Lib.hid hul; have HOWN := Lib.hid hown; have HUS := Lib.hid hus; have HNX := Lib.hid (one_new (w := w3) (x := (⟨nic, nxt, false, mac, tries + 1, now + 1, waits⟩ : One)) (v := (.slice xa waits.length xc))); have HFX := Lib.hid (fN4.alloc (.cells (oneCells (⟨nic, nxt, false, mac, tries + 1, now + 1, waits⟩ : One) (.slice xa waits.length xc)).toArray TOne)); clear hul hown hus fZ fW4 fN4; unfold oneCells at HNX HOWN HUS HVX HAX) | (at_builtin; refine wpList_append_rd _ rfl (.tmp 88) (.tmp 90) _ rfl W.heap.size TOne i0 _ 12 64 Try.underlying64 hi0 hz0 hz1 hz2 rfl (by omega) u5 (tickRow c (now + 1) (l.take k)).length (rowCells (tickRow c (now + 1) (l.take k)) us) (by rfl) HOWN.out (fun _ => True) (.slice (some ⟨w3.heap.size, 0, none⟩) 1 1) 1 (oneCells (⟨nic, nxt, false, mac, tries + 1, now + 1, waits⟩ : One) (.slice xa waits.length xc)) (by rfl) HNX.out rfl H1A.out (by simp only [maxLen]; omega) (by omega) (by simp; omega) ?_; intro v2 w4 hown4 hg4 hat4; have HO4 := Lib.hid (Ones.push HUL.out HUS.out HVX.out HUT.out hown4 hg4); have HF4 := Lib.hid (HFX.out.grown hg4 (fun b hb hlt => by have := HUB.out b hb; omega)); have HA4 := Lib.hid (hg4.ownsRow HAX.out (fun b hb e => by have h1 := HUT.out b e; have h2 := row_tag HAX.out b hb; have := h1.uniq h2; revert this; decide)); clear hown4 hg4 hat4))
            go_roundw
            case rel => exact ⟨k + 1, by omega, by go_num, by rw [lost_keep HX.out (by rw [HFT.out]; simp)], HF4.out, by rw [tickRow_ask HX.out HFT.out]; exact HO4.out, by rw [asks_ask HX.out HFT.out]; simpa [pcells_append, pcells, pcs, key] using HA4.out⟩
            case measure => simp [intOf]; omega
          · have htri' : decide (tries < c.tries) = false := by simpa using htri
            have hft : fate c (now + 1) (⟨nic, nxt, false, mac, tries, since, waits⟩ : One) = .drop := by
              unfold fate
              rw [if_neg (by simpa [waitOf] using hkeep)]
              simp [htri]
            have HFT := Lib.hid hft
            clear hft
            go_quiet (fail)
            have fV : Fr Nil wr ((wr.alloc (.cells #[.int .i64 nic, .int .u32 nxt, .bool false, .int .u8 mac.a, .int .u8 mac.b, .int .u8 mac.c, .int .u8 mac.d, .int .u8 mac.e, .int .u8 mac.f, .int .i64 tries, .int .i64 since, (.slice xa waits.length xc)] 82)).drewN nq) := ((Fr.refl Nil wr).alloc _).drewN nq
            have hB : Blk ((wr.alloc (.cells #[.int .i64 nic, .int .u32 nxt, .bool false, .int .u8 mac.a, .int .u8 mac.b, .int .u8 mac.c, .int .u8 mac.d, .int .u8 mac.e, .int .u8 mac.f, .int .i64 tries, .int .i64 since, (.slice xa waits.length xc)] 82)).drewN nq) wr.heap.size TOne (oneCells (⟨nic, nxt, false, mac, tries, since, waits⟩ : One) (.slice xa waits.length xc)) := (Blk.new wr TOne (oneCells (⟨nic, nxt, false, mac, tries, since, waits⟩ : One) (.slice xa waits.length xc))).drewN nq
            generalize (wr.alloc (.cells #[.int .i64 nic, .int .u32 nxt, .bool false, .int .u8 mac.a, .int .u8 mac.b, .int .u8 mac.c, .int .u8 mac.d, .int .u8 mac.e, .int .u8 mac.f, .int .i64 tries, .int .i64 since, (.slice xa waits.length xc)] 82)).drewN nq = V at *
            have hvlt := hB.lt
            have v16 := fV.cellS e16 (fun e => e)
            have v40 := fV.cellS e40 (fun e => e)
            have x0 := hB.cellS (i := 0) rfl
            have x1 := hB.cellS (i := 1) rfl
            have x2 := hB.cellS (i := 2) rfl
            have x3 := hB.cellS (i := 3) rfl
            have x4 := hB.cellS (i := 4) rfl
            have x5 := hB.cellS (i := 5) rfl
            have x6 := hB.cellS (i := 6) rfl
            have x7 := hB.cellS (i := 7) rfl
            have x8 := hB.cellS (i := 8) rfl
            have x9 := hB.cellS (i := 9) rfl
            have x10 := hB.cellS (i := 10) rfl
            have x11 := hB.cellS (i := 11) rfl
            have HFV := Lib.hid fV
            have HB := Lib.hid hB
            clear fV hB
            go_wp2_with fail
            go_quiet (fail)
            have e11 : (V.drewN nq).cell? ⟨wr.heap.size, 11, none⟩ = some (.slice xa waits.length xc) := x11
            have HFV2 := Lib.hid (HFV.out.drewN nq)
            clear x0 x1 x2 x3 x4 x5 x6 x7 x8 x9 x10 x11
            go_wp2
            go_roundw
            case rel => exact ⟨k + 1, by omega, by go_num, by rw [lost_drop HX.out HFT.out]; go_num, HFR.out.trans HFV2.out (fun _ _ e => e), by rw [tickRow_drop HX.out HFT.out]; exact HO.out.fr HFV2.out (fun _ _ e => e) (fun _ _ _ _ e => e) (fun _ _ e => e), by rw [asks_keep HX.out (by rw [HFT.out]; simp)]; exact HFV2.out.ownsRow HA.out (fun _ _ e => e)⟩
            case measure => simp [intOf]; omega
      | true =>
        go_wp2_with (go_at_call 24; refine (rin_any _ _ _ (by omega) _).mono ?_; rintro e w' ⟨rfl, rfl⟩)
        by_cases hkeep : now + 1 - since < clamp c.age 1 4095
        · have hft : fate c (now + 1) (⟨nic, nxt, true, mac, tries, since, waits⟩ : One) = .keep := by unfold fate; rw [if_pos (by simpa [waitOf] using hkeep)]
          have HFT := Lib.hid hft
          clear hft
          go_quiet (fail)
          have fX : Fr Nil wr ((wr.alloc (.cells #[.int .i64 nic, .int .u32 nxt, .bool true, .int .u8 mac.a, .int .u8 mac.b, .int .u8 mac.c, .int .u8 mac.d, .int .u8 mac.e, .int .u8 mac.f, .int .i64 tries, .int .i64 since, (.slice xa waits.length xc)] 82)).drewN nq) := ((Fr.refl Nil wr).alloc _).drewN nq
          have hB : Blk ((wr.alloc (.cells #[.int .i64 nic, .int .u32 nxt, .bool true, .int .u8 mac.a, .int .u8 mac.b, .int .u8 mac.c, .int .u8 mac.d, .int .u8 mac.e, .int .u8 mac.f, .int .i64 tries, .int .i64 since, (.slice xa waits.length xc)] 82)).drewN nq) wr.heap.size TOne (oneCells (⟨nic, nxt, true, mac, tries, since, waits⟩ : One) (.slice xa waits.length xc)) := (Blk.new wr TOne (oneCells (⟨nic, nxt, true, mac, tries, since, waits⟩ : One) (.slice xa waits.length xc))).drewN nq
          generalize (wr.alloc (.cells #[.int .i64 nic, .int .u32 nxt, .bool true, .int .u8 mac.a, .int .u8 mac.b, .int .u8 mac.c, .int .u8 mac.d, .int .u8 mac.e, .int .u8 mac.f, .int .i64 tries, .int .i64 since, (.slice xa waits.length xc)] 82)).drewN nq = V at *
          have fV := fX
          have hvlt := hB.lt
          have v16 := fV.cellS e16 (fun e => e)
          have v40 := fV.cellS e40 (fun e => e)
          have x0 := hB.cellS (i := 0) rfl
          have x1 := hB.cellS (i := 1) rfl
          have x2 := hB.cellS (i := 2) rfl
          have x3 := hB.cellS (i := 3) rfl
          have x4 := hB.cellS (i := 4) rfl
          have x5 := hB.cellS (i := 5) rfl
          have x6 := hB.cellS (i := 6) rfl
          have x7 := hB.cellS (i := 7) rfl
          have x8 := hB.cellS (i := 8) rfl
          have x9 := hB.cellS (i := 9) rfl
          have x10 := hB.cellS (i := 10) rfl
          have x11 := hB.cellS (i := 11) rfl
          have fZ : Fr Nil wr (V.alloc (.cells (oneCells (⟨nic, nxt, true, mac, tries, since, waits⟩ : One) (.slice xa waits.length xc)).toArray TOne)) := fV.alloc _
          have hOX := HO.out.fr (R' := fun b => R b ∨ W.heap.size ≤ b) fZ (fun _ _ e => e) (fun _ _ _ _ e => e) (fun _ _ e => e)
          have HVX := Lib.hid (rdbb_tag (R' := fun b => R b ∨ W.heap.size ≤ b) HVX0.out fZ (fun _ _ _ _ e => e) (fun _ _ e => e))
          have HAX := Lib.hid (fZ.ownsRow HA.out (fun _ _ e => e))
          have HUT := Lib.hid hOX.tag
          have HUB := Lib.hid hOX.base
          obtain ⟨us, hul, hown, hus⟩ := hOX
          have HUL := Lib.hid hul
          have HOWN := Lib.hid hown
          have HUS := Lib.hid hus
          have HNX := Lib.hid (one_new (w := V) (x := (⟨nic, nxt, true, mac, tries, since, waits⟩ : One)) (v := (.slice xa waits.length xc)))
          have HFX := Lib.hid (HFR.out.trans fZ (fun _ _ e => e))
          clear hul hown hus fZ
          unfold oneCells at HNX HOWN HUS HVX HAX
          go_wp2_with (at_builtin; refine wpList_append_rd _ rfl (.tmp 57) (.tmp 59) _ rfl W.heap.size TOne i0 _ 12 64 Try.underlying64 hi0 hz0 hz1 hz2 rfl (by omega) u5 (tickRow c (now + 1) (l.take k)).length (rowCells (tickRow c (now + 1) (l.take k)) us) (by rfl) HOWN.out (fun _ => True) (.slice (some ⟨V.heap.size, 0, none⟩) 1 1) 1 (oneCells (⟨nic, nxt, true, mac, tries, since, waits⟩ : One) (.slice xa waits.length xc)) (by rfl) HNX.out rfl H1X.out (by simp only [maxLen]; omega) (by omega) (by simp; omega) ?_; intro v2 w4 hown4 hg4 hat4; have HO4 := Lib.hid (Ones.push HUL.out HUS.out HVX.out HUT.out hown4 hg4); have HF4 := Lib.hid (HFX.out.grown hg4 (fun b hb hlt => by have := HUB.out b hb; omega)); have HA4 := Lib.hid (hg4.ownsRow HAX.out (fun b hb e => by have h1 := HUT.out b e; have h2 := row_tag HAX.out b hb; have := h1.uniq h2; revert this; decide)); clear hown4 hg4 hat4)
          go_roundw
          case rel => exact ⟨k + 1, by omega, by go_num, by rw [lost_keep HX.out (by rw [HFT.out]; simp)], HF4.out, by rw [tickRow_keep HX.out HFT.out]; exact HO4.out, by rw [asks_keep HX.out (by rw [HFT.out]; simp)]; exact HA4.out⟩
          case measure => simp [intOf]; omega
        · have hft : fate c (now + 1) (⟨nic, nxt, true, mac, tries, since, waits⟩ : One) = .drop := by
            unfold fate
            rw [if_neg (by simpa [waitOf] using hkeep)]
            simp
          have HFT := Lib.hid hft
          clear hft
          go_quiet (fail)
          have fV : Fr Nil wr ((wr.alloc (.cells #[.int .i64 nic, .int .u32 nxt, .bool true, .int .u8 mac.a, .int .u8 mac.b, .int .u8 mac.c, .int .u8 mac.d, .int .u8 mac.e, .int .u8 mac.f, .int .i64 tries, .int .i64 since, (.slice xa waits.length xc)] 82)).drewN nq) := ((Fr.refl Nil wr).alloc _).drewN nq
          have hB : Blk ((wr.alloc (.cells #[.int .i64 nic, .int .u32 nxt, .bool true, .int .u8 mac.a, .int .u8 mac.b, .int .u8 mac.c, .int .u8 mac.d, .int .u8 mac.e, .int .u8 mac.f, .int .i64 tries, .int .i64 since, (.slice xa waits.length xc)] 82)).drewN nq) wr.heap.size TOne (oneCells (⟨nic, nxt, true, mac, tries, since, waits⟩ : One) (.slice xa waits.length xc)) := (Blk.new wr TOne (oneCells (⟨nic, nxt, true, mac, tries, since, waits⟩ : One) (.slice xa waits.length xc))).drewN nq
          generalize (wr.alloc (.cells #[.int .i64 nic, .int .u32 nxt, .bool true, .int .u8 mac.a, .int .u8 mac.b, .int .u8 mac.c, .int .u8 mac.d, .int .u8 mac.e, .int .u8 mac.f, .int .i64 tries, .int .i64 since, (.slice xa waits.length xc)] 82)).drewN nq = V at *
          have hvlt := hB.lt
          have v16 := fV.cellS e16 (fun e => e)
          have v40 := fV.cellS e40 (fun e => e)
          have x0 := hB.cellS (i := 0) rfl
          have x1 := hB.cellS (i := 1) rfl
          have x2 := hB.cellS (i := 2) rfl
          have x3 := hB.cellS (i := 3) rfl
          have x4 := hB.cellS (i := 4) rfl
          have x5 := hB.cellS (i := 5) rfl
          have x6 := hB.cellS (i := 6) rfl
          have x7 := hB.cellS (i := 7) rfl
          have x8 := hB.cellS (i := 8) rfl
          have x9 := hB.cellS (i := 9) rfl
          have x10 := hB.cellS (i := 10) rfl
          have x11 := hB.cellS (i := 11) rfl
          have HFV := Lib.hid fV
          have HB := Lib.hid hB
          clear fV hB
          go_wp2_with fail
          go_quiet (fail)
          have e11 : (V.drewN nq).cell? ⟨wr.heap.size, 11, none⟩ = some (.slice xa waits.length xc) := x11
          have HFV2 := Lib.hid (HFV.out.drewN nq)
          clear x0 x1 x2 x3 x4 x5 x6 x7 x8 x9 x10 x11
          go_wp2
          go_roundw
          case rel => exact ⟨k + 1, by omega, by go_num, by rw [lost_drop HX.out HFT.out]; go_num, HFR.out.trans HFV2.out (fun _ _ e => e), by rw [tickRow_drop HX.out HFT.out]; exact HO.out.fr HFV2.out (fun _ _ e => e) (fun _ _ _ _ e => e) (fun _ _ e => e), by rw [asks_keep HX.out (by rw [HFT.out]; simp)]; exact HFV2.out.ownsRow HA.out (fun _ _ e => e)⟩
          case measure => simp [intOf]; omega
    · have hlt' : ¬ (k : Int) < (l.length : Int) := by omega
      rw [List.take_of_length_le (by omega)] at hO hA
      obtain ⟨oa, oc, ho⟩ := hO.form
      subst ho
      obtain ⟨aa, ac, ha⟩ := places_form hA
      subst ha
      have HO := Lib.hid hO
      have hz : wr.frozen? ⟨br, 41, none⟩ = false := h2.blk.frozen 41
      have hbl := h2.blk.lt
      have hkl : l.take k = l := List.take_of_length_le (by omega)
      have HA' := Lib.hid hA
      have HKL := Lib.hid hkl
      have HT := Lib.hid h2.blk.tag
      clear hO h2 hfr hA HA hkl
      go_wp2
      go_ret2
      have hcl := H.out.close (M := W.heap.size) (Nat.le_refl _) HFR.out HO.out
      have hW : Fr (fun b => b = br) wr (wr.setCell ⟨br, 41, none⟩ (.slice oa (tickRow c (now + 1) l).length oc)) := (Fr.refl (fun b => b = br) wr).setCell (p := ⟨br, 41, none⟩) (fun _ => ⟨rfl, fun h8 => by have := HT.out.uniq h8; revert this; decide⟩) _
      have hrow := hW.ownsRow HA'.out (fun b hb e => by have := (row_tag HA'.out b hb).uniq (e ▸ HT.out); revert this; decide)
      refine ⟨.slice aa (tickAsks c (now + 1) l).length ac, (by rw [HKL.out]; rfl), ?_, ?_⟩
      · rw [← HWS.out]; exact hrow
      · refine ⟨HF1.out.trans hcl.1 (fun b _ hs => ⟨hs.1, fun ht => hs.2 (HF1.out.tag _ _ ht)⟩), ?_⟩
        rw [← HWS.out]; exact hcl.2
end
end Go.Proofs.Ytaokmbmimogdgaa
