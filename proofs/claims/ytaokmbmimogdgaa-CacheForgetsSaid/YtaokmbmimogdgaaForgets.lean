/- The walk of CacheForgets. -/
import Derived.Test.YtaokmbmimogdgaaForgetLaws
import Derived.Test.YtaokmbmimogdgaaDeeds
import Derived.Test.YtaokmbmimogdgaaLives
import Derived.StillTailTactics
namespace Go.Proofs.Ytaokmbmimogdgaa
open Go.RowKit Go.ChangeMaps
attribute [local go_sem ↓] Go.wp_at_zero Go.wp_at_succ

theorem in_any (x lo hi : Int) (hl : lo ≤ hi) (w : World) : Calls Try.prog 24 #[.int .i64 x, .int .i64 lo, .int .i64 hi] w fun e w' => e = .returned (.int .i64 (clamp x lo hi)) ∧ w' = w := by
  unfold clamp
  by_cases h1 : x < lo
  · rw [if_pos h1]
    go_enter Try.func24, Try.ntmps24
    go_wp2
    go_returns
    exact ⟨rfl, rfl⟩
  · rw [if_neg h1]
    by_cases h2 : hi < x
    · rw [if_pos h2]
      go_enter Try.func24, Try.ntmps24
      go_wp2
      go_returns
      exact ⟨rfl, rfl⟩
    · rw [if_neg h2]
      go_enter Try.func24, Try.ntmps24
      go_wp2
      go_returns
      exact ⟨rfl, rfl⟩

def smallCf (c : Cf) : Cf := ⟨c.cache, c.queue, clamp c.age 0 20, clamp c.retry 0 9, clamp c.tries 0 5⟩
theorem smallCf_small (c : Cf) : Small (smallCf c) := by
  refine ⟨?_, ?_, ?_, ?_, ?_, ?_⟩ <;> (simp only [smallCf, clamp]; (repeat' split) <;> omega)
theorem smallCf_ok {conf : List Value} {c : Cf} (h : CfOK conf c) : CfOK (((conf.set 29 (.int .i64 (clamp c.age 0 20))).set 30 (.int .i64 (clamp c.retry 0 9))).set 31 (.int .i64 (clamp c.tries 0 5))) (smallCf c) := by
  have hl := h.len
  refine ⟨by simp [hl], ?_, ?_, ?_, ?_, ?_, ?_⟩
  · simp [List.getElem?_set]; exact h.c27
  · simp [List.getElem?_set]; exact h.c28
  · simp [List.getElem?_set, hl]; rfl
  · simp [List.getElem?_set, hl]; rfl
  · simp [List.getElem?_set, hl]; rfl
  · have := (smallCf_small c).2.2.2.2.2; omega

/-- Between two deeds, and between two ticks. -/
structure FAt (w0 : World) (bc : Nat) (c : Cf) (now p : Int) (k : Nat) (W : World) : Prop where
  ex : ∃ l F, CRep W bc c now l F ∧ Fine c now l k ∧ Due c now l ∧ Pot c now p l ∧ ∀ b, F b → w0.heap.size ≤ b
  fr : Fr Nil w0 W

set_option maxRecDepth 100000 in
set_option maxHeartbeats 3000000 in
theorem forgets_any (w : World) (conf : List Value) (c : Cf) (hc : CfOK conf c) (v : Value) (ds : List Deed) (hd : DeedsAt w.heap.size w v ds) :
    Calls Try.prog 5 #[.agg conf.toArray, v] w (RetF (.bool true) Nil w) := by
  have hl := hc.len
  have hB := Blk.new w 33 conf
  have e29 := hB.cellS hc.c29
  have e30 := hB.cellS hc.c30
  have e31 := hB.cellS hc.c31
  have z29 := hB.frozen 29
  have z30 := hB.frozen 30
  have z31 := hB.frozen 31
  have hlt := hB.lt
  have i1 := fun W => in_any c.age 0 20 (by omega) W
  have i2 := fun W => in_any c.retry 0 9 (by omega) W
  have i3 := fun W => in_any c.tries 0 5 (by omega) W
  have HB := Lib.hid hB
  have HC := Lib.hid hc
  have HD := Lib.hid hd
  clear hB hc hd
  generalize hag : clamp c.age 0 20 = ra at i1
  generalize hrt : clamp c.retry 0 9 = rr at i2
  generalize htr : clamp c.tries 0 5 = rt at i3
  have HAG := Lib.hid hag
  have HRT := Lib.hid hrt
  have HTR := Lib.hid htr
  clear hag hrt htr
  go_enter Try.func5, Try.ntmps5
  go_wp2_with (fail)
  obtain ⟨V, hV⟩ : ∃ V, w.alloc (.cells conf.toArray 33) = V := ⟨_, rfl⟩
  rw [hV] at e29 e30 e31 z29 z30 z31 hlt ⊢
  go_still_tail 10, (by kernel_rfl)
  still_call (i1 _)
  repeat still_step
  still_call (i2 _)
  repeat still_step
  still_call (i3 _)
  repeat still_step
  refine wpStill_nil ?_
  change wpList _ _ _ _ _ V.drew
  go_upto_region 2 with fail
  go_step
  have hB2 : Blk (((V.drew.setCell ⟨w.heap.size, 29, none⟩ (.int .i64 ra)).setCell ⟨w.heap.size, 30, none⟩ (.int .i64 rr)).setCell ⟨w.heap.size, 31, none⟩ (.int .i64 rt)) w.heap.size 33 (((conf.set 29 (.int .i64 ra)).set 30 (.int .i64 rr)).set 31 (.int .i64 rt)) := by
    rw [← hV]
    exact ((HB.out.set 29 _).set 30 _).set 31 _
  have hcok : CfOK (((conf.set 29 (.int .i64 ra)).set 30 (.int .i64 rr)).set 31 (.int .i64 rt)) (smallCf c) := by
    rw [← HAG.out, ← HRT.out, ← HTR.out]; exact smallCf_ok HC.out
  have hl2 := hcok.len
  have hi : (Try.prog.info? 33).map (·.size) = some (((conf.set 29 (.int .i64 ra)).set 30 (.int .i64 rr)).set 31 (.int .i64 rt)).toArray.size := by
    rw [List.size_toArray, hl2]; kernel_rfl
  refine wpList_load_row rfl _ (.tmp 2) rfl _ rfl _ _ _ _ hB2 Try.underlying33 rfl hi ?_
  have hf0 : Fr Nil w (((V.setCell ⟨w.heap.size, 29, none⟩ (.int .i64 ra)).setCell ⟨w.heap.size, 30, none⟩ (.int .i64 rr)).setCell ⟨w.heap.size, 31, none⟩ (.int .i64 rt)).drew := by
    rw [← hV]
    have hm : May Nil w w.heap.size := fun h => by omega
    exact (((((Fr.refl Nil w).alloc _)).setCell (p := ⟨w.heap.size, 29, none⟩) hm _).setCell (p := ⟨w.heap.size, 30, none⟩) hm _).setCell (p := ⟨w.heap.size, 31, none⟩) hm _ |>.drew
  clear hB2 hi hl2 hV e29 e30 e31 z29 z30 z31 i1 i2 i3
  generalize (((V.setCell ⟨w.heap.size, 29, none⟩ (.int .i64 ra)).setCell ⟨w.heap.size, 30, none⟩ (.int .i64 rr)).setCell ⟨w.heap.size, 31, none⟩ (.int .i64 rt)).drew = W0 at *
  generalize ((conf.set 29 (.int .i64 ra)).set 30 (.int .i64 rr)).set 31 (.int .i64 rt) = conf2 at *
  have HN := Lib.hid (new_any W0 conf2 (smallCf c) hcok 7)
  have HF0 := Lib.hid hf0
  clear hcok hf0 HAG HRT HTR HC HB hlt hl V
  go_wp2_with (go_at_call 6; refine HN.out.mono ?_)
  rintro e w1 ⟨bc, rfl, hcr, hf1⟩
  have hsm := smallCf_small c
  generalize smallCf c = c2 at *
  rw [show clamp 7 0 1073741824 = 7 from rfl] at hcr
  have T0 : FAt w bc c2 7 50 0 w1 := ⟨⟨[], _, hcr, Fine.new c2 7, due_nil, pot_nil, fun b hb => Nat.le_trans HF0.out.size hb.1⟩, HF0.out.trans hf1 (fun _ _ e => e)⟩
  have HT0 := Lib.hid T0
  have HSM := Lib.hid hsm
  clear T0 hcr hf1 hsm HN HF0
  obtain ⟨a, cc, rfl, hm, hds⟩ := HD.out
  have HDS := Lib.hid hds
  clear hds
  go_wp2_with fail
  go_loopw [6] (fun i wr => ∃ k : Nat, k ≤ ds.length ∧ k ≤ 60 ∧ i = .int .i64 k ∧ FAt w bc c2 7 50 k wr) (fun i _ => 60 - (intOf i).toNat)
  case atStart => exact ⟨0, Nat.zero_le _, Nat.zero_le _, rfl, HT0.out⟩
  case round =>
    obtain ⟨k, hk1, hk2, rfl, hT⟩ := hrel
    have HT := Lib.hid hT
    clear hT HT0
    by_cases hlt : k < ds.length ∧ k < 60
    · obtain ⟨hlt1, hlt2⟩ := hlt
      obtain ⟨d, hdk⟩ : ∃ d, ds[k]? = some d := ⟨_, List.getElem?_eq_getElem hlt1⟩
      obtain ⟨g, o, ha, hgl, hat⟩ := HDS.out (by intro e; rw [e] at hlt1; simp at hlt1)
      subst ha
      have hd1 := (hat k d hdk).fr hgl HT.out.fr (fun _ e => e.elim)
      obtain ⟨e0, e1, e2, e3, e4, e5, e6, e7, e8, u, e9, hbm, hb⟩ := hd1
      have HBM := Lib.hid hbm
      have HB := Lib.hid hb
      have h1 : (k : Int) < (ds.length : Int) := by omega
      have h2 : (k : Int) < 60 := by omega
      clear hat hbm hb hdk
      by_cases hkind : d.kind = 0
      · have hkb : (d.kind == 0) = true := by simp [hkind]
        have HK := Lib.hid hkind
        clear hkind
        obtain ⟨u2, hb2, hfew⟩ := few_val _ wr u d.b 100 HB.out HBM.out (by omega)
        have HB2 := Lib.hid hb2
        clear hb2
        go_wp2_with fail
        go_still_tail 12, (by kernel_rfl)
        still_call (hfew _)
        repeat still_step
        refine wpStill_nil ?_
        change wpList _ _ _ _ _ wr.drew
        have hfd : Fr Nil wr wr.drew := (Fr.refl _ _).drew
        obtain ⟨l, F, hcr, hfine, hdue, hpot, hF⟩ := HT.out.ex
        have R := want_calls (hcr.fr hfd (fun _ _ e => e)) hfine (by omega) d.nic d.nxt u2 (G := fun b => b < w.heap.size) (HB2.out.fr hfd (fun _ _ _ e => e)) (fun b _ h1 h2 => by have := hF b h2; omega) (by have := List.length_take_le 100 d.b; omega)
        have R' := Lib.hid R
        clear R
        go_wp2_with (go_at_call 8; refine R'.out.mono ?_)
        rintro e w3 ⟨rfl, hf3, F3, hc3, hn3⟩
        have T3 : FAt w bc c2 7 50 (k + 1) w3 := ⟨⟨_, F3, hc3, hfine.want _ _ _, due_want hdue _ _ _, pot_want HSM.out hpot _ _ _, fun b hb => by
          have hsz := HT.out.fr.size
          have hsz2 := hfd.size
          rcases hn3 b hb with h | h
          · exact hF b h
          · omega⟩, (HT.out.fr.trans hfd (fun _ _ e => e)).trans hf3 (fun b hlt h => by have := hF b h; omega)⟩
        have HT3 := Lib.hid T3
        clear T3 hc3 hf3 hn3 hcr hfine hdue hpot hF R' hfd HB2 hfew
        generalize want c2 7 l d.nic d.nxt (List.take 100 d.b) = r at *
        go_wp2
        go_roundw
        case rel => exact ⟨k + 1, by omega, by omega, by go_num, HT3.out⟩
        case measure => simp [intOf]; omega
      · have hkb : (d.kind == 0) = false := by simp [hkind]
        clear hkind
        go_wp2_with fail
        go_still_tail 17, (by kernel_rfl)
        change wpList _ _ _ _ _ wr.drew
        have hfd : Fr Nil wr wr.drew := (Fr.refl _ _).drew
        obtain ⟨l, F, hcr, hfine, hdue, hpot, hF⟩ := HT.out.ex
        have R := learn_calls (hcr.fr hfd (fun _ _ e => e)) hfine (by omega) d.nic d.nxt d.mac (d.kind == 2)
        unfold macV at R
        have R' := Lib.hid R
        clear R
        go_wp2_with (go_at_call 9; refine R'.out.mono ?_)
        rintro e w3 ⟨u3, rfl, _, hf3, F3, hc3, hn3⟩
        have T3 : FAt w bc c2 7 50 (k + 1) w3 := ⟨⟨_, F3, hc3, hfine.learn _ _ _ _, due_learn hdue _ _ _ _, pot_learn HSM.out hpot _ _ _ _, fun b hb => by
          have hsz := HT.out.fr.size
          have hsz2 := hfd.size
          rcases hn3 b hb with h | h
          · exact hF b h
          · omega⟩, (HT.out.fr.trans hfd (fun _ _ e => e)).trans hf3 (fun b hlt h => by have := hF b h; omega)⟩
        have HT3 := Lib.hid T3
        clear T3 hc3 hf3 hn3 hcr hfine hdue hpot hF R' hfd
        generalize learn c2 7 l d.nic d.nxt d.mac (d.kind == 2) = r at *
        go_wp2
        go_roundw
        case rel => exact ⟨k + 1, by omega, by omega, by go_num, HT3.out⟩
        case measure => simp [intOf]; omega
    · have HT' : ∃ n : Nat, n ≤ 60 ∧ FAt w bc c2 7 50 n wr := ⟨k, hk2, HT.out⟩
      have HNLT := Lib.hid hlt
      have hg : ((k : Int) < (ds.length : Int) ∧ (k : Int) < 60) → False := fun h => HNLT.out ⟨by omega, by omega⟩
      have hcase : ¬ (k : Int) < (ds.length : Int) ∨ ((k : Int) < (ds.length : Int) ∧ ¬ (k : Int) < 60) := by
        by_cases h : (k : Int) < (ds.length : Int)
        · exact .inr ⟨h, fun h' => hg ⟨h, h'⟩⟩
        · exact .inl h
      obtain ⟨n, hn, hT2⟩ := HT'
      have HT2 := Lib.hid hT2
      clear hT2 hg HT
      rcases hcase with h3 | ⟨h3, h4⟩
      · go_wp2_with fail
        go_loopw [7] (fun i wr => ∃ m : Nat, m ≤ 50 ∧ i = .int .i64 m ∧ FAt w bc c2 (7 + m) (50 - m) (n + m) wr) (fun i _ => 50 - (intOf i).toNat)
        case atStart => exact ⟨0, Nat.zero_le _, rfl, by simpa using HT2.out⟩
        case round =>
          obtain ⟨m, hm2, rfl, hT⟩ := hrel
          have HT := Lib.hid hT
          clear hT
          by_cases hlt2 : m < 50
          · have h5 : (m : Int) < 50 := by omega
            obtain ⟨l, F, hcr, hfine, hdue, hpot, hF⟩ := HT.out.ex
            have R' := Lib.hid (tick_calls hcr hfine (by omega) (by have := HSM.out.2.2.2.2.2; omega))
            go_wp2_with (go_at_call 11; refine R'.out.mono ?_)
            rintro e w3 ⟨u3, rfl, _, hf3, F3, hc3, hn3⟩
            have T3 : FAt w bc c2 (7 + (m + 1 : Nat)) (50 - (m + 1 : Nat)) (n + (m + 1)) w3 := by
              have e1 : (7 : Int) + ((m + 1 : Nat) : Int) = 7 + m + 1 := by omega
              have e2 : (50 : Int) - ((m + 1 : Nat) : Int) = 50 - m - 1 := by omega
              rw [e1, e2]
              exact ⟨⟨_, F3, hc3, hfine.tick, due_tick, pot_tick hdue hpot, fun b hb => by
                have hsz := HT.out.fr.size
                rcases hn3 b hb with h | h
                · exact hF b h
                · omega⟩, HT.out.fr.trans hf3 (fun b hlt h => by have := hF b h; omega)⟩
            have HT3 := Lib.hid T3
            clear T3 hc3 hf3 hn3 hcr hfine hdue hpot hF R'
            go_wp2
            go_roundw
            case rel => exact ⟨m + 1, by omega, by go_num, HT3.out⟩
            case measure => simp [intOf]; omega
          · have hm3 : m = 50 := by omega
            subst hm3
            obtain ⟨l, F, hcr, hfine, hdue, hpot, hF⟩ := HT.out.ex
            obtain rfl : l = [] := pot_zero hdue hpot (by omega)
            have HF := Lib.hid HT.out.fr
            have hc1 := len_calls hcr
            have hc2 := fun W (hW : Fr Nil wr W) => waits_calls (hcr.fr hW (fun _ _ e => e))
            have hc3 := fun W (hW : Fr Nil wr W) => now_calls (hcr.fr hW (fun _ _ e => e))
            have HC1 := Lib.hid hc1
            have HC2 := Lib.hid hc2
            have HC3 := Lib.hid hc3
            clear hcr hfine hdue hpot hF hc1 hc2 hc3
            go_wp2_with (go_at_call 14; refine HC1.out.mono ?_)
            rintro e w4 ⟨rfl, hf4⟩
            have HF4 := Lib.hid hf4
            clear hf4
            go_wp2_with (go_at_call 12; refine (HC2.out _ HF4.out).mono ?_)
            rintro e w5 ⟨rfl, hf5⟩
            have HF5 := Lib.hid (HF4.out.trans hf5 (fun _ _ e => e))
            clear hf5
            go_wp2_with (go_at_call 23; refine (HC3.out _ HF5.out).mono ?_)
            rintro e w6 ⟨rfl, hf6⟩
            have HF6 := Lib.hid (HF5.out.trans hf6 (fun _ _ e => e))
            clear hf6
            go_wp2_with (go_at_call 13; refine (lives_any _).mono ?_)
            rintro e w7 ⟨rfl, hf7⟩
            have HF7 := Lib.hid (HF6.out.trans hf7 (fun _ _ e => e))
            clear hf7
            go_wp2
            go_ret
            exact ⟨rfl, HF.out.trans HF7.out (fun _ _ e => e)⟩
      · go_wp2_with fail
        go_loopw [7] (fun i wr => ∃ m : Nat, m ≤ 50 ∧ i = .int .i64 m ∧ FAt w bc c2 (7 + m) (50 - m) (n + m) wr) (fun i _ => 50 - (intOf i).toNat)
        case atStart => exact ⟨0, Nat.zero_le _, rfl, by simpa using HT2.out⟩
        case round =>
          obtain ⟨m, hm2, rfl, hT⟩ := hrel
          have HT := Lib.hid hT
          clear hT
          by_cases hlt2 : m < 50
          · have h5 : (m : Int) < 50 := by omega
            obtain ⟨l, F, hcr, hfine, hdue, hpot, hF⟩ := HT.out.ex
            have R' := Lib.hid (tick_calls hcr hfine (by omega) (by have := HSM.out.2.2.2.2.2; omega))
            go_wp2_with (go_at_call 11; refine R'.out.mono ?_)
            rintro e w3 ⟨u3, rfl, _, hf3, F3, hc3, hn3⟩
            have T3 : FAt w bc c2 (7 + (m + 1 : Nat)) (50 - (m + 1 : Nat)) (n + (m + 1)) w3 := by
              have e1 : (7 : Int) + ((m + 1 : Nat) : Int) = 7 + m + 1 := by omega
              have e2 : (50 : Int) - ((m + 1 : Nat) : Int) = 50 - m - 1 := by omega
              rw [e1, e2]
              exact ⟨⟨_, F3, hc3, hfine.tick, due_tick, pot_tick hdue hpot, fun b hb => by
                have hsz := HT.out.fr.size
                rcases hn3 b hb with h | h
                · exact hF b h
                · omega⟩, HT.out.fr.trans hf3 (fun b hlt h => by have := hF b h; omega)⟩
            have HT3 := Lib.hid T3
            clear T3 hc3 hf3 hn3 hcr hfine hdue hpot hF R'
            go_wp2
            go_roundw
            case rel => exact ⟨m + 1, by omega, by go_num, HT3.out⟩
            case measure => simp [intOf]; omega
          · have hm3 : m = 50 := by omega
            subst hm3
            obtain ⟨l, F, hcr, hfine, hdue, hpot, hF⟩ := HT.out.ex
            obtain rfl : l = [] := pot_zero hdue hpot (by omega)
            have HF := Lib.hid HT.out.fr
            have hc1 := len_calls hcr
            have hc2 := fun W (hW : Fr Nil wr W) => waits_calls (hcr.fr hW (fun _ _ e => e))
            have hc3 := fun W (hW : Fr Nil wr W) => now_calls (hcr.fr hW (fun _ _ e => e))
            have HC1 := Lib.hid hc1
            have HC2 := Lib.hid hc2
            have HC3 := Lib.hid hc3
            clear hcr hfine hdue hpot hF hc1 hc2 hc3
            go_wp2_with (go_at_call 14; refine HC1.out.mono ?_)
            rintro e w4 ⟨rfl, hf4⟩
            have HF4 := Lib.hid hf4
            clear hf4
            go_wp2_with (go_at_call 12; refine (HC2.out _ HF4.out).mono ?_)
            rintro e w5 ⟨rfl, hf5⟩
            have HF5 := Lib.hid (HF4.out.trans hf5 (fun _ _ e => e))
            clear hf5
            go_wp2_with (go_at_call 23; refine (HC3.out _ HF5.out).mono ?_)
            rintro e w6 ⟨rfl, hf6⟩
            have HF6 := Lib.hid (HF5.out.trans hf6 (fun _ _ e => e))
            clear hf6
            go_wp2_with (go_at_call 13; refine (lives_any _).mono ?_)
            rintro e w7 ⟨rfl, hf7⟩
            have HF7 := Lib.hid (HF6.out.trans hf7 (fun _ _ e => e))
            clear hf7
            go_wp2
            go_ret
            exact ⟨rfl, HF.out.trans HF7.out (fun _ _ e => e)⟩

end Go.Proofs.Ytaokmbmimogdgaa
