/- Contract of Tick. -/
import Derived.Test.YtaokmbmimogdgaaTickSteps
import Derived.LoopN
namespace Go.Proofs.Ytaokmbmimogdgaa
open Go.RowKit Go.ChangeMaps
attribute [local go_sem ↓] Go.wp_at_zero Go.wp_at_succ

/-- Behind Tick: the places to be asked for, how many frames are lost; the row. -/
def TPost (c : Cf) (now : Int) (l : List One) (bc : Nat) (F : Nat → Prop) (w : World) (e : Ending) (w' : World) : Prop :=
  ∃ v, e = .returned (.tuple #[v, .int .i64 (tickLost c (now + 1) l)]) ∧ w'.ownsRow w.heap.size 39 2 v (tickAsks c (now + 1) l).length (pcells (tickAsks c (now + 1) l)) ∧ Fr F w w' ∧
    ∃ F', CRep w' bc c (now + 1) (tickRow c (now + 1) l) F' ∧ ∀ b, F' b → F b ∨ w.heap.size ≤ b

/-- Between two rounds. -/
structure TickAt (w0 : World) (bc : Nat) (c : Cf) (now : Int) (conf : List Value) (bm : Nat) (l : List One) (F : Nat → Prop) (ov : Value) (k : Nat) (av : Value) (W : World) : Prop where
  cat : ∃ ents, CAt W bc c now conf bm ents F ∧ (mid c now l k).Perm (rows ents)
  fr : Fr F w0 W
  ord : W.ownsRow w0.heap.size 39 2 ov l.length (pcells (l.map key))
  ask : W.ownsRow w0.heap.size 39 2 av (tickAsks c now (l.take k)).length (pcells (tickAsks c now (l.take k)))
  flt : ∀ b, F b → b < w0.heap.size
  two : ∀ b, ov.ownBlock = some b → av.ownBlock ≠ some b

theorem own_place {w : World} {base : Nat} {oa : Option Addr} {oc k : Nat} {l : List One} {x : One} (h : w.ownsRow base 39 2 (.slice oa l.length oc) l.length (pcells (l.map key))) (hx : l[k]? = some x) :
    ∃ g, oa = some ⟨g, 0, none⟩ ∧ w.cell? ⟨g, k * 2, none⟩ = some (.int .i64 x.nic) ∧ w.cell? ⟨g, k * 2 + 1, none⟩ = some (.int .u32 x.nxt) := by
  have hk := (List.getElem?_eq_some_iff.1 hx).1
  obtain ⟨_, ⟨_, h0⟩ | ⟨g, cap, cur, hv, _, hb, h3, _, h5, h6⟩⟩ := h
  · omega
  · have hB : Blk w g 39 cur.toList := by simpa [Blk] using hb
    have hkey : (l.map key)[k]! = key x := by rw [getElem!_pos _ k (by simpa using hk)]; rw [List.getElem_map]; rw [(List.getElem?_eq_some_iff.1 hx).2]
    have hc : ∀ i, i < 2 → cur.toList[k * 2 + i]? = some ((pcs (key x))[i]!) := fun i hi => by
      have h1 := pcells_get (l.map key) (k * 2 + i) (by simp; omega)
      rw [show (k * 2 + i) / 2 = k by omega, show (k * 2 + i) % 2 = i by omega, hkey] at h1
      rw [← h1, ← h6, List.getElem?_take_of_lt (by omega)]
    refine ⟨g, by cases hv; rfl, ?_, ?_⟩
    · exact hB.cellS (hc 0 (by omega))
    · exact hB.cellS (hc 1 (by omega))

section
variable {w : World} {bc : Nat} {c : Cf} {now : Int} {conf : List Value} {bm : Nat} {ents : List Ent} {F : Nat → Prop}

theorem CAt.tick (h : CAt w bc c now conf bm ents F) (now' : Int) : CAt (w.setCell ⟨bc, 40, none⟩ (.int .i64 now')) bc c now' conf bm ents F ∧ Fr F w (w.setCell ⟨bc, 40, none⟩ (.int .i64 now')) := by
  have hf : Fr (fun b => b = bc) w (w.setCell ⟨bc, 40, none⟩ (.int .i64 now')) := (Fr.refl (fun b => b = bc) w).setCell (p := ⟨bc, 40, none⟩) (fun _ => ⟨rfl, h.nb _ h.fc⟩) _
  refine ⟨⟨h.cok, ?_, h.map.kept (hf.block _ h.map.lt (fun e => h.bcbm e.symm)), ?_, h.apart, h.fc, h.fm, h.fe, fun b hb => Nat.lt_of_lt_of_le (h.lt b hb) hf.size, ?_⟩, (Fr.refl _ w).setCell (p := ⟨bc, 40, none⟩) (fun _ => ⟨h.fc, h.nb _ h.fc⟩) _⟩
  · have hb := h.blk.set 40 (.int .i64 now')
    have := h.cok.len
    rw [List.set_append_right _ _ (by omega), this] at hb
    exact hb
  · exact fun s hs => h.stayAll hf (fun b _ e => .inl e) hs
  · intro b hb h8
    by_cases e : b = bc
    · subst e
      have := IsTag.uniq h8 (hf.tag _ _ h.blk.tag)
      revert this; decide
    · obtain ⟨cu, fr, hh⟩ := h8
      rw [hf.block b (h.lt b hb) e] at hh
      exact h.nb b hb ⟨cu, fr, hh⟩

theorem TickAt.keep {w wr W : World} {l : List One} {ov av : Value} {k : Nat} {x : One} (h : TickAt w bc c now conf bm l F ov k av wr) (hx : l[k]? = some x) (hf : fate c now x = .keep) (hW : Fr Nil wr W) : TickAt w bc c now conf bm l F ov (k + 1) av W := by
  obtain ⟨ents, hA, hP⟩ := h.cat
  refine ⟨⟨ents, hA.fr hW (fun _ _ e => e), by rw [mid_keep hx hf]; exact hP⟩, h.fr.trans hW (fun _ _ e => e.elim), hW.ownsRow h.ord (fun _ _ e => e), ?_, h.flt, h.two⟩
  rw [asks_keep hx (by rw [hf]; simp)]
  exact hW.ownsRow h.ask (fun _ _ e => e)
theorem row_tag {w : World} {base n : Nat} {v : Value} {xs : List Value} (h : w.ownsRow base 39 2 v n xs) : ∀ b, v.ownBlock = some b → IsTag 39 w b := ownsRow_tag h
theorem TickAt.notF {w wr : World} {l : List One} {ov av : Value} {k : Nat} (h : TickAt w bc c now conf bm l F ov k av wr) : (∀ b, ov.ownBlock = some b → ¬ F b) ∧ (∀ b, av.ownBlock = some b → ¬ F b) := by
  have key : ∀ {v : Value} {n : Nat} {xs : List Value}, wr.ownsRow w.heap.size 39 2 v n xs → ∀ b, v.ownBlock = some b → ¬ F b := by
    intro v n xs hr b hb hF
    have := h.flt b hF
    obtain ⟨_, ⟨rfl, _⟩ | ⟨g, cap, cur, rfl, hbase, _⟩⟩ := hr
    · cases hb
    · have : g = b := by simpa [Value.ownBlock] using hb
      omega
  exact ⟨key h.ord, key h.ask⟩
theorem tickLost_take {l : List One} (k : Nat) : tickLost c now (l.take k) ≤ total l := by
  have h1 := tickLost_le c now (l.take k)
  have h2 := total_append (l.take k) (l.drop k)
  rw [List.take_append_drop] at h2
  omega
theorem waits_le {l : List One} {k : Nat} {x : One} (hx : l[k]? = some x) : x.waits.length ≤ total l := by have := total_erase hx; omega
theorem TickAt.drop {w wr W W' : World} {l : List One} {ov av : Value} {k j : Nat} {x : One} {t : Ent} {ents : List Ent} (h : TickAt w bc c now conf bm l F ov k av wr) (hx : l[k]? = some x) (hf : fate c now x = .drop) (hP : (mid c now l k).Perm (rows ents)) (hj : ents[j]? = some t) (htx : t.x = x) (hW : Fr Nil wr W)
    (hA : CAt W' bc c now conf bm (ents.eraseIdx j) F) (hF : Fr F W W') : TickAt w bc c now conf bm l F ov (k + 1) av W' := by
  have n1 := h.notF.1
  have n2 := h.notF.2
  refine ⟨⟨_, hA, ?_⟩, (h.fr.trans hW (fun _ _ e => e.elim)).trans hF (fun _ _ e => e), hF.ownsRow (hW.ownsRow h.ord (fun _ _ e => e)) n1, ?_, h.flt, h.two⟩
  · rw [mid_drop hx hf]
    have e1 : rows (ents.eraseIdx j) = (rows ents).eraseIdx j := by unfold rows; rw [map_erase]
    rw [e1]
    exact perm_erase hP (mid_get hx) (by rw [rows_get hj, htx])
  · rw [asks_keep hx (by rw [hf]; simp)]
    exact hF.ownsRow (hW.ownsRow h.ask (fun _ _ e => e)) n2

theorem TickAt.ask1 {w wr W W2 V' : World} {l : List One} {ov av v' : Value} {k j : Nat} {x : One} {t : Ent} {ents : List Ent} (h : TickAt w bc c now conf bm l F ov k av wr) (hx : l[k]? = some x) (hf : fate c now x = .ask) (hP : (mid c now l k).Perm (rows ents)) (hj : ents[j]? = some t) (htx : t.x = x) (hW : Fr Nil wr W)
    (hA : CAt W2 bc c now conf bm (ents.set j { t with x := asked now t.x }) F) (hF : Fr F W W2) (o : Obj)
    (hown : V'.ownsRow w.heap.size 39 2 v' ((tickAsks c now (l.take k)).length + 1) (pcells (tickAsks c now (l.take k)) ++ [.int .i64 x.nic, .int .u32 x.nxt])) (hg : Gw (W2.alloc o) V' av.ownBlock)
    (hat : v'.ownBlock = av.ownBlock ∨ v'.ownBlock = some (W2.alloc o).heap.size) : TickAt w bc c now conf bm l F ov (k + 1) v' V' := by
  have n1 := h.notF.1
  have n2 := h.notF.2
  have h02 : Fr F w W2 := (h.fr.trans hW (fun _ _ e => e.elim)).trans hF (fun _ _ e => e)
  have ho2 := hF.ownsRow (hW.ownsRow h.ord (fun _ _ e => e)) n1
  have ha2 := hF.ownsRow (hW.ownsRow h.ask (fun _ _ e => e)) n2
  have hS : Fr (fun b => av.ownBlock = some b) W2 V' := ((Fr.refl (fun b => av.ownBlock = some b) W2).alloc o).grown hg (fun b e _ => ⟨e, fun h8 => by have := (row_tag ha2 b e).uniq h8; revert this; decide⟩)
  have hbase : ∀ b, av.ownBlock = some b → w.heap.size ≤ b := by
    intro b e
    obtain ⟨_, ⟨rfl, _⟩ | ⟨g, cap, cur, rfl, hbase, _⟩⟩ := ha2
    · cases e
    · have : g = b := by simpa [Value.ownBlock] using e
      omega
  refine ⟨⟨_, hA.fr hS (fun b hb e => n2 b e hb), ?_⟩, h02.trans hS (fun b hb e => by have := hbase b e; omega), hS.ownsRow ho2 (fun b e e' => h.two b e e'), ?_, h.flt, ?_⟩
  · rw [mid_ask hx hf, rows_set, htx]
    exact perm_set hP (mid_get hx) (by rw [rows_get hj, htx]) _
  · rw [asks_ask hx hf, pcells_append, List.length_append]
    exact hown
  · intro b e
    rcases hat with h1 | h1
    · rw [h1]; exact h.two b e
    · rw [h1]
      intro e2
      have := (row_tag ho2 b e).lt
      simp at e2
      omega

set_option maxRecDepth 100000 in
set_option maxHeartbeats 3000000 in
theorem tick_any {l : List One} (hs : Sorted l) (h : CAt w bc c now conf bm ents F) (hp : l.Perm (rows ents)) (hn0 : 0 ≤ now) (hn1 : now < 4000000000) (hlen : l.length ≤ 1000000) (htot : total l ≤ 1000000)
    (htr : ∀ x ∈ l, 0 ≤ x.tries) (hct : c.tries ≤ 9223372036854775807) :
    Calls Try.prog 11 #[.pointer (some ⟨bc, 0, none⟩)] w (TPost c now l bc F w) := by
  have c40 := h.c40
  have hbc := h.blk.lt
  have q40 : w.frozen? ⟨bc, 40, none⟩ = false := h.blk.frozen 40
  obtain ⟨hA1, hF1⟩ := h.tick (now + 1)
  have ho := order_any hs hA1 hp hlen
  have HS := Lib.hid hs
  have HP := Lib.hid hp
  have HLT := Lib.hid h.lt
  have HA1 := Lib.hid hA1
  have HF1 := Lib.hid hF1
  have HO := Lib.hid ho
  clear h hs hp hA1 hF1 ho
  go_enter Try.func11, Try.ntmps11
  go_wp2_with (go_at_call 29; refine HO.out.mono ?_)
  rintro e w1 ⟨v, rfl, hov, hfo⟩
  obtain ⟨oa, oc, rfl⟩ : ∃ a c, v = .slice a l.length c := by
    rcases hov.2 with ⟨h1, h2⟩ | ⟨g, cap, cur, h1, _⟩
    · exact ⟨none, 0, by rw [h1, h2]⟩
    · exact ⟨_, _, h1⟩
  have T0 : TickAt w bc c (now + 1) conf bm l F (.slice oa l.length oc) 0 (.slice none 0 0) w1 :=
    ⟨⟨ents, HA1.out.fr hfo (fun _ _ e => e), HP.out⟩, HF1.out.trans hfo (fun _ _ e => e.elim), by simpa using hov, World.ownsRow_nil _ _ _ _, HLT.out, fun b _ e => by cases e⟩
  have HT0 := Lib.hid T0
  clear T0 hov hfo HA1 HF1 HO HP c40 q40
  go_wp2_with fail
  go_loopw [4, 5, 23] (fun av lo i wr => ∃ k : Nat, k ≤ l.length ∧ i = .int .i64 k ∧ lo = .int .i64 (tickLost c (now + 1) (l.take k)) ∧ TickAt w bc c (now + 1) conf bm l F (.slice oa l.length oc) k av wr) (fun _ _ i _ => l.length - (intOf i).toNat)
  case atStart => exact ⟨0, Nat.zero_le _, rfl, rfl, HT0.out⟩
  case round =>
    obtain ⟨k, hk, rfl, rfl, hT⟩ := hrel
    have HT := Lib.hid hT
    clear hT HT0
    by_cases hlt : k < l.length
    · obtain ⟨x, hx⟩ : ∃ x, l[k]? = some x := ⟨_, List.getElem?_eq_getElem hlt⟩
      obtain ⟨g, hoa, c0, c1⟩ : ∃ g, oa = some ⟨g, 0, none⟩ ∧ wr.cell? ⟨g, k * 2, none⟩ = some (.int .i64 x.nic) ∧ wr.cell? ⟨g, k * 2 + 1, none⟩ = some (.int .u32 x.nxt) := own_place HT.out.ord hx
      subst hoa
      obtain ⟨ents2, hA, hP⟩ := HT.out.cat
      obtain ⟨j, t, hi, hj, htx⟩ := mid_entry HS.out hx hP
      have hA1 := hA.fr (alloc_place_fr wr x.nic x.nxt) (fun _ _ e => e)
      have hl : ∀ nq, (Instr.lookup 69 (.map (some bm)) (.agg #[.int .i64 x.nic, .int .u32 x.nxt]) false).run Try.prog ((wr.alloc (.cells #[.int .i64 x.nic, .int .u32 x.nxt] 39)).drewN nq) =
        .ok (.pointer (some ⟨t.bp, 0, none⟩)) ((wr.alloc (.cells #[.int .i64 x.nic, .int .u32 x.nxt] 39)).drewN nq) := fun nq => by
        rw [← look_some hi hj]
        exact MapIs.look (hA1.map.kept (w' := (wr.alloc (.cells #[.int .i64 x.nic, .int .u32 x.nxt] 39)).drewN nq) rfl) Try.underlying69 zeroPtr (x.nic, x.nxt)
      have d41 := hA1.c41
      have HA := Lib.hid hA
      have HA1 := Lib.hid hA1
      have HP := Lib.hid hP
      have HI := Lib.hid hi
      have HJ := Lib.hid hj
      have HTX := Lib.hid htx
      have HX := Lib.hid hx
      clear hA hA1 hP hi hj htx hx
      go_wp2_with fail
      go_quiet (fail)
      go_wp2_with fail
      have hf0 : Fr Nil wr ((wr.alloc (.cells #[.int .i64 x.nic, .int .u32 x.nxt] 39)).drewN nq) := (alloc_place_fr wr x.nic x.nxt).drewN nq
      have hB0 : Blk ((wr.alloc (.cells #[.int .i64 x.nic, .int .u32 x.nxt] 39)).drewN nq) wr.heap.size 39 [.int .i64 x.nic, .int .u32 x.nxt] := (Blk.new wr 39 [.int .i64 x.nic, .int .u32 x.nxt]).drewN nq
      clear d41 hl c0 c1
      generalize (wr.alloc (.cells #[.int .i64 x.nic, .int .u32 x.nxt] 39)).drewN nq = W at *
      have hbwr : bc < wr.heap.size := HA.out.blk.lt
      have hAW := HA.out.fr hf0 (fun _ _ e => e)
      have hE := hAW.eat t (List.mem_of_getElem? HJ.out)
      obtain ⟨ua, uc, hu⟩ : ∃ a c, t.u = .slice a x.waits.length c := by rw [← HTX.out]; obtain ⟨vs, _, ⟨a, cc, e, _⟩, _⟩ := hE.2.rd (G := fun _ => True) (fun _ _ => trivial); exact ⟨a, cc, e⟩
      have hlo : tickLost c (now + 1) (l.take k) ≤ 1000000 := Nat.le_trans (tickLost_take k) htot
      have hwl : x.waits.length ≤ 1000000 := Nat.le_trans (waits_le HX.out) htot
      have hto : total (rows ents2) ≤ 1000000 := by
        have h1 := total_perm HP.out
        have h2 := tickLost_le c (now + 1) (l.take k)
        have h3 := total_append (l.take k) (l.drop k)
        have h4 := total_append (tickRow c (now + 1) (l.take k)) (l.drop k)
        rw [List.take_append_drop] at h3
        unfold mid at h1
        omega
      have hto2 : x.waits.length ≤ total (rows ents2) := by rw [← HTX.out]; exact waits_le (rows_get HJ.out)
      have e0 := hE.p0
      have e7 : W.cell? ⟨t.bp, 7, none⟩ = some (.int .i64 t.x.tries) := hE.1.cellS rfl
      have e8 : W.cell? ⟨t.bp, 8, none⟩ = some (.int .i64 (dueOf c t.x)) := hE.1.cellS rfl
      have e9 := hE.p9
      have e31 := hAW.c31
      have e30 := hAW.c30
      have e40 := hAW.c40
      have e41 := hAW.c41
      have e42 := hAW.c42
      have b0 := hB0.cellS (i := 0) rfl
      have b1 := hB0.cellS (i := 1) rfl
      rw [HTX.out] at e0 e7 e8
      rw [hu] at e9
      have HU := Lib.hid hu
      clear hu
      have HE := Lib.hid hE
      have HAW := Lib.hid hAW
      have HB0 := Lib.hid hB0
      have HF0 := Lib.hid hf0
      clear hE hAW hB0 hf0
      by_cases hdue : dueOf c x > now + 1
      · go_wp2_with fail
        go_quiet (fail)
        go_wp2
        go_roundw
        case rel => exact ⟨k + 1, by omega, by go_num, by rw [lost_keep HX.out (by rw [fate_keep.2 hdue]; simp)], HT.out.keep HX.out (fate_keep.2 hdue) (HF0.out.drewN _)⟩
        case measure => simp [intOf]; omega
      · have hdue' : decide (dueOf c x > now + 1) = false := by simpa using hdue
        cases hkn : x.known with
        | true =>
          rw [hkn] at e0
          have HFD := Lib.hid (fate_dropK hdue hkn)
          clear hdue
          go_wp2_with fail
          go_quiet (fail)
          go_wp2_with fail
          revert nq
          intro n1
          go_quiet (fail)
          go_wp2_with fail
          have z42 : W.frozen? ⟨bc, 42, none⟩ = false := HAW.out.blk.frozen 42
          go_region
          go_wp2_with fail
          generalize n1 + nq + 1 = n2
          have hAn := HAW.out.fr ((Fr.refl Nil W).drewN n2) (fun _ _ e => e)
          have hmV : MapIs ((W.drewN n2).setCell ⟨bc, 42, none⟩ (.int .i64 ((total (rows ents2) : Int) - x.waits.length))) bm (ents2.map ekv) := hAn.map.kept (Below.heap_setCell _ _ _ _ (fun e => hAn.bcbm e.symm))
          have f41 : ((W.drewN n2).setCell ⟨bc, 42, none⟩ (.int .i64 ((total (rows ents2) : Int) - x.waits.length))).cell? ⟨bc, 41, none⟩ = some (.map (some bm)) := by rw [World.cell?_setCell_other _ _ _ _ (by simp)]; exact e41
          have g0 : ((W.drewN n2).setCell ⟨bc, 42, none⟩ (.int .i64 ((total (rows ents2) : Int) - x.waits.length))).cell? ⟨wr.heap.size, 0, none⟩ = some (.int .i64 x.nic) := by rw [World.cell?_setCell_other _ _ _ _ (by simp)]; exact b0
          have g1 : ((W.drewN n2).setCell ⟨bc, 42, none⟩ (.int .i64 ((total (rows ents2) : Int) - x.waits.length))).cell? ⟨wr.heap.size, 1, none⟩ = some (.int .u32 x.nxt) := by rw [World.cell?_setCell_other _ _ _ _ (by simp)]; exact b1
          have hbV : bc < ((W.drewN n2).setCell ⟨bc, 42, none⟩ (.int .i64 ((total (rows ents2) : Int) - x.waits.length))).heap.size := by simp only [World.size_setCell]; exact hAn.blk.lt
          have hD := fun (w1 : World) (hf1 : Fr Nil ((W.drewN n2).setCell ⟨bc, 42, none⟩ (.int .i64 ((total (rows ents2) : Int) - x.waits.length))) w1) (es' : Array MapEntry) (ck' : Nat) hm => hAn.dropped (w1 := w1) (es' := es') (ck' := ck') HJ.out HI.out (by rw [HTX.out]; exact hf1) hm
          generalize (W.drewN n2).setCell ⟨bc, 42, none⟩ (.int .i64 ((total (rows ents2) : Int) - x.waits.length)) = V at *
          obtain ⟨es', ck', hrun, hmap⟩ := MapIs.del (K := 39) (E := 72) (hmV.kept (w' := V.drew) rfl) Try.underlying69 (x.nic, x.nxt) 0
          obtain ⟨hA3, hF3⟩ := hD V.drew ((Fr.refl Nil V).drew) es' ck' hmap
          have HA3 := Lib.hid hA3
          have HF3 := Lib.hid hF3
          clear hD hA3 hF3 hmap hmV hAn
          unfold kv at hrun
          go_region
          go_wp2_with fail
          go_roundw
          case rel => exact ⟨k + 1, by omega, by go_num, by rw [lost_drop HX.out HFD.out, Int.natCast_add], HT.out.drop HX.out HFD.out HP.out HJ.out HTX.out (HF0.out.drewN n2) HA3.out HF3.out⟩
          case measure => simp [intOf]; omega
        | false =>
          rw [hkn] at e0
          by_cases htri : x.tries < c.tries
          · have HFA := Lib.hid (fate_ask.2 ⟨hdue, hkn, htri⟩)
            have htr0 : 0 ≤ x.tries := htr x (List.mem_of_getElem? HX.out)
            have htr1 : x.tries + 1 ≤ 9223372036854775807 := by omega
            have HKN := Lib.hid hkn
            have htri' : decide (x.tries < c.tries) = true := by simpa using htri
            clear hdue htri
            go_wp2_with fail
            go_quiet (fail)
            go_wp2_with fail
            revert nq
            intro n1
            go_quiet (fail)
            have z7 : W.frozen? ⟨t.bp, 7, none⟩ = false := HE.out.1.frozen 7
            have z8 : W.frozen? ⟨t.bp, 8, none⟩ = false := HE.out.1.frozen 8
            have hne : t.bp ≠ bc := HAW.out.bpbc (List.mem_of_getElem? HJ.out)
            have x30 : ((W.drewN (n1 + nq)).setCell ⟨t.bp, 7, none⟩ (.int .i64 (x.tries + 1))).cell? ⟨bc, 30, none⟩ = some (.int .i64 c.retry) := by rw [World.cell?_setCell_other _ _ _ _ (by simp)]; exact e30
            have x40 : ((W.drewN (n1 + nq)).setCell ⟨t.bp, 7, none⟩ (.int .i64 (x.tries + 1))).cell? ⟨bc, 40, none⟩ = some (.int .i64 (now + 1)) := by rw [World.cell?_setCell_other _ _ _ _ (by simp)]; exact e40
            obtain ⟨hA2, hF2⟩ := (HAW.out.fr ((Fr.refl Nil W).drewN (n1 + nq)) (fun _ _ e => e)).asked HJ.out (by rw [HTX.out]; exact HKN.out)
            rw [show t.x.tries = x.tries by rw [HTX.out]] at hA2 hF2
            have hask2 := hF2.ownsRow ((HF0.out.drewN (n1 + nq)).ownsRow HT.out.ask (fun _ _ e => e)) HT.out.notF.2
            have hsz2 : w.heap.size ≤ (((W.drewN (n1 + nq)).setCell ⟨t.bp, 7, none⟩ (.int .i64 (x.tries + 1))).setCell ⟨t.bp, 8, none⟩ (.int .i64 (now + 1 + clamp c.retry 1 4095))).heap.size := Nat.le_trans (HT.out.fr.trans (HF0.out.drewN (n1 + nq)) (fun _ _ e => e.elim)).size hF2.size
            have hal : (tickAsks c (now + 1) (l.take k)).length ≤ 1000000 := by have := tickAsks_length c (now + 1) (l.take k); simp at this; omega
            have HA2 := Lib.hid hA2
            have HF2 := Lib.hid hF2
            have HASK := Lib.hid hask2
            obtain ⟨i0, hi0, hz0, hz1, hz2⟩ := info_parts infoPl
            have hnew : RdS (fun _ => True) ((((W.drewN (n1 + nq)).setCell ⟨t.bp, 7, none⟩ (.int .i64 (x.tries + 1))).setCell ⟨t.bp, 8, none⟩ (.int .i64 (now + 1 + clamp c.retry 1 4095))).alloc (.cells #[.int .i64 x.nic, .int .u32 x.nxt] 39)) (.slice (some ⟨W.heap.size, 0, none⟩) 1 1) 1 [.int .i64 x.nic, .int .u32 x.nxt] := by
              have hB := Blk.new (((W.drewN (n1 + nq)).setCell ⟨t.bp, 7, none⟩ (.int .i64 (x.tries + 1))).setCell ⟨t.bp, 8, none⟩ (.int .i64 (now + 1 + clamp c.retry 1 4095))) 39 [.int .i64 x.nic, .int .u32 x.nxt]
              simp only [World.size_setCell] at hB
              exact ⟨_, _, rfl, Nat.le_refl _, fun _ => ⟨W.heap.size, 0, rfl, trivial, hB.lt, fun j v hv => by rw [Nat.zero_add]; exact hB.cellS hv⟩⟩
            have HNEW := Lib.hid hnew
            clear hnew
            clear hA2 hF2 hask2
            go_wp2_with (first
              | (go_at_call 26; refine (due_any _ bc (now + 1) c.retry (by exact x40) (by omega) (by omega)).mono ?_; rintro e w' ⟨rfl, rfl⟩)
              | (at_builtin; refine wpList_append_rd _ rfl (.tmp 102) (.tmp 104) _ rfl w.heap.size 39 i0 _ 2 16 Try.underlying51 hi0 hz0 hz1 hz2 rfl (by omega) u4 _ _ (by rfl) (HASK.out.alloc _) (fun _ => True) (.slice (some ⟨W.heap.size, 0, none⟩) 1 1) 1 [.int .i64 x.nic, .int .u32 x.nxt] (by rfl) HNEW.out rfl (by simp [Value.oneCell']) (by simp only [maxLen]; omega) (by omega) (by simp at hsz2 ⊢; omega) ?_; intro v' w4 hown4 hg4 hat4))
            go_roundw
            case rel => exact ⟨k + 1, by omega, by go_num, by rw [lost_keep HX.out (by rw [HFA.out]; simp)], HT.out.ask1 HX.out HFA.out HP.out HJ.out HTX.out (HF0.out.drewN (n1 + nq)) HA2.out HF2.out _ hown4 hg4 hat4⟩
            case measure => simp [intOf]; omega
          · have htri' : decide (x.tries < c.tries) = false := by simpa using htri
            have HFD := Lib.hid (fate_dropT hdue htri)
            clear hdue htri
            go_wp2_with fail
            go_quiet (fail)
            go_wp2_with fail
            revert nq
            intro n1
            go_quiet (fail)
            go_wp2_with fail
            have z42 : W.frozen? ⟨bc, 42, none⟩ = false := HAW.out.blk.frozen 42
            go_region
            go_wp2_with fail
            generalize n1 + nq + 1 = n2
            have hAn := HAW.out.fr ((Fr.refl Nil W).drewN n2) (fun _ _ e => e)
            have hmV : MapIs ((W.drewN n2).setCell ⟨bc, 42, none⟩ (.int .i64 ((total (rows ents2) : Int) - x.waits.length))) bm (ents2.map ekv) := hAn.map.kept (Below.heap_setCell _ _ _ _ (fun e => hAn.bcbm e.symm))
            have f41 : ((W.drewN n2).setCell ⟨bc, 42, none⟩ (.int .i64 ((total (rows ents2) : Int) - x.waits.length))).cell? ⟨bc, 41, none⟩ = some (.map (some bm)) := by rw [World.cell?_setCell_other _ _ _ _ (by simp)]; exact e41
            have g0 : ((W.drewN n2).setCell ⟨bc, 42, none⟩ (.int .i64 ((total (rows ents2) : Int) - x.waits.length))).cell? ⟨wr.heap.size, 0, none⟩ = some (.int .i64 x.nic) := by rw [World.cell?_setCell_other _ _ _ _ (by simp)]; exact b0
            have g1 : ((W.drewN n2).setCell ⟨bc, 42, none⟩ (.int .i64 ((total (rows ents2) : Int) - x.waits.length))).cell? ⟨wr.heap.size, 1, none⟩ = some (.int .u32 x.nxt) := by rw [World.cell?_setCell_other _ _ _ _ (by simp)]; exact b1
            have hbV : bc < ((W.drewN n2).setCell ⟨bc, 42, none⟩ (.int .i64 ((total (rows ents2) : Int) - x.waits.length))).heap.size := by simp only [World.size_setCell]; exact hAn.blk.lt
            have hD := fun (w1 : World) (hf1 : Fr Nil ((W.drewN n2).setCell ⟨bc, 42, none⟩ (.int .i64 ((total (rows ents2) : Int) - x.waits.length))) w1) (es' : Array MapEntry) (ck' : Nat) hm => hAn.dropped (w1 := w1) (es' := es') (ck' := ck') HJ.out HI.out (by rw [HTX.out]; exact hf1) hm
            generalize (W.drewN n2).setCell ⟨bc, 42, none⟩ (.int .i64 ((total (rows ents2) : Int) - x.waits.length)) = V at *
            obtain ⟨es', ck', hrun, hmap⟩ := MapIs.del (K := 39) (E := 72) (hmV.kept (w' := V.drew) rfl) Try.underlying69 (x.nic, x.nxt) 0
            obtain ⟨hA3, hF3⟩ := hD V.drew ((Fr.refl Nil V).drew) es' ck' hmap
            have HA3 := Lib.hid hA3
            have HF3 := Lib.hid hF3
            clear hD hA3 hF3 hmap hmV hAn
            unfold kv at hrun
            go_region
            go_wp2_with fail
            go_roundw
            case rel => exact ⟨k + 1, by omega, by go_num, by rw [lost_drop HX.out HFD.out, Int.natCast_add], HT.out.drop HX.out HFD.out HP.out HJ.out HTX.out (HF0.out.drewN n2) HA3.out HF3.out⟩
            case measure => simp [intOf]; omega
    · have hk' : k = l.length := by omega
      have Hk := Lib.hid hk'; clear hk'
      have h3 : ¬ (k : Int) < (l.length : Int) := by omega
      go_wp2
      go_ret2
      have hk2 := Hk.out
      subst hk2
      obtain ⟨⟨ents2, hA, hP⟩, hf, _, hask, _⟩ := HT.out
      simp only [List.take_length] at hask ⊢
      rw [mid_all] at hP
      exact ⟨_, rfl, hask, hf, F, ⟨by rw [← mid_all]; exact mid_sorted HS.out c (now + 1) l.length, conf, bm, ents2, hA, hP⟩, fun b hb => .inl hb⟩
end

end Go.Proofs.Ytaokmbmimogdgaa
