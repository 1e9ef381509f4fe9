/-
  node.wait: a probe goes on, or ends.
-/
import Derived.Test.YtfngdplkcppabaaGreatPart22
set_option linter.all false
namespace Go.Proofs.YtfngdplkcppabaaGreat
open Go.RowKit

/-- What is no block of the node's and no row of packets may turn. -/
theorem St.foreign {B : Nat} {w w' w'' : World} {a a' : Ad} {x x' : Nd} {ov : Value} {ps : List Pk} (h : St B w a x w' a' x' ov ps) {S : Nat → Obj → Prop} (hc : Chg S w' w'') (hS : ∀ j o, w'.heap[j]? = some o → S j o → w.heap.size ≤ j ∧ ¬ Owns a' x' j ∧ ∀ c f, o ≠ .cells c 42 f) : St B w a x w'' a' x' ov ps := by
  refine ⟨h.node.keep (fun k hk => ?_), own_heap h.out (fun k hk => ?_), ?_, h.own, h.b⟩
  · have hlt := h.node.owns_lt hk
    obtain ⟨o, ho⟩ : ∃ o, w'.heap[k]? = some o := ⟨_, Array.getElem?_eq_getElem hlt⟩
    rw [ho]
    exact hc.kept k o ho (fun hs => (hS k o ho hs).2.1 hk)
  · obtain ⟨_, c, ho⟩ := ownsRow_blk h.out hk
    rw [ho]
    exact hc.kept k _ ho (fun hs => (hS k _ ho hs).2.2 c (0, 0) rfl)
  · exact ⟨hc.os.trans h.chg.os, hc.tape.trans h.chg.tape, hc.output.trans h.chg.output, Nat.le_trans h.chg.size hc.size, fun i o ho hs => by
      have h1 := h.chg.kept i o ho hs
      exact hc.kept i o h1 (fun hk => by have := (hS i o h1 hk).1; have := heap_lt ho; omega)⟩
theorem sent_low {y : Nd} (seq tgt : Int) : y.sent ⟨3, 0, 0, seq, tgt, []⟩ = { y with queue := y.take.queue } := by unfold Nd.sent; rw [if_pos (show (3 : Int) < 4 by decide)]; rfl
theorem askAll_cons {p : Prb} {n : Nat} {L : List Int} {y : Nd} {d : Nat} {k : Nat} (hL : L ≠ []) (hd : (y.draw L.length).1 = (d : Int)) (hk : (y.draw L.length).2 = { y with at_ := k }) :
    Nd.askAll p (n + 1) L y = ((L.getD d 0, ({ y with at_ := k } : Nd).msg ⟨3, 0, 0, p.seq, p.tgt, []⟩) :: (Nd.askAll p n (L.eraseIdx d) (({ y with at_ := k } : Nd).sent ⟨3, 0, 0, p.seq, p.tgt, []⟩)).1, (Nd.askAll p n (L.eraseIdx d) (({ y with at_ := k } : Nd).sent ⟨3, 0, 0, p.seq, p.tgt, []⟩)).2) := by
  rw [Nd.askAll, if_neg hL]
  simp only [hd, hk, Int.toNat_natCast]
theorem askAll_nil (p : Prb) (n : Nat) (y : Nd) : Nd.askAll p n [] y = ([], y) := by cases n <;> simp [Nd.askAll]
theorem St.drew {B : Nat} {w w' : World} {a a' : Ad} {x x' : Nd} {ov : Value} {ps : List Pk} (h : St B w a x w' a' x' ov ps) : St B w a x w'.drew a' x' ov ps :=
  ⟨h.node.keep (fun _ _ => rfl), own_heap h.out (fun _ _ => rfl), h.chg.drew, h.own, h.b⟩
theorem waits_none {x : Nd} (h : x.probe = none) : x.waits = ([], x) := by unfold Nd.waits; rw [h]
set_option maxRecDepth 100000 in
set_option maxHeartbeats 4000000 in
theorem wait_none {x : Nd} (hp : x.probe = none) (a : Ad) (ov : Value) (B : Nat) (ps : List Pk) (w : World) (h : NodeAt w a ov x) (hout : OutRow w B ov ps) :
    Calls Tryz.prog 31 #[.pointer (some ⟨a.b, 0, none⟩)] w (Does B w a x ps x.waits) := by
  rw [waits_none hp]
  have c16 : w.cell? ⟨a.b, 16, none⟩ = some (prbV a x.probe) := h.blk.cell (by omega)
  rw [hp] at c16
  unfold prbV at c16
  have HS := Lib.hid (St.refl h hout)
  clear h hout hp
  go_enter Tryz.func31, Tryz.ntmps31
  go_wp2
  ((try simp only [Exit.inBlock, Exit.then]); first | refine bodyPost_ret (results_none rfl _ _ _) rfl ?_ | refine bodyPost_end (results_none rfl _ _ _) rfl ?_)
  exact Does.of (by rw [List.append_nil]; exact HS.out.alloc _)
set_option maxRecDepth 100000 in
set_option maxHeartbeats 16000000 in
theorem wait_some {x : Nd} (ho : Ok x) {C : Int} (hbd : Bd C x) (hC : C ≤ 100000000000) (hdl : x.ds.length ≤ 1000000) {p : Prb} (hp : x.probe = some p) (a : Ad) (ov : Value) (B : Nat) (ps : List Pk) (w : World) (h : NodeAt w a ov x) (hout : OutRow w B ov ps) (hB : B ≤ w.heap.size) (hps : ps.length < 900) :
    Calls Tryz.prog 31 #[.pointer (some ⟨a.b, 0, none⟩)] w (Does B w a x ps x.waits) := by
  have c16 : w.cell? ⟨a.b, 16, none⟩ = some (prbV a x.probe) := h.blk.cell (by omega)
  rw [hp] at c16
  unfold prbV at c16
  have hpb0 := h.prb p hp
  have hpr := ho.prb p hp
  have hcl := hbd.clock
  have hcf := cfg_bounds ho.cfg
  obtain ⟨age, hage⟩ : ∃ age, x.clock - p.start = age := ⟨_, rfl⟩
  have wa : IntKind.i64.wrap (x.clock - p.start) = age := by rw [IntWalk.i64_in _ (by omega)]; exact hage
  obtain ⟨r, hr⟩ : ∃ r, (if age = x.c.wait ∧ p.acked = false then Nd.askAll p x.c.prox.toNat (x.helpers p) x else ([], x)) = r := ⟨_, rfl⟩
  have hwt : x.waits = (r.1, r.2.endProbe p) := by unfold Nd.waits; rw [hp]; simp only; rw [hage, hr]
  obtain ⟨w1, hw1⟩ : ∃ w1, w.alloc (.cells #[.pointer (some ⟨a.pb, 0, none⟩)] 74) = w1 := ⟨_, rfl⟩
  have hx1 : w1.heap[w.heap.size]? = some (.cells #[.pointer (some ⟨a.pb, 0, none⟩)] 74 (0, 0)) := by rw [← hw1]; exact heap_alloc_eq w _
  have S1 : St B w a x w1 a x ov ps := by rw [← hw1]; exact (St.refl h hout).alloc _
  have hs1 : w1.heap.size = w.heap.size + 1 := by rw [← hw1]; simp
  have c13 : w1.cell? ⟨a.b, 13, none⟩ = some (.int .i64 x.clock) := S1.node.blk.cell (by omega)
  have c2 : w1.cell? ⟨a.b, 2, none⟩ = some (.int .i64 x.c.wait) := S1.node.blk.cell (by omega)
  have hpb := S1.node.prb p hp
  have p2 := cells_at hpb 2
  have p3 := cells_at hpb 3
  have bx := cells_at hx1 0
  simp only [prbCells, List.getElem?_toArray, List.getElem?_cons_succ, List.getElem?_cons_zero] at p2 p3 bx
  have H := Lib.hid h
  have HO := Lib.hid ho
  have HBD := Lib.hid hbd
  have HOUT := Lib.hid hout
  have HP := Lib.hid hp
  have HS1 := Lib.hid S1
  have HX1 := Lib.hid hx1
  have HW1 := Lib.hid hw1
  have HR := Lib.hid hr
  have HDL := Lib.hid hdl
  have HWT := Lib.hid hwt
  have HAGE := Lib.hid hage
  clear h ho hbd hout hp S1 hx1 hw1 hpb hpb0 hr hwt hage hdl
  go_enter Tryz.func31, Tryz.ntmps31
  go_wp2
  rw [HW1.out]
  go_quiet (fail)
  go_upto_region 3 with (fail)
  go_cut [35] (fun s35 wx => ∃ bc n, s35 = .bool bc ∧ (bc = true ↔ age = x.c.wait ∧ p.acked = false) ∧ wx = w1.drewN n)
  case first =>
    by_cases e1 : age = x.c.wait
    · have e1b : (age == x.c.wait) = true := by simpa using e1
      have HE := Lib.hid e1
      clear e1
      go_wp2
      go_meet
      case rel => exact ⟨_, nq, rfl, by have := HE.out; simp [this], rfl⟩
    · have e1b : (age == x.c.wait) = false := by simpa using e1
      have HE := Lib.hid e1
      clear e1
      go_wp2
      go_meet
      case rel => exact ⟨_, nq, rfl, by have := HE.out; simp [this], rfl⟩
  case rest =>
  obtain ⟨bc, nq1, rfl, hbc, rfl⟩ := hcut
  have HBC := Lib.hid hbc
  clear hbc
  go_upto_if 35 with (fail)
  go_cut [] (fun wx => ∃ k q ov1, r.2 = { x with at_ := k, queue := q } ∧ (k : Int) ≤ C + 3 ∧ Ok r.2 ∧ St B w a x wx a { x with at_ := k, queue := q } ov1 (ps ++ r.1) ∧ wx.heap[w.heap.size]? = some (.cells #[.pointer (some ⟨a.pb, 0, none⟩)] 74 (0, 0)))
  case first =>
    cases bc with
    | true =>
      obtain ⟨e1, e2⟩ := HBC.out.1 rfl
      have hra : r = Nd.askAll p x.c.prox.toNat (x.helpers p) x := by rw [← HR.out, if_pos ⟨e1, e2⟩]
      have HRA := Lib.hid hra
      obtain ⟨L0, hL0⟩ : ∃ L0, x.helpers p = L0 := ⟨_, rfl⟩
      have hll : (x.others.filter (askB p.tgt)).length = L0.length := by rw [← hL0]; unfold Nd.helpers askB; simp
      have hl7 : L0.length ≤ 7 := by rw [← hll]; exact Nat.le_trans (List.length_filter_le _ _) HO.out.len
      have hlm : (x.others.filter (askB p.tgt)).map (fun m => Value.int .i64 m.k.id) = L0.map (Value.int .i64) := by rw [← hL0]; unfold Nd.helpers askB; rw [List.map_map]; rfl
      have HLL := Lib.hid hll
      have HLM := Lib.hid hlm
      have HL0 := Lib.hid hL0
      have c10 : w1.cell? ⟨a.b, 10, none⟩ = some (.map (some a.bo)) := HS1.out.node.blk.cell (by omega)
      have c4 : w1.cell? ⟨a.b, 4, none⟩ = some (.int .i64 x.c.prox) := HS1.out.node.blk.cell (by omega)
      clear hra e1 e2 hll hlm hL0
      go_wp2_with (first
        | (go_at_call 27; refine (sortedN_any HO.out a ov _ (HS1.out.drewN nq1).node (askB p.tgt) 54 #[.pointer (some ⟨w.heap.size, 0, none⟩)] eg_wait1 (fun m hm W' hW => wait1_any (a.mem m.k.id) w.heap.size a.pb m p.tgt W' (((HS1.out.drewN nq1).node.below hW).mems m hm) (by rw [cells_at ((hW.block _ (heap_lt HX1.out)).trans HX1.out)]; rfl) (by rw [cells_at (((HS1.out.drewN nq1).node.below hW).prb p HP.out)]; rfl))).mono ?_; rintro e w27 ⟨v27, rfl, hP27, hb27⟩
           have HP27 := Lib.hid hP27
           have HB27 := Lib.hid hb27
           clear hP27 hb27)
        | (go_at_call 53; refine (mapI_any a.mem (x.others.filter (askB p.tgt)) v27 w27 HP27.out ((HS1.out.drewN nq1).node.memsAt HB27.out (fun m hm => (List.mem_filter.1 hm).1)) (by have := HO.out.len; have := List.length_filter_le (askB p.tgt) x.others; omega)).mono ?_; rintro e w53 ⟨v53, rfl, hrow53, hb53⟩
           rw [HLL.out, HLM.out] at hrow53
           obtain ⟨pa, pc, rfl⟩ := ownsRow_sl hrow53
           have hbb : Below w1.heap.size (w1.drewN nq1) w53 := HB27.out.trans (hb53.mono HB27.out.size)
           have q4 : w53.cell? ⟨a.b, 4, none⟩ = some (.int .i64 x.c.prox) := ((HS1.out.drewN nq1).node.below hbb).blk.cell (by omega)
           have HBB := Lib.hid hbb
           have HROW := Lib.hid hrow53
           clear hb53 hrow53 hbb))
      obtain ⟨cnt, hcnt⟩ : ∃ cnt : Nat, min x.c.prox (L0.length : Int) = (cnt : Int) := ⟨(min x.c.prox (L0.length : Int)).toNat, by omega⟩
      rw [hcnt]
      have hS53 : St B w a x w53 a x ov ps := (HS1.out.drewN nq1).trans (St.turned (HS1.out.drewN nq1).node (HS1.out.drewN nq1).out (Turned.below (HS1.out.drewN nq1).node HBB.out))
      have hx53 : w53.heap[w.heap.size]? = some (.cells #[.pointer (some ⟨a.pb, 0, none⟩)] 74 (0, 0)) := (HBB.out.block _ (by omega)).trans HX1.out
      have hz27 : w1.heap.size ≤ w27.heap.size := HB27.out.size
      have hrw53 := own_below HROW.out hz27
      have HS53 := Lib.hid hS53
      have HX53 := Lib.hid hx53
      have HRW53 := Lib.hid hrw53
      have hOL : Hid (∀ k q j, Owns a ({ x with at_ := k, queue := q } : Nd) j → j < w.heap.size) := Lib.hid (fun k q j hj => H.out.owns_lt (show Owns a x j from hj))
      have HCNT := Lib.hid hcnt
      have hcp : (cnt : Int) ≤ x.c.prox := by omega
      have hcl0 : cnt ≤ L0.length := by omega
      clear hS53 hx53 hrw53 hcnt
      go_loopw [4, 51] (fun s4 s51 wr => ∃ (j : Nat) (L : List Int) (k : Nat) (qq : List Upd) (ovj : Value) (psj : List Pk), s51 = .int .i64 (j : Nat) ∧ j ≤ cnt ∧ L.length + j = L0.length ∧ (k : Int) ≤ C + j ∧ s4 = .slice pa L.length pc ∧ wr.ownsRow w1.heap.size 3 1 (.slice pa L.length pc) L.length (L.map (Value.int .i64)) ∧
          Ok { x with at_ := k, queue := qq } ∧ St B w a x wr a { x with at_ := k, queue := qq } ovj psj ∧ psj ++ (Nd.askAll p (x.c.prox.toNat - j) L { x with at_ := k, queue := qq }).1 = ps ++ r.1 ∧ (Nd.askAll p (x.c.prox.toNat - j) L { x with at_ := k, queue := qq }).2 = r.2 ∧ psj.length ≤ ps.length + j ∧
          wr.heap[w.heap.size]? = some (.cells #[.pointer (some ⟨a.pb, 0, none⟩)] 74 (0, 0)))
        (fun _ s51 _ => 10 - (intOf s51).toNat)
      case atStart => exact ⟨0, L0, x.at_, x.queue, ov, ps, rfl, Nat.zero_le _, rfl, by have := HBD.out.at_; omega, rfl, HRW53.out, HO.out, HS53.out, by rw [HRA.out, HL0.out]; rfl, by rw [HRA.out, HL0.out]; rfl, by omega, HX53.out⟩
      case round =>
        obtain ⟨j, L, k, qq, ovj, psj, rfl, hj, hLj, hkj, rfl, hrow, hok, hS, hq1, hq2, hpl, hxb⟩ := hrel
        have HOKJ := Lib.hid hok
        have HSJ := Lib.hid hS
        have HQ1 := Lib.hid hq1
        have HQ2 := Lib.hid hq2
        have HROWJ := Lib.hid hrow
        have HXB := Lib.hid hxb
        have hszr := hS.chg.size
        clear hok hS hq1 hq2 hrow hxb
        by_cases hjc : j < cnt
        · have hLne : L ≠ [] := fun e => by rw [e] at hLj; simp at hLj; omega
          obtain ⟨y, hy⟩ : ∃ y : Nd, { x with at_ := k, queue := qq } = y := ⟨_, rfl⟩
          have hyd : y.ds = x.ds := by rw [← hy]
          have hbdy : Bd (C + 7) y := by
            have hb := HBD.out.mono (C := C + 7) (by omega)
            rw [← hy]
            exact ⟨hb.clock, hb.seq, hb.dropped, hb.lost, by show (k : Int) ≤ C + 7; omega⟩
          have hLlen : 1 ≤ L.length := by omega
          obtain ⟨hd0, hd1⟩ := draw_range y (n := (L.length : Int)) (by omega)
          obtain ⟨k', hk'⟩ := draw_eq y (L.length : Int)
          obtain ⟨d, hd⟩ : ∃ d : Nat, (y.draw (L.length : Int)).1 = (d : Int) := ⟨((y.draw (L.length : Int)).1).toNat, by omega⟩
          have hdL : d < L.length := by omega
          have hN := HSJ.out.node
          rw [hy] at hN
          have hcon := draw_any hbdy (by omega) a ovj wr hN (L.length : Int) (by omega) (by rw [hyd]; exact HDL.out)
          rw [hd, hk'] at hcon
          have hk1 : k' ≤ k + 1 := by
            have : k' = y.at_ ∨ k' = y.at_ + 1 := by
              have e := hk'
              unfold Nd.draw at e
              split at e
              · left; exact (congrArg Nd.at_ e).symm
              · right; exact (congrArg Nd.at_ e).symm
            have e2 : y.at_ = k := by rw [← hy]
            omega
          have n6 : wr.cell? ⟨a.b, 6, none⟩ = some (.func (.func 58) #[] #[.pointer (some ⟨a.w1, 0, none⟩), .pointer (some ⟨a.w2, 0, none⟩)]) := hN.blk.cell (by omega)
          have hask := askAll_cons (p := p) (n := x.c.prox.toNat - (j + 1)) hLne hd hk'
          have hpj : x.c.prox.toNat - j = x.c.prox.toNat - (j + 1) + 1 := by omega
          have HCON := Lib.hid hcon
          have HASK := Lib.hid hask
          have HY := Lib.hid hy
          have HK' := Lib.hid hk'
          have HDD := Lib.hid hd
          have HPJ := Lib.hid hpj
          clear hcon hask hy hk' hd hpj hd0 hd1 hbdy hN hyd
          go_wp2_with fail
          refine HCON.out.mono ?_
          rintro e w4 ⟨rfl, hT4⟩
          have hye : ({ y with at_ := k' } : Nd) = { x with at_ := k', queue := qq } := by rw [← HY.out]
          rw [hye] at hT4
          have hT4' : Turned ovj wr a { x with at_ := k, queue := qq } w4 a { x with at_ := k', queue := qq } := by rw [HY.out]; exact hT4
          have hS4 := HSJ.out.trans (St.turned HSJ.out.node HSJ.out.out hT4')
          have hkeep : ∀ b o, wr.heap[b]? = some o → w.heap.size ≤ b → w4.heap[b]? = some o := fun b o hb hl => hT4'.chg.kept b o hb (fun ho => by have := hOL.out k qq b ho; omega)
          have hx4 := hkeep _ _ HXB.out (Nat.le_refl _)
          have hrow4 : w4.ownsRow w1.heap.size 3 1 (.slice pa L.length pc) L.length (L.map (Value.int .i64)) := own_heap HROWJ.out (fun b hb => by
            obtain ⟨hl, c, hc⟩ := ownsRow_blk HROWJ.out hb
            rw [hkeep b _ hc (by omega)]; exact hc.symm)
          obtain ⟨b5, o5, e5, hb5, hc5⟩ := CellsAt.row hrow4 d (.int .i64 (L.getD d 0)) (by rw [List.getElem?_map, List.getElem?_eq_getElem hdL, List.getD_eq_getElem?_getD, List.getElem?_eq_getElem hdL]; rfl)
          subst e5
          have bx4 := cells_at hx4 0
          have pb4 := hS4.node.prb p HP.out
          have g0 := cells_at pb4 0
          have g1 := cells_at pb4 1
          simp only [prbCells, List.getElem?_toArray, List.getElem?_cons_succ, List.getElem?_cons_zero] at bx4 g0 g1
          have hok4 : Ok { x with at_ := k', queue := qq } := { HOKJ.out with }
          have hsz4 : wr.heap.size ≤ w4.heap.size := hT4'.chg.size
          obtain ⟨vd, hvd⟩ : ∃ vd, L.getD d 0 = vd := ⟨_, rfl⟩
          rw [hvd] at hc5
          have HVD := Lib.hid hvd
          have HS4 := Lib.hid hS4
          have HX4 := Lib.hid hx4
          have HROW4 := Lib.hid hrow4
          have HOK4 := Lib.hid hok4
          clear hT4 hT4' hye hS4 hkeep hx4 hrow4 pb4 hok4 hvd
          go_upto_region 8 with (fail)
          (refine wp_tail 14 (by kernel_rfl) (by kernel_rfl) ?_; simp only [List.take_succ_cons, List.take_zero, List.drop_succ_cons, List.drop_zero])
          iterate 14 still_step
          refine wpStill_nil ?_
          go_wp2_with fail
          refine (send_low HOK4.out a ovj B psj w4.drew (HS4.out.drewN 1).node (HS4.out.drewN 1).out (show B ≤ w4.heap.size by omega) (by omega) vd 3 0 0 p.seq p.tgt (by omega)).mono ?_
          rintro e w5 ⟨rfl, ov5, hT5⟩
          rw [sent_low] at hT5
          have hS5 := (HS4.out.drewN 1).trans hT5
          have hkeep5 : ∀ b o, w4.heap[b]? = some o → w.heap.size ≤ b → (∀ c f, o ≠ .cells c 42 f) → w5.heap[b]? = some o := fun b o hb hl hne => hT5.chg.kept b o hb (fun ho => by
            rcases ho with ho | ⟨_, c, f, e⟩
            · have := hOL.out k' qq b ho; omega
            · exact hne c f e)
          have hx5 := hkeep5 _ _ HX4.out (Nat.le_refl _) (fun c f e => by simp at e)
          have hrow5 : w5.ownsRow w1.heap.size 3 1 (.slice (some ⟨b5, o5, none⟩) L.length pc) L.length (L.map (Value.int .i64)) := own_heap HROW4.out (fun b hb => by
            obtain ⟨hl, c, hc⟩ := ownsRow_blk HROW4.out hb
            rw [hkeep5 b _ hc (by omega) (fun c f e => by simp at e)]; exact hc.symm)
          have hdel := delI_any L d hdL (by omega) w1.heap.size (some ⟨b5, o5, none⟩) pc w5 hrow5
          have wd : IntKind.i64.wrap ((d : Int) + 1) = ((d + 1 : Nat) : Int) := by rw [IntWalk.i64_in _ (by omega)]; omega
          have HDEL := Lib.hid hdel
          have HS5 := Lib.hid hS5
          have HX5 := Lib.hid hx5
          have HROW5 := Lib.hid hrow5
          clear hT5 hS5 hkeep5 hx5 hrow5 hdel
          go_wp2_with fail
          refine HDEL.out.mono ?_
          rintro e w6 ⟨rfl, hrow6, hch6⟩
          have hS6 := HS5.out.foreign hch6 (fun b o ho e => by
            obtain ⟨hl, c, hc⟩ := ownsRow_blk HROW5.out e
            refine ⟨by omega, fun hw => by have := hOL.out k' ({ x with at_ := k', queue := qq } : Nd).take.queue b hw; omega, fun c' f' e' => ?_⟩
            rw [hc] at ho; rw [← Option.some.inj ho] at e'; simp at e')
          have hx6 : w6.heap[w.heap.size]? = some (.cells #[.pointer (some ⟨a.pb, 0, none⟩)] 74 (0, 0)) := hch6.kept _ _ HX5.out (fun e => by have := (HROW5.out.lt _ e).1; omega)
          have hok6 : Ok { x with at_ := k', queue := ({ x with at_ := k', queue := qq } : Nd).take.queue } := by
            have := HOK4.out.sent ⟨3, 0, 0, p.seq, p.tgt, []⟩
            rw [sent_low] at this; exact this
          have HS6 := Lib.hid hS6
          have HX6 := Lib.hid hx6
          have HROW6 := Lib.hid hrow6
          have HOK6 := Lib.hid hok6
          have hel : (L.eraseIdx d).length + (j + 1) = L0.length := by rw [List.length_eraseIdx_of_lt hdL]; omega
          have HEL := Lib.hid hel
          clear hS6 hx6 hrow6 hok6 hch6 hel
          go_wp2
          go_roundw
          case rel =>
            have hye : ({ y with at_ := k' } : Nd) = { x with at_ := k', queue := qq } := by rw [← HY.out]
            have ha := HASK.out
            rw [hye, sent_low, HVD.out] at ha
            have h1 := HQ1.out
            have h2 := HQ2.out
            rw [HPJ.out, HY.out, ha] at h1 h2
            refine ⟨j + 1, L.eraseIdx d, k', ({ x with at_ := k', queue := qq } : Nd).take.queue, ov5, psj ++ [(vd, ({ x with at_ := k', queue := qq } : Nd).msg ⟨3, 0, 0, p.seq, p.tgt, []⟩)], by go_num, by omega, HEL.out, by omega, rfl, HROW6.out, HOK6.out, HS6.out, ?_, h2, by simp; omega, HX6.out⟩
            rw [List.append_assoc]; exact h1
          case measure => simp [intOf]; omega
        · have hend : Nd.askAll p (x.c.prox.toNat - j) L { x with at_ := k, queue := qq } = ([], { x with at_ := k, queue := qq }) := by
            have := HCNT.out
            by_cases hp0 : x.c.prox.toNat - j = 0
            · rw [hp0]; rfl
            · have hL0 : L = [] := List.eq_nil_of_length_eq_zero (by omega)
              rw [hL0]; exact askAll_nil _ _ _
          have h1 := HQ1.out
          have h2 := HQ2.out
          rw [hend] at h1 h2
          simp only [List.append_nil] at h1 h2
          have H1 := Lib.hid h1
          have H2 := Lib.hid h2
          clear h1 h2 hend
          go_wp2
          go_meet
          case rel => exact ⟨k, qq, ovj, H2.out.symm, by omega, by rw [← H2.out]; exact HOKJ.out, by rw [← H1.out]; exact HSJ.out, HXB.out⟩
    | false =>
      have hn : ¬ (age = x.c.wait ∧ p.acked = false) := fun e => by have := HBC.out.2 e; cases this
      have hra : r = ([], x) := by rw [← HR.out, if_neg hn]
      have HRA := Lib.hid hra
      clear hn hra
      go_wp2
      go_meet
      case rel => exact ⟨x.at_, x.queue, ov, by rw [HRA.out], by have := HBD.out.at_; omega, by rw [HRA.out]; exact HO.out, by rw [HRA.out, List.append_nil]; exact HS1.out.drewN nq1, HX1.out⟩
  case rest =>
    obtain ⟨k, q, ov1, hr2, hk, hok, hS, hxb⟩ := hcut
    obtain ⟨y, hy⟩ : ∃ y : Nd, { x with at_ := k, queue := q } = y := ⟨_, rfl⟩
    rw [hy] at hr2 hS
    rw [hr2] at hok
    have hyc : y.c = x.c := by rw [← hy]
    have hyp : y.probe = some p := by rw [← hy]; exact HP.out
    have hyk : y.clock = x.clock := by rw [← hy]
    have hyo : y.others = x.others := by rw [← hy]
    have hwt2 : x.waits = (r.1, y.endProbe p) := by rw [HWT.out, hr2]
    have hbdy : Bd (C + 7) y := by
      have hb := HBD.out.mono (C := C + 7) (by omega)
      rw [← hy]
      exact ⟨hb.clock, hb.seq, hb.dropped, hb.lost, by show (k : Int) ≤ C + 7; omega⟩
    have n1 : wc.cell? ⟨a.b, 1, none⟩ = some (.int .i64 x.c.period) := by rw [hS.node.blk.cell (by omega)]; show some (Value.int .i64 y.c.period) = _; rw [hyc]
    have n16 : wc.cell? ⟨a.b, 16, none⟩ = some (.pointer (some ⟨a.pb, 0, none⟩)) := by rw [hS.node.blk.cell (by omega)]; show some (prbV a y.probe) = _; rw [hyp]; rfl
    have nf16 := hS.node.blk.free 16
    have n10 : wc.cell? ⟨a.b, 10, none⟩ = some (.map (some a.bo)) := hS.node.blk.cell (by omega)
    have hpbc := hS.node.prb p hyp
    have hT6 := turned_over hS.node
    have hS6 := hS.trans (St.turned hS.node hS.out hT6)
    obtain ⟨cs, hcs⟩ := hS.node.blk.block
    have hne1 : w.heap.size ≠ a.b := by have := H.out.blk.lt; omega
    have hne2 : a.pb ≠ a.b := fun e => cells_ne hpbc hcs (by decide) e
    have bxc := cells_at hxb 0
    have g0 := cells_at hpbc 0
    have g3 := cells_at hpbc 3
    simp only [prbCells, List.getElem?_toArray, List.getElem?_cons_succ, List.getElem?_cons_zero] at bxc g0 g3
    have HXBC := Lib.hid hxb
    have HPBC := Lib.hid hpbc
    have HY := Lib.hid hy
    have HYC := Lib.hid hyc
    have HYK := Lib.hid hyk
    have HYO := Lib.hid hyo
    have HWT2 := Lib.hid hwt2
    have HOKY := Lib.hid hok
    have HBY := Lib.hid hbdy
    have HSY := Lib.hid hS
    have HS6 := Lib.hid hS6
    clear hy hr2 hok hS hxb hyc hyp hyk hyo hwt2 hbdy hpbc hT6 hS6 hcs HS1 HW1
    have hle := HAGE.out
    by_cases hper : age < x.c.period
    · have hend : y.endProbe p = y := by
        unfold Nd.endProbe
        rw [HYK.out, HYC.out, if_pos (by omega)]
      have HEND := Lib.hid hend
      clear hend hle
      go_wp2
      ((try simp only [Exit.inBlock, Exit.then]); first | refine bodyPost_ret (results_none rfl _ _ _) rfl ?_ | refine bodyPost_end (results_none rfl _ _ _) rfl ?_)
      rw [HWT2.out, HEND.out]
      exact Does.of HSY.out
    · obtain ⟨z, hz⟩ : ∃ z : Nd, { y with probe := none } = z := ⟨_, rfl⟩
      have hend : y.endProbe p = match findM x.others p.tgt with | none => z | some m => if p.acked = false ∧ m.k.st = 1 then z.hear ⟨m.k.id, m.k.inc, 2⟩ else z := by
        unfold Nd.endProbe
        rw [if_neg (by rw [HYK.out, HYC.out]; omega)]
        show (match findM y.others p.tgt with | none => ({ y with probe := none } : Nd) | some m => if p.acked = false ∧ m.k.st = 1 then ({ y with probe := none } : Nd).hear ⟨m.k.id, m.k.inc, 2⟩ else ({ y with probe := none } : Nd)) = _
        rw [hz, HYO.out]
      have hzo : z.others = x.others := by rw [← hz]; exact HYO.out
      have hokz : Ok z := by rw [← hz]; exact HOKY.out.probeOf (fun q hq => by cases hq)
      have hbz : Bd (C + 7) z := by rw [← hz]; have := HBY.out; exact ⟨this.clock, this.seq, this.dropped, this.lost, this.at_⟩
      have hge : x.c.period ≤ age := by omega
      rw [hz] at HS6
      obtain ⟨w6, hw6⟩ : ∃ w6, wc.setCell ⟨a.b, 16, none⟩ (.pointer none) = w6 := ⟨_, rfl⟩
      rw [hw6] at HS6
      have HZ := Lib.hid hz
      have HEND := Lib.hid hend
      have HZO := Lib.hid hzo
      have HOKZ := Lib.hid hokz
      have HBZ := Lib.hid hbz
      have HW6 := Lib.hid hw6
      have hx6 : w6.heap[w.heap.size]? = some (.cells #[.pointer (some ⟨a.pb, 0, none⟩)] 74 (0, 0)) := by rw [← hw6, heap_setCell_ne _ _ _ _ _ hne1]; exact HXBC.out
      have hp6 : w6.heap[a.pb]? = some (.cells (prbCells p) 89 (0, 0)) := by rw [← hw6, heap_setCell_ne _ _ _ _ _ hne2]; exact HPBC.out
      have m10 : w6.cell? ⟨a.b, 10, none⟩ = some (.map (some a.bo)) := HS6.out.node.blk.cell (by omega)
      have mbx := cells_at hx6 0
      have mg0 := cells_at hp6 0
      have mg3 := cells_at hp6 3
      simp only [prbCells, List.getElem?_toArray, List.getElem?_cons_succ, List.getElem?_cons_zero] at mbx mg0 mg3
      have hlook := fun (n : Nat) => look_other (HS6.out.drewN n).node hpr.1
      have HLOOK := Lib.hid hlook
      clear hz hend hzo hokz hbz hw6 hle hper hlook hx6 hp6
      cases hf : findM x.others p.tgt with
      | none =>
        have hE : y.endProbe p = z := by rw [HEND.out, hf]
        have hlk : ∀ n, (Instr.lookup 71 (.map (some a.bo)) (.int .i64 p.tgt) false).run Tryz.prog (w6.drewN n) = .ok (.pointer none) (w6.drewN n) := fun n => (HLOOK.out n).2 (by rw [HZO.out]; exact hf)
        have HE := Lib.hid hE
        clear hE hf
        cases hack : p.acked with
        | true =>
          rw [hack] at mg3
          clear hack
          go_wp2
          rw [HW6.out]
          go_quiet (fail)
          go_wp2
          ((try simp only [Exit.inBlock, Exit.then]); first | refine bodyPost_ret (results_none rfl _ _ _) rfl ?_ | refine bodyPost_end (results_none rfl _ _ _) rfl ?_)
          rw [HWT2.out, HE.out]
          exact Does.of (HS6.out.drewN _)
        | false =>
          rw [hack] at mg3
          clear hack
          go_wp2
          rw [HW6.out]
          go_quiet (fail)
          go_wp2
          ((try simp only [Exit.inBlock, Exit.then]); first | refine bodyPost_ret (results_none rfl _ _ _) rfl ?_ | refine bodyPost_end (results_none rfl _ _ _) rfl ?_)
          rw [HWT2.out, HE.out]
          exact Does.of (HS6.out.drewN _)
      | some m =>
        obtain ⟨hmm, hmi⟩ := findM_some hf
        have hlk : ∀ n, (Instr.lookup 71 (.map (some a.bo)) (.int .i64 p.tgt) false).run Tryz.prog (w6.drewN n) = .ok (.pointer (some ⟨a.mem p.tgt, 0, none⟩)) (w6.drewN n) := fun n => (HLOOK.out n).1 m (by rw [HZO.out]; exact hf)
        have hmb := HS6.out.node.mems m (by rw [HZO.out]; exact hmm)
        rw [hmi] at hmb
        have mc0 := cells_at hmb 0
        have mc1 := cells_at hmb 1
        have mc2 := cells_at hmb 2
        simp only [memCells, List.getElem?_toArray, List.getElem?_cons_succ, List.getElem?_cons_zero] at mc0 mc1 mc2
        have hmk := HO.out.key m hmm
        have hE0 := HEND.out
        rw [hf] at hE0
        simp only at hE0
        have HE0 := Lib.hid hE0
        have HMK := Lib.hid hmk
        clear hf hmb hmm hE0 hmk
        cases hack : p.acked with
        | true =>
          rw [hack] at mg3
          have HE := Lib.hid (show y.endProbe p = z by rw [HE0.out, if_neg (by rw [hack]; simp)])
          clear hack
          go_wp2
          rw [HW6.out]
          go_quiet (fail)
          go_wp2
          ((try simp only [Exit.inBlock, Exit.then]); first | refine bodyPost_ret (results_none rfl _ _ _) rfl ?_ | refine bodyPost_end (results_none rfl _ _ _) rfl ?_)
          rw [HWT2.out, HE.out]
          exact Does.of (HS6.out.drewN _)
        | false =>
          rw [hack] at mg3
          by_cases hst : m.k.st = 1
          · have HE := Lib.hid (show y.endProbe p = z.hear ⟨p.tgt, m.k.inc, 2⟩ by rw [HE0.out, if_pos ⟨hack, hst⟩, hmi])
            rw [hst] at mc2
            clear hack hst
            go_wp2
            rw [HW6.out]
            go_quiet (fail)
            go_wp2
            (refine wp_tail 12 (by kernel_rfl) (by kernel_rfl) ?_; simp only [List.take_succ_cons, List.take_zero, List.drop_succ_cons, List.drop_zero])
            iterate 12 still_step
            refine wpStill_nil ?_
            go_wp2_with fail
            refine (hear_any HOKZ.out HBZ.out (by omega) a ov1 ⟨p.tgt, m.k.inc, 2⟩ ⟨hpr.1, HMK.out.2.1, by show (1 : Int) ≤ 2 ∧ (2 : Int) ≤ 4; omega⟩ (w6.drewN (nq + 1)) (HS6.out.drewN (nq + 1)).node).mono ?_
            rintro e w7 ⟨rfl, a7, hT7⟩
            go_wp2
            ((try simp only [Exit.inBlock, Exit.then]); first | refine bodyPost_ret (results_none rfl _ _ _) rfl ?_ | refine bodyPost_end (results_none rfl _ _ _) rfl ?_)
            rw [HWT2.out, HE.out]
            exact ⟨rfl, a7, ov1, (HS6.out.drewN (nq + 1)).trans (St.turned (HS6.out.drewN (nq + 1)).node (HS6.out.drewN (nq + 1)).out hT7)⟩
          · have HE := Lib.hid (show y.endProbe p = z by rw [HE0.out, if_neg (fun e => hst e.2)])
            have hstb : (m.k.st == 1) = false := by simpa using hst
            clear hack hst
            go_wp2
            rw [HW6.out]
            go_quiet (fail)
            go_wp2
            ((try simp only [Exit.inBlock, Exit.then]); first | refine bodyPost_ret (results_none rfl _ _ _) rfl ?_ | refine bodyPost_end (results_none rfl _ _ _) rfl ?_)
            rw [HWT2.out, HE.out]
            exact Does.of (HS6.out.drewN _)
theorem wait_any {x : Nd} (ho : Ok x) {C : Int} (hbd : Bd C x) (hC : C ≤ 100000000000) (hdl : x.ds.length ≤ 1000000) (a : Ad) (ov : Value) (B : Nat) (ps : List Pk) (w : World) (h : NodeAt w a ov x) (hout : OutRow w B ov ps) (hB : B ≤ w.heap.size) (hps : ps.length < 900) :
    Calls Tryz.prog 31 #[.pointer (some ⟨a.b, 0, none⟩)] w (Does B w a x ps x.waits) := by
  rcases Option.eq_none_or_eq_some x.probe with hp | ⟨p, hp⟩
  · exact wait_none hp a ov B ps w h hout
  · exact wait_some ho hbd hC hdl hp a ov B ps w h hout hB hps
end Go.Proofs.YtfngdplkcppabaaGreat
