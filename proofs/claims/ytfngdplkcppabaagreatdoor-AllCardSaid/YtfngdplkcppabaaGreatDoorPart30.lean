/-
  Texts of the proof: Wait, Tick. No condition.
-/
import Derived.Test.YtfngdplkcppabaaGreatDoorPart01
import Derived.Test.YtfngdplkcppabaaGreatDoorPart29
set_option linter.all false
set_option maxRecDepth 100000
set_option maxHeartbeats 4000000
namespace Go.Proofs.YtfngdplkcppabaaGreatDoor
open Go.RowKit
theorem St.foreign {B : Nat} {w w' w'' : World} {a a' : Ad} {x x' : Nd} {ov : Value} {ps : List Pk} (h : St B w a x w' a' x' ov ps) {S : Nat -> Obj -> Prop} (hc : Chg S w' w'') (hS : ∀ j o, w'.heap[j]? = some o -> S j o -> w.heap.size <= j /\ ¬ Zh a' x' j /\ ∀ c f, o ≠ .cells c 78 f) : St B w a x w'' a' x' ov ps := by
 refine ⟨h.node.keep (fun k hk => ?_), Ju h.out (fun k hk => ?_), ?_, h.own, h.b⟩
 · have hlt := h.node.owns_lt hk
   obtain ⟨o, ho⟩ : ∃ o, w'.heap[k]? = some o := ⟨_, Array.getElem?_eq_getElem hlt⟩; rw [ho]; exact hc.kept k o ho (fun hs => (hS k o ho hs).2.1 hk)
 · obtain ⟨_, c, ho⟩ := Ke h.out hk
   rw [ho]; exact hc.kept k _ ho (fun hs => (hS k _ ho hs).2.2 c (0, 0) rfl)
 · exact ⟨hc.os.trans h.chg.os, hc.tape.trans h.chg.tape, hc.output.trans h.chg.output, Nat.le_trans h.chg.size hc.size, fun i o ho hs => by
    have h1 := h.chg.kept i o ho hs; exact hc.kept i o h1 (fun hk => by have := (hS i o h1 hk).1; have := Kb ho; omega)⟩
theorem sent_low {y : Nd} (seq tgt : Int) : y.sent ⟨3, 0, 0, seq, tgt, []⟩ = { y with queue := y.take.queue } := by unfold Nd.sent; rw [if_pos (show (3 : Int) < 4 by decide)]; rfl
theorem askAll_cons {p : Prb} {n : Nat} {L : List Int} {y : Nd} {d : Nat} {k : Nat} (hL : L ≠ []) (hd : (y.draw L.length).1 = (d : Int)) (hk : (y.draw L.length).2 = { y with at_ := k }) :
  Nd.askAll p (n + 1) L y = ((L.getD d 0, ({ y with at_ := k } : Nd).msg ⟨3, 0, 0, p.seq, p.tgt, []⟩) :: (Nd.askAll p n (L.eraseIdx d) (({ y with at_ := k } : Nd).sent ⟨3, 0, 0, p.seq, p.tgt, []⟩)).1, (Nd.askAll p n (L.eraseIdx d) (({ y with at_ := k } : Nd).sent ⟨3, 0, 0, p.seq, p.tgt, []⟩)).2) := by
 rw [Nd.askAll, if_neg hL]; simp only [hd, hk, Int.toNat_natCast]
theorem askAll_nil (p : Prb) (n : Nat) (y : Nd) : Nd.askAll p n [] y = ([], y) := by cases n <;> simp [Nd.askAll]
theorem St.drew {B : Nat} {w w' : World} {a a' : Ad} {x x' : Nd} {ov : Value} {ps : List Pk} (h : St B w a x w' a' x' ov ps) : St B w a x w'.drew a' x' ov ps :=
 ⟨h.node.keep (fun _ _ => rfl), Ju h.out (fun _ _ => rfl), h.chg.drew, h.own, h.b⟩
theorem waits_none {x : Nd} (h : x.probe = none) : x.waits = ([], x) := by unfold Nd.waits; rw [h]
theorem wait_none {x : Nd} (hp : x.probe = none) (a : Ad) (ov : Value) (B : Nat) (ps : List Pk) (w : World) (h : NodeAt w a ov x) (hout : Jm w B ov ps) :
  Calls Tryz.prog 69 #[.pointer (some ⟨a.b, 0, none⟩)] w (Does B w a x ps x.waits) := by
 rw [waits_none hp]; have c16 : w.cell? ⟨a.b, 16, none⟩ = some (prbV a x.probe) := h.blk.cell (by omega)
 rw [hp] at c16; unfold prbV at c16; have HS := Hd (St.refl h hout); clear h hout hp; go_enter Tryz.func69, Tryz.ntmps69; go_wp2
 ((try simp only [Exit.inBlock, Exit.then]); first | refine bodyPost_ret (results_none rfl _ _ _) rfl ?_ | refine bodyPost_end (results_none rfl _ _ _) rfl ?_)
 exact Does.of (by rw [List.append_nil]; exact HS.out.alloc _)
theorem wait_some {x : Nd} (ho : Ok x) {C : Int} (hbd : Bd C x) (hC : C <= 100000000000) (hdl : x.ds.length <= 1000000) {p : Prb} (hp : x.probe = some p) (a : Ad) (ov : Value) (B : Nat) (ps : List Pk) (w : World) (h : NodeAt w a ov x) (hout : Jm w B ov ps) (hB : B <= w.heap.size) (hps : ps.length < 900) :
  Calls Tryz.prog 69 #[.pointer (some ⟨a.b, 0, none⟩)] w (Does B w a x ps x.waits) := by
 have c16 : w.cell? ⟨a.b, 16, none⟩ = some (prbV a x.probe) := h.blk.cell (by omega)
 rw [hp] at c16; unfold prbV at c16; have hpb0 := h.prb p hp; have hpr := ho.prb p hp; have hcl := hbd.clock; have hcf := cfg_bounds ho.cfg; obtain ⟨age, hage⟩ : ∃ age, x.clock - p.start = age := ⟨_, rfl⟩; have wa : IntKind.i64.wrap (x.clock - p.start) = age := by rw [IntWalk.i64_in _ (by omega)]; exact hage
 obtain ⟨r, hr⟩ : ∃ r, (if age = x.c.wait /\ p.acked = false then Nd.askAll p x.c.prox.toNat (x.helpers p) x else ([], x)) = r := ⟨_, rfl⟩; have hwt : x.waits = (r.1, r.2.endProbe p) := by unfold Nd.waits; rw [hp]; simp only; rw [hage, hr]
 obtain ⟨w1, hw1⟩ : ∃ w1, w.alloc (.cells #[.pointer (some ⟨a.pb, 0, none⟩)] 126) = w1 := ⟨_, rfl⟩; have hx1 : w1.heap[w.heap.size]? = some (.cells #[.pointer (some ⟨a.pb, 0, none⟩)] 126 (0, 0)) := by rw [<- hw1]; exact Kc w _
 have S1 : St B w a x w1 a x ov ps := by rw [<- hw1]; exact (St.refl h hout).alloc _
 have hs1 : w1.heap.size = w.heap.size + 1 := by rw [<- hw1]; simp
 have c13 : w1.cell? ⟨a.b, 13, none⟩ = some (.int .i64 x.clock) := S1.node.blk.cell (by omega)
 have c2 : w1.cell? ⟨a.b, 2, none⟩ = some (.int .i64 x.c.wait) := S1.node.blk.cell (by omega)
 have hpb := S1.node.prb p hp; have p2 := Ka hpb 2; have p3 := Ka hpb 3; have bx := Ka hx1 0; simp only [prbCells, List.getElem?_toArray, List.getElem?_cons_succ, List.getElem?_cons_zero] at p2 p3 bx; have H := Hd h; have HO := Hd ho; have HBD := Hd hbd; have HOUT := Hd hout; have HP := Hd hp; have HS1 := Hd S1; have HX1 := Hd hx1; have HW1 := Hd hw1; have HR := Hd hr; have HDL := Hd hdl; have HWT := Hd hwt; have HAGE := Hd hage; clear h ho hbd hout hp S1 hx1 hw1 hpb hpb0 hr hwt hage hdl; go_enter Tryz.func69, Tryz.ntmps69; go_wp2; rw [HW1.out]; go_quiet (fail); go_upto_region 3 with (fail); go_cut [35] (fun s35 wx => ∃ bc n, s35 = .bool bc /\ (bc = true ↔ age = x.c.wait /\ p.acked = false) /\ wx = w1.drewN n)
 case first =>
  by_cases e1 : age = x.c.wait
  · have e1b : (age == x.c.wait) = true := by simpa using e1
    have HE := Hd e1; clear e1; go_wp2; go_meet
    case rel => exact ⟨_, nq, rfl, by have := HE.out; simp [this], rfl⟩
  · have e1b : (age == x.c.wait) = false := by simpa using e1
    have HE := Hd e1; clear e1; go_wp2; go_meet
    case rel => exact ⟨_, nq, rfl, by have := HE.out; simp [this], rfl⟩
 case rest =>
 obtain ⟨bc, nq1, rfl, hbc, rfl⟩ := hcut; have HBC := Hd hbc; clear hbc; go_upto_if 35 with (fail); go_cut [] (fun wx => ∃ k q ov1, r.2 = { x with at_ := k, queue := q } /\ (k : Int) <= C + 3 /\ Ok r.2 /\ St B w a x wx a { x with at_ := k, queue := q } ov1 (ps ++ r.1) /\ wx.heap[w.heap.size]? = some (.cells #[.pointer (some ⟨a.pb, 0, none⟩)] 126 (0, 0)))
 case first =>
  cases bc with
  | true =>
   obtain ⟨e1, e2⟩ := HBC.out.1 rfl; have hra : r = Nd.askAll p x.c.prox.toNat (x.helpers p) x := by rw [<- HR.out, if_pos ⟨e1, e2⟩]
   have HRA := Hd hra; obtain ⟨L0, hL0⟩ : ∃ L0, x.helpers p = L0 := ⟨_, rfl⟩; have hll : (x.others.filter (askB p.tgt)).length = L0.length := by rw [<- hL0]; unfold Nd.helpers askB; simp
   have hl7 : L0.length <= 7 := by rw [<- hll]; exact Nat.le_trans (List.length_filter_le _ _) HO.out.len
   have hlm : (x.others.filter (askB p.tgt)).map (fun m => Value.int .i64 m.k.id) = L0.map (Value.int .i64) := by rw [<- hL0]; unfold Nd.helpers askB; rw [List.map_map]; rfl
   have HLL := Hd hll; have HLM := Hd hlm; have HL0 := Hd hL0; have c10 : w1.cell? ⟨a.b, 10, none⟩ = some (.map (some a.bo)) := HS1.out.node.blk.cell (by omega)
   have c4 : w1.cell? ⟨a.b, 4, none⟩ = some (.int .i64 x.c.prox) := HS1.out.node.blk.cell (by omega)
   clear hra e1 e2 hll hlm hL0
   go_wp2_with (first
    | (go_at_call 66; refine (sortedN_any HO.out a ov _ (HS1.out.drewN nq1).node (askB p.tgt) 102 #[.pointer (some ⟨w.heap.size, 0, none⟩)] eg_wait1 (fun m hm W' hW => wait1_any (a.mem m.k.id) w.heap.size a.pb m p.tgt W' (((HS1.out.drewN nq1).node.below hW).mems m hm) (by rw [Ka ((hW.block _ (Kb HX1.out)).trans HX1.out)]; rfl) (by rw [Ka (((HS1.out.drewN nq1).node.below hW).prb p HP.out)]; rfl))).mono ?_; rintro e w27 ⟨v27, rfl, hP27, hb27⟩
       have HP27 := Hd hP27; have HB27 := Hd hb27; clear hP27 hb27)
    | (go_at_call 101; refine (mapI_any a.mem (x.others.filter (askB p.tgt)) v27 w27 HP27.out ((HS1.out.drewN nq1).node.memsAt HB27.out (fun m hm => (List.mem_filter.1 hm).1)) (by have := HO.out.len; have := List.length_filter_le (askB p.tgt) x.others; omega)).mono ?_; rintro e w53 ⟨v53, rfl, hrow53, hb53⟩
       rw [HLL.out, HLM.out] at hrow53; obtain ⟨pa, pc, rfl⟩ := Kg hrow53; have hbb : Below w1.heap.size (w1.drewN nq1) w53 := HB27.out.trans (hb53.mono HB27.out.size); have q4 : w53.cell? ⟨a.b, 4, none⟩ = some (.int .i64 x.c.prox) := ((HS1.out.drewN nq1).node.below hbb).blk.cell (by omega)
       have HBB := Hd hbb; have HROW := Hd hrow53; clear hb53 hrow53 hbb))
   obtain ⟨cnt, hcnt⟩ : ∃ cnt : Nat, min x.c.prox (L0.length : Int) = (cnt : Int) := ⟨(min x.c.prox (L0.length : Int)).toNat, by omega⟩
   rw [hcnt]; have hS53 : St B w a x w53 a x ov ps := (HS1.out.drewN nq1).trans (St.turned (HS1.out.drewN nq1).node (HS1.out.drewN nq1).out (Turned.below (HS1.out.drewN nq1).node HBB.out)); have hx53 : w53.heap[w.heap.size]? = some (.cells #[.pointer (some ⟨a.pb, 0, none⟩)] 126 (0, 0)) := (HBB.out.block _ (by omega)).trans HX1.out
   have hz27 : w1.heap.size <= w27.heap.size := HB27.out.size; have hrw53 := Jl HROW.out hz27; have HS53 := Hd hS53; have HX53 := Hd hx53; have HRW53 := Hd hrw53; have hOL : Hid (∀ k q j, Zh a ({ x with at_ := k, queue := q } : Nd) j -> j < w.heap.size) := Hd (fun k q j hj => H.out.owns_lt (show Zh a x j from hj))
   have HCNT := Hd hcnt; have hcp : (cnt : Int) <= x.c.prox := by omega
   have hcl0 : cnt <= L0.length := by omega
   clear hS53 hx53 hrw53 hcnt
   go_loopw [4, 51] (fun s4 s51 wr => ∃ (j : Nat) (L : List Int) (k : Nat) (qq : List Upd) (ovj : Value) (psj : List Pk), s51 = .int .i64 (j : Nat) /\ j <= cnt /\ L.length + j = L0.length /\ (k : Int) <= C + j /\ s4 = .slice pa L.length pc /\ wr.ownsRow w1.heap.size 3 1 (.slice pa L.length pc) L.length (L.map (Value.int .i64)) /\
     Ok { x with at_ := k, queue := qq } /\ St B w a x wr a { x with at_ := k, queue := qq } ovj psj /\ psj ++ (Nd.askAll p (x.c.prox.toNat - j) L { x with at_ := k, queue := qq }).1 = ps ++ r.1 /\ (Nd.askAll p (x.c.prox.toNat - j) L { x with at_ := k, queue := qq }).2 = r.2 /\ psj.length <= ps.length + j /\
     wr.heap[w.heap.size]? = some (.cells #[.pointer (some ⟨a.pb, 0, none⟩)] 126 (0, 0)))
    (fun _ s51 _ => 10 - (intOf s51).toNat)
   case atStart => exact ⟨0, L0, x.at_, x.queue, ov, ps, rfl, Nat.zero_le _, rfl, by have := HBD.out.at_; omega, rfl, HRW53.out, HO.out, HS53.out, by rw [HRA.out, HL0.out]; rfl, by rw [HRA.out, HL0.out]; rfl, by omega, HX53.out⟩
   case round =>
    obtain ⟨j, L, k, qq, ovj, psj, rfl, hj, hLj, hkj, rfl, hrow, hok, hS, hq1, hq2, hpl, hxb⟩ := hrel; have HOKJ := Hd hok; have HSJ := Hd hS; have HQ1 := Hd hq1; have HQ2 := Hd hq2; have HROWJ := Hd hrow; have HXB := Hd hxb; have hszr := hS.chg.size; clear hok hS hq1 hq2 hrow hxb; by_cases hjc : j < cnt
    · have hLne : L ≠ [] := fun e => by rw [e] at hLj; simp at hLj; omega
      obtain ⟨y, hy⟩ : ∃ y : Nd, { x with at_ := k, queue := qq } = y := ⟨_, rfl⟩; have hyd : y.ds = x.ds := by rw [<- hy]
      have hbdy : Bd (C + 7) y := by
       have hb := HBD.out.mono (C := C + 7) (by omega)
       rw [<- hy]; exact ⟨hb.clock, hb.seq, hb.dropped, hb.lost, by show (k : Int) <= C + 7; omega⟩
      have hLlen : 1 <= L.length := by omega
      obtain ⟨hd0, hd1⟩ := draw_range y (n := (L.length : Int)) (by omega)
      obtain ⟨k', hk'⟩ := draw_eq y (L.length : Int); obtain ⟨d, hd⟩ : ∃ d : Nat, (y.draw (L.length : Int)).1 = (d : Int) := ⟨((y.draw (L.length : Int)).1).toNat, by omega⟩
      have hdL : d < L.length := by omega
      have hN := HSJ.out.node; rw [hy] at hN; have hcon := draw_any hbdy (by omega) a ovj wr hN (L.length : Int) (by omega) (by rw [hyd]; exact HDL.out)
      rw [hd, hk'] at hcon
      have hk1 : k' <= k + 1 := by
       have : k' = y.at_ \/ k' = y.at_ + 1 := by
        have e := hk'; unfold Nd.draw at e
        split at e
        · left; exact (congrArg Nd.at_ e).symm
        · right; exact (congrArg Nd.at_ e).symm
       have e2 : y.at_ = k := by rw [<- hy]
       omega
      have n6 : wr.cell? ⟨a.b, 6, none⟩ = some (.func (.func 82) #[] #[.pointer (some ⟨a.w1, 0, none⟩), .pointer (some ⟨a.w2, 0, none⟩)]) := hN.blk.cell (by omega)
      have hask := askAll_cons (p := p) (n := x.c.prox.toNat - (j + 1)) hLne hd hk'; have hpj : x.c.prox.toNat - j = x.c.prox.toNat - (j + 1) + 1 := by omega
      have HCON := Hd hcon; have HASK := Hd hask; have HY := Hd hy; have HK' := Hd hk'; have HDD := Hd hd; have HPJ := Hd hpj; clear hcon hask hy hk' hd hpj hd0 hd1 hbdy hN hyd; go_wp2_with fail
      refine HCON.out.mono ?_; rintro e w4 ⟨rfl, hT4⟩; have hye : ({ y with at_ := k' } : Nd) = { x with at_ := k', queue := qq } := by rw [<- HY.out]
      rw [hye] at hT4; have hT4' : Turned ovj wr a { x with at_ := k, queue := qq } w4 a { x with at_ := k', queue := qq } := by rw [HY.out]; exact hT4
      have hS4 := HSJ.out.trans (St.turned HSJ.out.node HSJ.out.out hT4'); have hkeep : ∀ b o, wr.heap[b]? = some o -> w.heap.size <= b -> w4.heap[b]? = some o := fun b o hb hl => hT4'.chg.kept b o hb (fun ho => by have := hOL.out k qq b ho; omega)
      have hx4 := hkeep _ _ HXB.out (Nat.le_refl _)
      have hrow4 : w4.ownsRow w1.heap.size 3 1 (.slice pa L.length pc) L.length (L.map (Value.int .i64)) := Ju HROWJ.out (fun b hb => by
       obtain ⟨hl, c, hc⟩ := Ke HROWJ.out hb; rw [hkeep b _ hc (by omega)]; exact hc.symm)
      obtain ⟨b5, o5, e5, hb5, hc5⟩ := Ki.row hrow4 d (.int .i64 (L.getD d 0)) (by rw [List.getElem?_map, List.getElem?_eq_getElem hdL, List.getD_eq_getElem?_getD, List.getElem?_eq_getElem hdL]; rfl)
      subst e5; have bx4 := Ka hx4 0; have pb4 := hS4.node.prb p HP.out; have g0 := Ka pb4 0; have g1 := Ka pb4 1; simp only [prbCells, List.getElem?_toArray, List.getElem?_cons_succ, List.getElem?_cons_zero] at bx4 g0 g1; have hok4 : Ok { x with at_ := k', queue := qq } := { HOKJ.out with }; have hsz4 : wr.heap.size <= w4.heap.size := hT4'.chg.size; obtain ⟨vd, hvd⟩ : ∃ vd, L.getD d 0 = vd := ⟨_, rfl⟩; rw [hvd] at hc5; have HVD := Hd hvd; have HS4 := Hd hS4; have HX4 := Hd hx4; have HROW4 := Hd hrow4; have HOK4 := Hd hok4; clear hT4 hT4' hye hS4 hkeep hx4 hrow4 pb4 hok4 hvd; go_upto_region 8 with (fail)
      (refine Jj 14 (by kernel_rfl) (by kernel_rfl) ?_; simp only [List.take_succ_cons, List.take_zero, List.drop_succ_cons, List.drop_zero])
      iterate 14 still_step
      refine wpStill_nil ?_; go_wp2_with fail
      refine (send_low HOK4.out a ovj B psj w4.drew (HS4.out.drewN 1).node (HS4.out.drewN 1).out (show B <= w4.heap.size by omega) (by omega) vd 3 0 0 p.seq p.tgt (by omega)).mono ?_
      rintro e w5 ⟨rfl, ov5, hT5⟩; rw [sent_low] at hT5; have hS5 := (HS4.out.drewN 1).trans hT5
      have hkeep5 : ∀ b o, w4.heap[b]? = some o -> w.heap.size <= b -> (∀ c f, o ≠ .cells c 78 f) -> w5.heap[b]? = some o := fun b o hb hl hne => hT5.chg.kept b o hb (fun ho => by
       rcases ho with ho | ⟨_, c, f, e⟩
       · have := hOL.out k' qq b ho; omega
       · exact hne c f e)
      have hx5 := hkeep5 _ _ HX4.out (Nat.le_refl _) (fun c f e => by simp at e)
      have hrow5 : w5.ownsRow w1.heap.size 3 1 (.slice (some ⟨b5, o5, none⟩) L.length pc) L.length (L.map (Value.int .i64)) := Ju HROW4.out (fun b hb => by
       obtain ⟨hl, c, hc⟩ := Ke HROW4.out hb; rw [hkeep5 b _ hc (by omega) (fun c f e => by simp at e)]; exact hc.symm)
      have hdel := delI_any L d hdL (by omega) w1.heap.size (some ⟨b5, o5, none⟩) pc w5 hrow5
      have wd : IntKind.i64.wrap ((d : Int) + 1) = ((d + 1 : Nat) : Int) := by rw [IntWalk.i64_in _ (by omega)]; omega
      have HDEL := Hd hdel; have HS5 := Hd hS5; have HX5 := Hd hx5; have HROW5 := Hd hrow5; clear hT5 hS5 hkeep5 hx5 hrow5 hdel; go_wp2_with fail
      refine HDEL.out.mono ?_; rintro e w6 ⟨rfl, hrow6, hch6⟩
      have hS6 := HS5.out.foreign hch6 (fun b o ho e => by
       obtain ⟨hl, c, hc⟩ := Ke HROW5.out e; refine ⟨by omega, fun hw => by have := hOL.out k' ({ x with at_ := k', queue := qq } : Nd).take.queue b hw; omega, fun c' f' e' => ?_⟩
       rw [hc] at ho; rw [<- Option.some.inj ho] at e'; simp at e')
      have hx6 : w6.heap[w.heap.size]? = some (.cells #[.pointer (some ⟨a.pb, 0, none⟩)] 126 (0, 0)) := hch6.kept _ _ HX5.out (fun e => by have := (HROW5.out.lt _ e).1; omega)
      have hok6 : Ok { x with at_ := k', queue := ({ x with at_ := k', queue := qq } : Nd).take.queue } := by
       have := HOK4.out.sent ⟨3, 0, 0, p.seq, p.tgt, []⟩; rw [sent_low] at this; exact this
      have HS6 := Hd hS6; have HX6 := Hd hx6; have HROW6 := Hd hrow6; have HOK6 := Hd hok6; have hel : (L.eraseIdx d).length + (j + 1) = L0.length := by rw [List.length_eraseIdx_of_lt hdL]; omega
      have HEL := Hd hel; clear hS6 hx6 hrow6 hok6 hch6 hel; go_wp2; go_roundw
      case rel =>
       have hye : ({ y with at_ := k' } : Nd) = { x with at_ := k', queue := qq } := by rw [<- HY.out]
       have ha := HASK.out; rw [hye, sent_low, HVD.out] at ha; have h1 := HQ1.out; have h2 := HQ2.out; rw [HPJ.out, HY.out, ha] at h1 h2; refine ⟨j + 1, L.eraseIdx d, k', ({ x with at_ := k', queue := qq } : Nd).take.queue, ov5, psj ++ [(vd, ({ x with at_ := k', queue := qq } : Nd).msg ⟨3, 0, 0, p.seq, p.tgt, []⟩)], by go_num, by omega, HEL.out, by omega, rfl, HROW6.out, HOK6.out, HS6.out, ?_, h2, by simp; omega, HX6.out⟩
       rw [List.append_assoc]; exact h1
      case measure => simp [intOf]; omega
    · have hend : Nd.askAll p (x.c.prox.toNat - j) L { x with at_ := k, queue := qq } = ([], { x with at_ := k, queue := qq }) := by
       have := HCNT.out; by_cases hp0 : x.c.prox.toNat - j = 0
       · rw [hp0]; rfl
       · have hL0 : L = [] := List.eq_nil_of_length_eq_zero (by omega)
         rw [hL0]; exact askAll_nil _ _ _
      have h1 := HQ1.out; have h2 := HQ2.out; rw [hend] at h1 h2; simp only [List.append_nil] at h1 h2; have H1 := Hd h1; have H2 := Hd h2; clear h1 h2 hend; go_wp2; go_meet
      case rel => exact ⟨k, qq, ovj, H2.out.symm, by omega, by rw [<- H2.out]; exact HOKJ.out, by rw [<- H1.out]; exact HSJ.out, HXB.out⟩
  | false =>
   have hn : ¬ (age = x.c.wait /\ p.acked = false) := fun e => by have := HBC.out.2 e; cases this
   have hra : r = ([], x) := by rw [<- HR.out, if_neg hn]
   have HRA := Hd hra; clear hn hra; go_wp2; go_meet
   case rel => exact ⟨x.at_, x.queue, ov, by rw [HRA.out], by have := HBD.out.at_; omega, by rw [HRA.out]; exact HO.out, by rw [HRA.out, List.append_nil]; exact HS1.out.drewN nq1, HX1.out⟩
 case rest =>
  obtain ⟨k, q, ov1, hr2, hk, hok, hS, hxb⟩ := hcut; obtain ⟨y, hy⟩ : ∃ y : Nd, { x with at_ := k, queue := q } = y := ⟨_, rfl⟩; rw [hy] at hr2 hS; rw [hr2] at hok; have hyc : y.c = x.c := by rw [<- hy]
  have hyp : y.probe = some p := by rw [<- hy]; exact HP.out
  have hyk : y.clock = x.clock := by rw [<- hy]
  have hyo : y.others = x.others := by rw [<- hy]
  have hwt2 : x.waits = (r.1, y.endProbe p) := by rw [HWT.out, hr2]
  have hbdy : Bd (C + 7) y := by
   have hb := HBD.out.mono (C := C + 7) (by omega)
   rw [<- hy]; exact ⟨hb.clock, hb.seq, hb.dropped, hb.lost, by show (k : Int) <= C + 7; omega⟩
  have n1 : wc.cell? ⟨a.b, 1, none⟩ = some (.int .i64 x.c.period) := by rw [hS.node.blk.cell (by omega)]; show some (Value.int .i64 y.c.period) = _; rw [hyc]
  have n16 : wc.cell? ⟨a.b, 16, none⟩ = some (.pointer (some ⟨a.pb, 0, none⟩)) := by rw [hS.node.blk.cell (by omega)]; show some (prbV a y.probe) = _; rw [hyp]; rfl
  have nf16 := hS.node.blk.free 16; have n10 : wc.cell? ⟨a.b, 10, none⟩ = some (.map (some a.bo)) := hS.node.blk.cell (by omega)
  have hpbc := hS.node.prb p hyp; have hT6 := turned_over hS.node; have hS6 := hS.trans (St.turned hS.node hS.out hT6); obtain ⟨cs, hcs⟩ := hS.node.blk.block; have hne1 : w.heap.size ≠ a.b := by have := H.out.blk.lt; omega
  have hne2 : a.pb ≠ a.b := fun e => cells_ne hpbc hcs (by decide) e
  have bxc := Ka hxb 0; have g0 := Ka hpbc 0; have g3 := Ka hpbc 3; simp only [prbCells, List.getElem?_toArray, List.getElem?_cons_succ, List.getElem?_cons_zero] at bxc g0 g3; have HXBC := Hd hxb; have HPBC := Hd hpbc; have HY := Hd hy; have HYC := Hd hyc; have HYK := Hd hyk; have HYO := Hd hyo; have HWT2 := Hd hwt2; have HOKY := Hd hok; have HBY := Hd hbdy; have HSY := Hd hS; have HS6 := Hd hS6; clear hy hr2 hok hS hxb hyc hyp hyk hyo hwt2 hbdy hpbc hT6 hS6 hcs HS1 HW1; have hle := HAGE.out; by_cases hper : age < x.c.period
  · have hend : y.endProbe p = y := by
     unfold Nd.endProbe; rw [HYK.out, HYC.out, if_pos (by omega)]
    have HEND := Hd hend; clear hend hle; go_wp2
    ((try simp only [Exit.inBlock, Exit.then]); first | refine bodyPost_ret (results_none rfl _ _ _) rfl ?_ | refine bodyPost_end (results_none rfl _ _ _) rfl ?_)
    rw [HWT2.out, HEND.out]; exact Does.of HSY.out
  · obtain ⟨z, hz⟩ : ∃ z : Nd, { y with probe := none } = z := ⟨_, rfl⟩
    have hend : y.endProbe p = match Jo x.others p.tgt with | none => z | some m => if p.acked = false /\ m.k.st = 1 then z.hear ⟨m.k.id, m.k.inc, 2⟩ else z := by
     unfold Nd.endProbe; rw [if_neg (by rw [HYK.out, HYC.out]; omega)]
     show (match Jo y.others p.tgt with | none => ({ y with probe := none } : Nd) | some m => if p.acked = false /\ m.k.st = 1 then ({ y with probe := none } : Nd).hear ⟨m.k.id, m.k.inc, 2⟩ else ({ y with probe := none } : Nd)) = _
     rw [hz, HYO.out]
    have hzo : z.others = x.others := by rw [<- hz]; exact HYO.out
    have hokz : Ok z := by rw [<- hz]; exact HOKY.out.probeOf (fun q hq => by cases hq)
    have hbz : Bd (C + 7) z := by rw [<- hz]; have := HBY.out; exact ⟨this.clock, this.seq, this.dropped, this.lost, this.at_⟩
    have hge : x.c.period <= age := by omega
    rw [hz] at HS6; obtain ⟨w6, hw6⟩ : ∃ w6, wc.setCell ⟨a.b, 16, none⟩ (.pointer none) = w6 := ⟨_, rfl⟩; rw [hw6] at HS6; have HZ := Hd hz; have HEND := Hd hend; have HZO := Hd hzo; have HOKZ := Hd hokz; have HBZ := Hd hbz; have HW6 := Hd hw6; have hx6 : w6.heap[w.heap.size]? = some (.cells #[.pointer (some ⟨a.pb, 0, none⟩)] 126 (0, 0)) := by rw [<- hw6, Kj _ _ _ _ _ hne1]; exact HXBC.out
    have hp6 : w6.heap[a.pb]? = some (.cells (prbCells p) 176 (0, 0)) := by rw [<- hw6, Kj _ _ _ _ _ hne2]; exact HPBC.out
    have m10 : w6.cell? ⟨a.b, 10, none⟩ = some (.map (some a.bo)) := HS6.out.node.blk.cell (by omega)
    have mbx := Ka hx6 0; have mg0 := Ka hp6 0; have mg3 := Ka hp6 3; simp only [prbCells, List.getElem?_toArray, List.getElem?_cons_succ, List.getElem?_cons_zero] at mbx mg0 mg3; have hlook := fun (n : Nat) => look_other (HS6.out.drewN n).node hpr.1
    have HLOOK := Hd hlook; clear hz hend hzo hokz hbz hw6 hle hper hlook hx6 hp6; cases hf : Jo x.others p.tgt with
    | none =>
     have hE : y.endProbe p = z := by rw [HEND.out, hf]
     have hlk : ∀ n, (Instr.lookup 123 (.map (some a.bo)) (.int .i64 p.tgt) false).run Tryz.prog (w6.drewN n) = .ok (.pointer none) (w6.drewN n) := fun n => (HLOOK.out n).2 (by rw [HZO.out]; exact hf)
     have HE := Hd hE; clear hE hf; cases hack : p.acked with
     | true =>
      rw [hack] at mg3; clear hack; go_wp2; rw [HW6.out]; go_quiet (fail); go_wp2
      ((try simp only [Exit.inBlock, Exit.then]); first | refine bodyPost_ret (results_none rfl _ _ _) rfl ?_ | refine bodyPost_end (results_none rfl _ _ _) rfl ?_)
      rw [HWT2.out, HE.out]; exact Does.of (HS6.out.drewN _)
     | false =>
      rw [hack] at mg3; clear hack; go_wp2; rw [HW6.out]; go_quiet (fail); go_wp2
      ((try simp only [Exit.inBlock, Exit.then]); first | refine bodyPost_ret (results_none rfl _ _ _) rfl ?_ | refine bodyPost_end (results_none rfl _ _ _) rfl ?_)
      rw [HWT2.out, HE.out]; exact Does.of (HS6.out.drewN _)
    | some m =>
     obtain ⟨hmm, hmi⟩ := Zd hf; have hlk : ∀ n, (Instr.lookup 123 (.map (some a.bo)) (.int .i64 p.tgt) false).run Tryz.prog (w6.drewN n) = .ok (.pointer (some ⟨a.mem p.tgt, 0, none⟩)) (w6.drewN n) := fun n => (HLOOK.out n).1 m (by rw [HZO.out]; exact hf)
     have hmb := HS6.out.node.mems m (by rw [HZO.out]; exact hmm)
     rw [hmi] at hmb; have mc0 := Ka hmb 0; have mc1 := Ka hmb 1; have mc2 := Ka hmb 2; simp only [Ky, List.getElem?_toArray, List.getElem?_cons_succ, List.getElem?_cons_zero] at mc0 mc1 mc2; have hmk := HO.out.key m hmm; have hE0 := HEND.out; rw [hf] at hE0; simp only at hE0; have HE0 := Hd hE0; have HMK := Hd hmk; clear hf hmb hmm hE0 hmk; cases hack : p.acked with
     | true =>
      rw [hack] at mg3; have HE := Hd (show y.endProbe p = z by rw [HE0.out, if_neg (by rw [hack]; simp)])
      clear hack; go_wp2; rw [HW6.out]; go_quiet (fail); go_wp2
      ((try simp only [Exit.inBlock, Exit.then]); first | refine bodyPost_ret (results_none rfl _ _ _) rfl ?_ | refine bodyPost_end (results_none rfl _ _ _) rfl ?_)
      rw [HWT2.out, HE.out]; exact Does.of (HS6.out.drewN _)
     | false =>
      rw [hack] at mg3; by_cases hst : m.k.st = 1
      · have HE := Hd (show y.endProbe p = z.hear ⟨p.tgt, m.k.inc, 2⟩ by rw [HE0.out, if_pos ⟨hack, hst⟩, hmi])
        rw [hst] at mc2; clear hack hst; go_wp2; rw [HW6.out]; go_quiet (fail); go_wp2
        (refine Jj 12 (by kernel_rfl) (by kernel_rfl) ?_; simp only [List.take_succ_cons, List.take_zero, List.drop_succ_cons, List.drop_zero])
        iterate 12 still_step
        refine wpStill_nil ?_; go_wp2_with fail
        refine (hear_any HOKZ.out HBZ.out (by omega) a ov1 ⟨p.tgt, m.k.inc, 2⟩ ⟨hpr.1, HMK.out.2.1, by show (1 : Int) <= 2 /\ (2 : Int) <= 4; omega⟩ (w6.drewN (nq + 1)) (HS6.out.drewN (nq + 1)).node).mono ?_
        rintro e w7 ⟨rfl, a7, hT7⟩; go_wp2
        ((try simp only [Exit.inBlock, Exit.then]); first | refine bodyPost_ret (results_none rfl _ _ _) rfl ?_ | refine bodyPost_end (results_none rfl _ _ _) rfl ?_)
        rw [HWT2.out, HE.out]; exact ⟨rfl, a7, ov1, (HS6.out.drewN (nq + 1)).trans (St.turned (HS6.out.drewN (nq + 1)).node (HS6.out.drewN (nq + 1)).out hT7)⟩
      · have HE := Hd (show y.endProbe p = z by rw [HE0.out, if_neg (fun e => hst e.2)])
        have hstb : (m.k.st == 1) = false := by simpa using hst
        clear hack hst; go_wp2; rw [HW6.out]; go_quiet (fail); go_wp2
        ((try simp only [Exit.inBlock, Exit.then]); first | refine bodyPost_ret (results_none rfl _ _ _) rfl ?_ | refine bodyPost_end (results_none rfl _ _ _) rfl ?_)
        rw [HWT2.out, HE.out]; exact Does.of (HS6.out.drewN _)
theorem wait_any {x : Nd} (ho : Ok x) {C : Int} (hbd : Bd C x) (hC : C <= 100000000000) (hdl : x.ds.length <= 1000000) (a : Ad) (ov : Value) (B : Nat) (ps : List Pk) (w : World) (h : NodeAt w a ov x) (hout : Jm w B ov ps) (hB : B <= w.heap.size) (hps : ps.length < 900) :
  Calls Tryz.prog 69 #[.pointer (some ⟨a.b, 0, none⟩)] w (Does B w a x ps x.waits) := by
 rcases Option.eq_none_or_eq_some x.probe with hp | ⟨p, hp⟩
 · exact wait_none hp a ov B ps w h hout
 · exact wait_some ho hbd hC hdl hp a ov B ps w h hout hB hps
open Go.Maps (Keyed)
theorem keyed_int : Keyed Tryz.prog 3 := Maps.int_keyed Tryz.underlying3
theorem turned_clock {w : World} {a : Ad} {ov : Value} {x : Nd} (h : NodeAt w a ov x) (v : Int) : Turned ov w a x (w.setCell ⟨a.b, 13, none⟩ (.int .i64 v)) a { x with clock := v } := by
 refine ⟨?_, (Chg.refl _ _).setCell _ (fun _ _ => .inl rfl), fun _ => .inl, rfl⟩
 refine h.setNode (Kn ((Chg.refl _ _).setCell _ (fun _ _ => rfl))) ?_ ⟨rfl, rfl, rfl, rfl, rfl, rfl, rfl, rfl, rfl⟩
 exact (h.blk.set (i := 13) (by omega) (.int .i64 v)).congr (by (intro i hi; rcases i with _ | _ | _ | _ | _ | _ | _ | _ | _ | _ | _ | _ | _ | _ | _ | _ | _ | _ | _ | _ | _ | _ | _ | _ | _ | _ | _ | i <;> first | rfl | exact absurd hi (by omega)))
theorem tick_any {x : Nd} (ho : Ok x) {C : Int} (hbd : Bd C x) (hC : C <= 3999990000) (hdl : x.ds.length <= 1000000) (a : Ad) (ov : Value) (w : World) (h : NodeAt w a ov x) :
  Calls Tryz.prog 41 #[.pointer (some ⟨a.b, 0, none⟩)] w fun e w' => ∃ v, e = .returned v /\ Gives w a x x.tick v w' := by
 have hcl := hbd.clock; have wc : IntKind.i64.wrap (x.clock + 1) = x.clock + 1 := IntWalk.i64_in _ (by omega)
 obtain ⟨w1, hw1⟩ : ∃ w1, w.alloc (.cells #[.pointer (some ⟨a.b, 0, none⟩)] 97) = w1 := ⟨_, rfl⟩; have hx1 : w1.heap[w.heap.size]? = some (.cells #[.pointer (some ⟨a.b, 0, none⟩)] 97 (0, 0)) := by rw [<- hw1]; exact Kc w _
 have hs1 : w1.heap.size = w.heap.size + 1 := by rw [<- hw1]; simp
 have hb1 : Below w.heap.size w w1 := by rw [<- hw1]; exact (Below.refl _ _).alloc (Nat.le_refl _) _
 have hN1 := h.below hb1; have T1 := turned_nil hN1; have T2 := turned_clock T1.node (x.clock + 1); obtain ⟨w2, hw2⟩ : ∃ w2, (w1.setCell ⟨a.b, 20, none⟩ (.slice none 0 0)).setCell ⟨a.b, 13, none⟩ (.int .i64 (x.clock + 1)) = w2 := ⟨_, rfl⟩; rw [hw2] at T2; obtain ⟨y, hy⟩ : ∃ y : Nd, { x with clock := x.clock + 1 } = y := ⟨_, rfl⟩; rw [hy] at T2; have hyr : y.relays = x.relays := by rw [<- hy]
 obtain ⟨D, hown, hD⟩ := T2.node.relays; have hx2 : w2.heap[w.heap.size]? = some (.cells #[.pointer (some ⟨a.b, 0, none⟩)] 97 (0, 0)) := T2.chg.kept _ _ (T1.chg.kept _ _ hx1 (fun ho' => by have := h.owns_lt ho'; omega)) (fun ho' => by have := h.owns_lt ho'; omega)
 have bx := Ka hx1 0; simp only [List.getElem?_toArray, List.getElem?_cons_zero] at bx; have c20 : w1.cell? ⟨a.b, 20, none⟩ = some ov := hN1.blk.cell (by omega)
 have f20 := hN1.blk.free 20; have c13 : w1.cell? ⟨a.b, 13, none⟩ = some (.int .i64 x.clock) := hN1.blk.cell (by omega)
 have c17 : w1.cell? ⟨a.b, 17, none⟩ = some (.map (some a.br)) := hN1.blk.cell (by omega)
 have H := Hd h; have HO := Hd ho; have HBD := Hd hbd; have HDL := Hd hdl; have HT1 := Hd T1; have HT2 := Hd T2; have HX1 := Hd hx1; have HW1 := Hd hw1; have HW2 := Hd hw2; have HY := Hd hy; have HD := Hd hD; have HOWN := Hd hown; have HX2 := Hd hx2; have HYR := Hd hyr; have HB1 := Hd hb1; have f13 := hN1.blk.free 13; have hnb : w.heap.size ≠ a.b := by have := h.blk.lt; omega
 have hbn : a.b ≠ w.heap.size := fun e => hnb e.symm
 rw [<- hw1] at bx c20 f20 c13 c17 f13; clear h ho hbd hdl T1 T2 hx1 hw1 hb1 hN1 hw2 hy hD hown hx2 hyr; go_enter Tryz.func41, Tryz.ntmps41
 go_wp2_with (first
  | (at_range; rw [HW1.out, HW2.out]; refine wpList_range_own w2 rfl _ 127 rfl 3 139 keyed_int Tryz.underlying127 RV a.br (rPairs y.relays).length D rfl HOWN.out ?_; intro w3 hrg hg3 hs3)
  | go_in)
 go_frame
 have HRG := Hd hrg; have HG3 := Hd hg3; clear hrg hg3
 go_loopw [3] (fun _ wr => ∃ (D' : DataW Value) (left : Lit -> Bool) (cnt : Nat), wr.ranges Tryz.prog 3 RV a.br w2.heap.size (rPairs y.relays).length D' left cnt /\ MapIs D' (rPairs (relF (x.clock + 1) left x.relays)) /\ w2.grownBy wr (some a.br))
  (fun _ wr => wr.rangeLeft a.br w2.heap.size)
 case atStart =>
  refine ⟨D, _, _, HRG.out, ?_, HG3.out.but _⟩; rw [relF_start (fun r hr => (HD.out.has r.seq).2 (List.mem_map.2 ⟨(r.seq, r.v), List.mem_map.2 ⟨r, by rw [HYR.out]; exact hr, rfl⟩, rfl⟩))]
  have := HD.out; rw [HYR.out] at this; exact this
 case round =>
  obtain ⟨D', left, cnt, hrg, hD', hgr⟩ := hrel; have HRGR := Hd hrg; have HDR := Hd hD'; have HGR := Hd hgr; clear hrg hD' hgr
  go_wp2_with (first
   | (at_next; refine wpList_next_ranges _ rfl _ rfl 3 keyed_int RV (Value.int .i64) (fun v : Value => v) (fun key kl hkey => by obtain ⟨z, e, _⟩ := Maps.keyOf_int_inv Tryz.underlying3 hkey; exact ⟨z, e⟩) (fun v y _ => ⟨v, rfl⟩) a.br w2.heap.size (rPairs y.relays).length _ _ _ rfl HRGR.out ?_ ?_)
   | go_in)
  · intro _ hl0
    have hy := HY.out; subst hy; have hMap : Kw Tryz.prog 3 wr a.br (rPairs (x.relays.filter (fun r => decide (x.clock + 1 < r.ends)))) := Kw.of HRGR.out.owns (by have := HDR.out; rw [relF_end hl0] at this; exact this)
    have hch : Chg (fun j _ => j = a.br) w2 wr := (Chg.refl _ w2).grown HGR.out (fun k o e _ => by cases e; rfl)
    have hT3 : Turned (.slice none 0 0) w2 a { x with clock := x.clock + 1 } wr a x.ticked := ⟨HT2.out.node.setRelays (Kn hch) hMap, hch.mono (fun j _ _ e => by have e : j = a.br := e; subst e; exact .inr (.inr (.inr (.inr (.inr (.inl rfl)))))), fun _ => .inl, rfl⟩
    have hS3 : St w.heap.size w a x wr a x.ticked (.slice none 0 0) [] := ((Turned.below H.out HB1.out).then (HT1.out.then (HT2.out.then hT3))).st (Jm.nil _ _)
    have hbx3 : wr.heap[w.heap.size]? = some (.cells #[.pointer (some ⟨a.b, 0, none⟩)] 97 (0, 0)) := (HGR.out.block _ (Kb HX2.out) (fun e => by
     obtain ⟨es, n, hb⟩ := HT2.out.node.relays.isMap; have hx := HX2.out; simp only [Option.some.injEq] at e; rw [e, hb] at hx; cases hx)).trans HX2.out
    obtain ⟨hok3, hbd3⟩ := ticked_all HO.out HBD.out; have e10 : wr.cell? ⟨a.b, 10, none⟩ = some (.map (some a.bo)) := hS3.node.blk.cell (by omega)
    have ebx := Ka hbx3 0; simp only [List.getElem?_toArray, List.getElem?_cons_zero] at ebx; have HS3 := Hd hS3; have HBX3 := Hd hbx3; have HOK3 := Hd hok3; have HBD3 := Hd hbd3; obtain ⟨L0, hL0⟩ : ∃ L0, x.ticked.due = L0 := ⟨_, rfl⟩; have hl7 : L0.length <= 7 := by rw [<- hL0]; exact Nat.le_trans (List.length_filter_le _ _) hok3.len
    have HL0 := Hd hL0; have hlt3 := Kb hbx3; clear hMap hch hT3 hS3 hbx3 hok3 hbd3 hL0 hl0 bx c20 f20 c13 c17 f13 HRGR HDR HGR HRG HG3 HOWN HD HYR HY hs3; go_wp2_with fail
    refine (sortedN_any HOK3.out a (.slice none 0 0) wr HS3.out.node (dueB (x.clock + 1)) 67 #[.pointer (some ⟨w.heap.size, 0, none⟩)] eg_tick1 (fun m hm W' hW => tick1_any (a.mem m.k.id) w.heap.size a.b m (x.clock + 1) W' ((HS3.out.node.below hW).mems m hm) (by rw [Ka ((hW.block _ (Kb HBX3.out)).trans HBX3.out)]; rfl) ((HS3.out.node.below hW).blk.cell (i := 13) (by omega)))).mono ?_
    rintro e w27 ⟨v27, rfl, hP27, hb27⟩; obtain ⟨pa, pc, rfl⟩ : ∃ pa pc, v27 = .slice pa L0.length pc := by obtain ⟨pa, pc, e⟩ := hP27.sl; exact ⟨pa, pc, by rw [e, <- HL0.out]; rfl⟩
    have hP' : Ptrs w27 (.slice pa L0.length pc) a.mem x.ticked.due := hP27; rw [HL0.out] at hP'; have HP27 := Hd hP'; clear hP'; have HB27 := Hd hb27; have hsz27 := hb27.size; clear hP27 hb27; have hS27 : St w.heap.size w a x w27 a x.ticked (.slice none 0 0) [] := HS3.out.trans (St.turned HS3.out.node HS3.out.out (Turned.below HS3.out.node HB27.out)); have hbx27 := (HB27.out.block _ hlt3).trans HBX3.out; have HS27 := Hd hS27; have HBX27 := Hd hbx27; clear hS27 hbx27; go_wp2; clear e10 ebx
    go_loopw [46] (fun s46 wr => ∃ (j : Nat) (a1 : Ad), j <= L0.length /\ s46 = .int .i64 (j : Nat) /\ a1.mem = a.mem /\ St w.heap.size w a x wr a1 (x.ticked.dies (L0.take j)) (.slice none 0 0) [] /\
      wr.heap[w.heap.size]? = some (.cells #[.pointer (some ⟨a.b, 0, none⟩)] 97 (0, 0)) /\ Ptrs wr (.slice pa L0.length pc) a.mem L0)
     (fun s46 _ => 10 - (intOf s46).toNat)
    case atStart => exact ⟨0, a, Nat.zero_le _, rfl, rfl, HS27.out, HBX27.out, HP27.out⟩
    case round =>
     obtain ⟨j, a1, hj, rfl, ham, hS, hbxj, hPj⟩ := hrel; have hbj : a1.b = a.b := hS.b; have HSJ := Hd hS; have HBXJ := Hd hbxj; have HPJ := Hd hPj; have HAM := Hd ham; have HBJ := Hd hbj; have hLin : ∀ m ∈ L0, m ∈ x.ticked.others := fun m hm => by rw [<- HL0.out] at hm; exact (List.mem_filter.1 hm).1
     have hall := dies_all HOK3.out HBD3.out (L0.take j) (fun m hm => hLin m (List.mem_of_mem_take hm))
     obtain ⟨hokj, hbdj, hdsj, hkeepj⟩ := hall; have hlt3' : w.heap.size < wr.heap.size := Kb hbxj; by_cases hlt : j < L0.length
     · obtain ⟨m, hm⟩ : ∃ m, L0[j]? = some m := ⟨L0[j], List.getElem?_eq_getElem hlt⟩
       have hmL : m ∈ L0 := List.mem_of_getElem? hm
       have hrise : Rise (Zf L0) := by
        have := HOK3.out.rise; rw [<- HL0.out]; exact this.sublist (List.filter_sublist.map _)
       have hnot : m.k.id ∉ Zf (L0.take j) := fun hin => by
        obtain ⟨q, hq, e⟩ := Jk.1 hin; obtain ⟨i, hi⟩ := List.mem_iff_getElem?.1 hq; rw [List.getElem?_take] at hi
        split at hi
        · rename_i hij
          have hr : (Zf L0).Pairwise (· < ·) := hrise; rw [List.pairwise_iff_getElem] at hr; obtain ⟨hi1, hi2⟩ := List.getElem?_eq_some_iff.1 hi; obtain ⟨hj1, hj2⟩ := List.getElem?_eq_some_iff.1 hm; have := hr i j (by simp [Zf]; omega) (by simp [Zf]; omega) hij
          simp only [Zf, List.getElem_map, hi2, hj2] at this; omega
        · cases hi
       have hmin := hkeepj m (hLin m hmL) hnot; obtain ⟨g, rfl, hgl, hgc⟩ := hPj.cell hm; have hmb := hS.node.mems m hmin; rw [ham] at hmb; have k0 := Ka hmb 0; have k1 := Ka hmb 1; have bxj := Ka hbxj 0; simp only [Ky, List.getElem?_toArray, List.getElem?_cons_succ, List.getElem?_cons_zero] at k0 k1 bxj; have hdue := hear_due hokj hbdj (by have := List.length_take_le j L0; omega) a1 (.slice none 0 0) m hmin wr.drew (HSJ.out.drew).node
       rw [hbj] at hdue; have HDUE := Hd hdue; have HM := Hd hm; clear hdue hm hmL hrise hnot hmin hmb hS hbxj hPj ham hbj hokj hbdj hdsj hkeepj hLin; go_upto_region 11 with (fail)
       (refine Jj 12 (by kernel_rfl) (by kernel_rfl) ?_; simp only [List.take_succ_cons, List.take_zero, List.drop_succ_cons, List.drop_zero])
       iterate 12 still_step
       refine wpStill_nil ?_; go_wp2_with fail
       refine HDUE.out.mono ?_; rintro e w5 ⟨rfl, a2, hT5, ham2⟩; have hS5 := HSJ.out.drew.trans (St.turned HSJ.out.drew.node HSJ.out.drew.out hT5); have hbx5 : w5.heap[w.heap.size]? = some (.cells #[.pointer (some ⟨a.b, 0, none⟩)] 97 (0, 0)) := hT5.chg.kept _ _ HBXJ.out (HSJ.out.drew.node.notTy HBXJ.out (by decide))
       have hP5 : Ptrs w5 (.slice (some ⟨g, 0, none⟩) L0.length pc) a.mem L0 := by
        obtain ⟨B, hr⟩ := HPJ.out; refine ⟨B, Ju hr (fun b hb => ?_)⟩
        obtain ⟨_, c, hc⟩ := Ke hr hb; rw [hc]; exact hT5.chg.kept b _ hc (HSJ.out.drew.node.notTy hc (by decide))
       have HS5 := Hd hS5; have HBX5 := Hd hbx5; have HP5 := Hd hP5; have HAM2 := Hd (ham2.trans HAM.out); clear hT5 ham2 hS5 hbx5 hP5; go_wp2; go_roundw
       case rel =>
        refine ⟨j + 1, a2, by omega, by go_num, HAM2.out, ?_, HBX5.out, HP5.out⟩
        have e : L0.take (j + 1) = L0.take j ++ [m] := by
         have hm' := List.getElem?_eq_some_iff.1 HM.out; rw [List.take_succ_eq_append_getElem hlt, hm'.2]
        rw [e, dies_snoc]; exact HS5.out
       case measure => simp [intOf]; omega
     · have hjl : j = L0.length := by omega
       have hx : x.ticked.dies (L0.take j) = x.clocked := by rw [hjl, List.take_length, clocked_dies, HL0.out]
       rw [hx] at hS hokj hbdj hdsj; obtain ⟨z, hz⟩ : ∃ z, x.clocked = z := ⟨_, rfl⟩; rw [hz] at hS hokj hbdj hdsj; have hbz : Bd (C + 8) z := hbdj.mono (by have := List.length_take_le j L0; omega)
       have hzd : z.ds = x.ds := hdsj; have hwait := wait_any hokj hbz (by omega) (by rw [hzd]; exact HDL.out) a1 (.slice none 0 0) w.heap.size [] wr hS.node hS.out (by omega) (by simp)
       rw [hbj] at hwait; have bxj := Ka hbxj 0; simp only [List.getElem?_toArray, List.getElem?_cons_zero] at bxj; have hgw := good_waits hokj hbz (by omega)
       have hwd : z.waits.2.ds = x.ds := (waits_dsT z).trans hzd; have htk : x.tick = if z.waits.2.probe.isNone /\ z.waits.2.self.st ≠ 4 then (z.waits.1 ++ z.waits.2.begins.1, z.waits.2.begins.2) else z.waits := by rw [<- hz]; rfl
       have hwl : z.waits.1.length <= 3 := waits_len hokj; obtain ⟨v, hv⟩ : ∃ v, z.waits = v := ⟨_, rfl⟩; rw [hv] at hwait hgw hwd htk hwl; have HWAIT := Hd hwait; have HGW := Hd hgw; have HWD := Hd hwd; have HTK := Hd htk; have HSZ := Hd hS; clear hwait hgw hwd htk hv hz hzd hbz hS hokj hbdj hdsj hx hkeepj hLin hbxj hPj ham hbj; go_wp2_with fail
       refine HWAIT.out.mono ?_; rintro e w6 ⟨rfl, a6, ov6, hS6⟩
       have hbx6 : w6.heap[w.heap.size]? = some (.cells #[.pointer (some ⟨a.b, 0, none⟩)] 97 (0, 0)) := hS6.chg.kept _ _ HBXJ.out (fun e => by
        rcases e with e | ⟨_, c, f, e⟩
        · exact HSZ.out.node.notTy HBXJ.out (by decide) e
        · simp only [Obj.cells.injEq] at e; exact absurd e.2.1 (by decide))
       have hS6' : St w.heap.size w a x w6 a6 v.2 ov6 v.1 := HSZ.out.trans hS6; have hb6 : a6.b = a.b := hS6'.b; have c16 : w6.cell? ⟨a.b, 16, none⟩ = some (prbV a6 v.2.probe) := by rw [<- hb6]; exact hS6'.node.blk.cell (by omega)
       have c9 : w6.cell? ⟨a.b, 9, none⟩ = some (.int .i64 v.2.self.st) := by rw [<- hb6]; exact hS6'.node.blk.cell (by omega)
       have c20 : w6.cell? ⟨a.b, 20, none⟩ = some ov6 := by rw [<- hb6]; exact hS6'.node.blk.cell (by omega)
       have bx6 := Ka hbx6 0; simp only [List.getElem?_toArray, List.getElem?_cons_zero] at bx6; have HS6 := Hd hS6'; have HBX6 := Hd hbx6; have HB6 := Hd hb6; have hlt6 := Kb hbx6; clear hS6 hS6' hbx6 hb6 bxj; rcases Option.eq_none_or_eq_some v.2.probe with hp | ⟨p, hp⟩
       · rw [hp] at c16
         unfold prbV at c16; by_cases hst : v.2.self.st = 4
         · have hE : x.tick = (v.1, v.2) := by rw [HTK.out, if_neg (fun e => e.2 hst)]
           have hstb : (v.2.self.st == 4) = true := by simpa using hst
           have HE := Hd hE; clear hE hp hst; go_wp2; go_ret
           rw [HE.out]; exact ⟨_, rfl, Gives.of HS6.out⟩
         · have hE : x.tick = (v.1 ++ v.2.begins.1, v.2.begins.2) := by rw [HTK.out, if_pos ⟨by rw [hp]; rfl, hst⟩]
           have hstb : (v.2.self.st == 4) = false := by simpa using hst
           have HE := Hd hE; have hbeg := begin_any HGW.out.ok HGW.out.bd (by omega) (by rw [HWD.out]; exact HDL.out) a6 ov6 w.heap.size v.1 w6 HS6.out.node HS6.out.out (by omega) (by omega)
           rw [HB6.out] at hbeg; have HBEG := Hd hbeg; clear hE hp hst hbeg; go_wp2_with fail
           refine HBEG.out.mono ?_; rintro e w7 ⟨rfl, a7, ov7, hS7⟩
           have hbx7 : w7.heap[w.heap.size]? = some (.cells #[.pointer (some ⟨a.b, 0, none⟩)] 97 (0, 0)) := hS7.chg.kept _ _ HBX6.out (fun e => by
            rcases e with e | ⟨_, c, f, e⟩
            · exact HS6.out.node.notTy HBX6.out (by decide) e
            · simp only [Obj.cells.injEq] at e; exact absurd e.2.1 (by decide))
           have hS7' := HS6.out.trans hS7; have c27 : w7.cell? ⟨a.b, 20, none⟩ = some ov7 := by have := hS7'.b; rw [<- this]; exact hS7'.node.blk.cell (by omega)
           have bx7 := Ka hbx7 0; simp only [List.getElem?_toArray, List.getElem?_cons_zero] at bx7; have HS7 := Hd hS7'; clear hS7 hS7' hbx7 bx6 c16 c9 c20; go_wp2; go_ret
           rw [HE.out]; exact ⟨_, rfl, Gives.of HS7.out⟩
       · have hE : x.tick = (v.1, v.2) := by rw [HTK.out, if_neg (fun e => by rw [hp] at e; simp at e)]
         rw [hp] at c16; unfold prbV at c16; have HE := Hd hE; clear hE hp; go_wp2; go_ret
         rw [HE.out]; exact ⟨_, rfl, Gives.of HS6.out⟩
  · intro k c kl yy pl w4 cnt1 hkx hlx hR hat hrg1 hlt hg4 hs4 hen
    obtain ⟨k', ek, rfl, hwf⟩ := Maps.keyOf_int_inv Tryz.underlying3 hkx; cases ek
    have hyy : yy = .held c := by
     have h1 : (some (yy, pl) : Option (DataW Value × List MemPlace)) = some (.held c, []) := hR.symm; simp only [Option.some.injEq, Prod.mk.injEq] at h1; exact h1.1
    subst hyy; obtain ⟨q, hq, rfl, rfl⟩ := rel_of HDR.out hat; have hqx : q ∈ x.relays := (List.mem_filter.1 hq).1; have hgw4 : w2.grownBy w4 (some a.br) := HGR.out.andThen hg4 (fun j hj => by cases hj; exact Or.inl (Nat.le_refl _))
    have hbrb : (some a.br : Option Nat) ≠ some a.b := fun e => by
     obtain ⟨es, n, hb⟩ := HT2.out.node.relays.isMap; obtain ⟨cs, h0⟩ := HT2.out.node.blk.block; simp only [Option.some.injEq] at e; rw [e, h0] at hb; cases hb
    have hbl4 := HT2.out.node.blk.grown hgw4 hbrb
    have hbx4 : w4.heap[w.heap.size]? = some (.cells #[.pointer (some ⟨a.b, 0, none⟩)] 97 (0, 0)) := (hgw4.block _ (Kb HX2.out) (fun e => by
     have hrl := HT2.out.node.relays.lt; obtain ⟨es, n, hb⟩ := HT2.out.node.relays.isMap; have hx := HX2.out; simp only [Option.some.injEq] at e; rw [e, hb] at hx; cases hx)).trans HX2.out
    have e13 : w4.cell? ⟨a.b, 13, none⟩ = some (.int .i64 (x.clock + 1)) := by rw [hbl4.cell (by omega)]; show some (Value.int .i64 y.clock) = _; rw [<- HY.out]
    have e17 : w4.cell? ⟨a.b, 17, none⟩ = some (.map (some a.br)) := hbl4.cell (by omega)
    have ebx := Ka hbx4 0; simp only [List.getElem?_toArray, List.getElem?_cons_zero] at ebx; have HBL4 := Hd hbl4; have HBX4 := Hd hbx4; have HGW4 := Hd hgw4; have hrg1r := hrg1; have HRG1 := Hd hrg1; have HQ := Hd hq; have HQX := Hd hqx; have HWF := Hd hwf; have hsz24 := hgw4.size; clear hbl4 hbx4 hgw4 hrg1 hq hqx hat hR hlx hkx hg4 hbrb bx c20 f20 c13 c17 f13; have HS4N := Hd hs4; have hsz2 : w2.heap.size < w4.heap.size := hrg1r.lt; have hab4 : a.b < w4.heap.size := by have := HT2.out.node.blk.lt; omega
    have hwx4 : w.heap.size < w4.heap.size := by have := Kb HX2.out; omega
    unfold Rel.v at hen ⊢; clear hs4 hs3; have finish : Hid (∀ W : World, w4.grownBy W none -> w2.grownBy W (some a.br) /\ W.ranges Tryz.prog 3 RV a.br w2.heap.size (rPairs y.relays).length D' (fun z => left z && !z.sameKey (.int .i64 q.seq)) cnt1) := Hd (fun W hW => ⟨HGW4.out.andThen hW (fun j hj => by cases hj), HRG1.out.kept hW (by simp) (by simp)⟩)
    by_cases hends : q.ends <= x.clock + 1
    · have hendb : decide (q.ends <= x.clock + 1) = true := by simpa using hends
      have HEN := Hd hends; clear hends; go_wp2; obtain ⟨w5, hw5⟩ : ∃ w5, w4.alloc (.cells #[.int .i64 q.tgt, .int .i64 q.orig, .int .i64 q.oseq, .int .i64 q.ends] 139) = w5 := ⟨_, rfl⟩; rw [hw5]; have hg5 : w4.grownBy w5 none := by rw [<- hw5]; exact World.grownBy_alloc w4 _ none
      have hx5 : w5.heap[w4.heap.size]? = some (.cells #[.int .i64 q.tgt, .int .i64 q.orig, .int .i64 q.oseq, .int .i64 q.ends] 139 (0, 0)) := by rw [<- hw5]; exact Kc w4 _
      have k3 := Ka hx5 3; simp only [List.getElem?_toArray, List.getElem?_cons_succ, List.getElem?_cons_zero] at k3; have f13 : w5.cell? ⟨a.b, 13, none⟩ = some (.int .i64 (x.clock + 1)) := by rw [<- hw5, World.cell?_alloc_lt _ _ _ hab4]; exact e13
      have f17 : w5.cell? ⟨a.b, 17, none⟩ = some (.map (some a.br)) := by rw [<- hw5, World.cell?_alloc_lt _ _ _ hab4]; exact e17
      have fbx : w5.cell? ⟨w.heap.size, 0, none⟩ = some (.pointer (some ⟨a.b, 0, none⟩)) := by rw [<- hw5, World.cell?_alloc_lt _ _ _ hwx4]; exact ebx
      have HG5 := Hd hg5; clear hw5 hg5 hx5; go_quiet (fail); have hfin := finish.out (w5.drewN nq) ⟨HG5.out.os, HG5.out.tape, HG5.out.output, HG5.out.size, HG5.out.block⟩; have HFIN := Hd hfin; clear hfin
      go_wp2_with (first
       | (at_delete; refine wpList_delete_ranges _ rfl _ _ 127 3 rfl 139 keyed_int Tryz.underlying127 RV a.br w2.heap.size (rPairs y.relays).length _ _ _ rfl HFIN.out.2 _ _ rfl (Maps.keyOf_int_mk Tryz.underlying3 HWF.out) ?_; intro w6 cnt2 hrg2 hle hturn; go_frame)
       | go_in)
      rw [Maps.strike_twice] at hrg2; go_roundw
      case rel =>
       refine ⟨_, _, cnt2, hrg2, ?_, HFIN.out.1.andThen hturn.grown (fun j hj => by cases hj; exact Or.inr rfl)⟩
       have h1 := HDR.out.del q.seq; rw [rPairs_del, relF_struck HO.out.rnd HQX.out HEN.out] at h1; exact h1
      case measure => rw [hrg2.left_eq, HRGR.out.left_eq]; omega
    · have hendb : decide (q.ends <= x.clock + 1) = false := by simpa using hends
      have HEN := Hd hends; clear hends; go_wp2; obtain ⟨w5, hw5⟩ : ∃ w5, w4.alloc (.cells #[.int .i64 q.tgt, .int .i64 q.orig, .int .i64 q.oseq, .int .i64 q.ends] 139) = w5 := ⟨_, rfl⟩; rw [hw5]; have hg5 : w4.grownBy w5 none := by rw [<- hw5]; exact World.grownBy_alloc w4 _ none
      have hx5 : w5.heap[w4.heap.size]? = some (.cells #[.int .i64 q.tgt, .int .i64 q.orig, .int .i64 q.oseq, .int .i64 q.ends] 139 (0, 0)) := by rw [<- hw5]; exact Kc w4 _
      have k3 := Ka hx5 3; simp only [List.getElem?_toArray, List.getElem?_cons_succ, List.getElem?_cons_zero] at k3; have f13 : w5.cell? ⟨a.b, 13, none⟩ = some (.int .i64 (x.clock + 1)) := by rw [<- hw5, World.cell?_alloc_lt _ _ _ hab4]; exact e13
      have fbx : w5.cell? ⟨w.heap.size, 0, none⟩ = some (.pointer (some ⟨a.b, 0, none⟩)) := by rw [<- hw5, World.cell?_alloc_lt _ _ _ hwx4]; exact ebx
      have HG5 := Hd hg5; clear hw5 hg5 hx5; go_quiet (fail); have hfin := finish.out (w5.drewN nq) ⟨HG5.out.os, HG5.out.tape, HG5.out.output, HG5.out.size, HG5.out.block⟩; have HFIN := Hd hfin; clear hfin; go_wp2; go_roundw
      case rel =>
       refine ⟨D', _, cnt1, HFIN.out.2, ?_, HFIN.out.1⟩; rw [<- relF_stays HO.out.rnd HQX.out (by have := HEN.out; omega)]
       exact HDR.out
      case measure => rw [HFIN.out.2.left_eq, HRGR.out.left_eq]; exact hlt
