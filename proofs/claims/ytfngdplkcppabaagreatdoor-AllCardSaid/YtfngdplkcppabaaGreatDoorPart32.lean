/-
  Texts of the proof: See, Seen, OnSee, Delivered, StepN. No condition.
-/
import Derived.Test.YtfngdplkcppabaaGreatDoorPart01
import Derived.Test.YtfngdplkcppabaaGreatDoorPart16
import Derived.Deep.RegionHeld3
import Derived.Test.YtfngdplkcppabaaGreatDoorPart31
import Derived.Test.YtfngdplkcppabaaGreatDoorPart07
set_option linter.all false
set_option maxRecDepth 100000
set_option maxHeartbeats 4000000
namespace Go.Proofs.YtfngdplkcppabaaGreatDoor
open Go.RowKit
theorem Below.drewN' {B : Nat} {w w' : World} (h : Below B w w') (n : Nat) : Below B w (w'.drewN n) := ⟨h.os, h.tape, h.output, h.size, h.block⟩
theorem queueLen_any {x : Nd} (a : Ad) (ov : Value) (w : World) (h : NodeAt w a ov x) :
  Calls Tryz.prog 111 #[.pointer (some ⟨a.bq, 0, none⟩)] w fun e w' => e = .returned (.int .i64 (x.queue.length : Nat)) /\ w' = w := by
 have c1 := Ka h.queue 1; simp only [List.getElem?_toArray, List.getElem?_cons_succ, List.getElem?_cons_zero] at c1
 have hln : ∀ ty, (Builtin.len_ #[209] ty #[.map (some a.bm)]).run Tryz.prog w = .ok (.int .i64 (x.queue.length : Nat)) w := fun ty => by
  rw [h.news.len Tryz.underlying209 ty, qPairs_len]
 clear h; go_enter Tryz.func111, Tryz.ntmps111; go_wp2; go_ret
 exact ⟨rfl, rfl⟩
theorem ten_set {w : World} {b : Nat} {a0 a1 a2 a3 a4 a5 a6 a7 a8 a9 : Value} {t : TypeId} {f : Nat × Nat} (h : w.heap[b]? = some (.cells #[a0, a1, a2, a3, a4, a5, a6, a7, a8, a9] t f)) (v0 v1 v2 v3 v4 v5 v6 v7 v8 v9 : Value) {R : World -> Prop}
  (hR : ∀ W, W.heap[b]? = some (.cells #[v0, v1, v2, v3, v4, v5, v6, v7, v8, v9] t f) -> Chg (fun k _ => k = b) w W -> R W) : R ((((((((((w.setCell ⟨b, 0, none⟩ v0).setCell ⟨b, 1, none⟩ v1).setCell ⟨b, 2, none⟩ v2).setCell ⟨b, 3, none⟩ v3).setCell ⟨b, 4, none⟩ v4).setCell ⟨b, 5, none⟩ v5).setCell ⟨b, 6, none⟩ v6).setCell ⟨b, 7, none⟩ v7).setCell ⟨b, 8, none⟩ v8).setCell ⟨b, 9, none⟩ v9) := by
 have h0 := Kf (i := 0) (v := v0) h; simp only [List.setIfInBounds_toArray, List.set_cons_zero] at h0; have h1 := Kf (i := 1) (v := v1) h0; simp only [List.setIfInBounds_toArray, List.set_cons_succ, List.set_cons_zero] at h1; have h2 := Kf (i := 2) (v := v2) h1; simp only [List.setIfInBounds_toArray, List.set_cons_succ, List.set_cons_zero] at h2; have h3 := Kf (i := 3) (v := v3) h2; simp only [List.setIfInBounds_toArray, List.set_cons_succ, List.set_cons_zero] at h3; have h4 := Kf (i := 4) (v := v4) h3; simp only [List.setIfInBounds_toArray, List.set_cons_succ, List.set_cons_zero] at h4; have h5 := Kf (i := 5) (v := v5) h4; simp only [List.setIfInBounds_toArray, List.set_cons_succ, List.set_cons_zero] at h5; have h6 := Kf (i := 6) (v := v6) h5; simp only [List.setIfInBounds_toArray, List.set_cons_succ, List.set_cons_zero] at h6; have h7 := Kf (i := 7) (v := v7) h6; simp only [List.setIfInBounds_toArray, List.set_cons_succ, List.set_cons_zero] at h7; have h8 := Kf (i := 8) (v := v8) h7; simp only [List.setIfInBounds_toArray, List.set_cons_succ, List.set_cons_zero] at h8; have h9 := Kf (i := 9) (v := v9) h8; simp only [List.setIfInBounds_toArray, List.set_cons_succ, List.set_cons_zero] at h9; exact hR _ h9 (((((((((((Chg.refl (fun k _ => k = b) w).setCell _ (fun _ _ => rfl)).setCell _ (fun _ _ => rfl)).setCell _ (fun _ _ => rfl)).setCell _ (fun _ _ => rfl)).setCell _ (fun _ _ => rfl)).setCell _ (fun _ _ => rfl)).setCell _ (fun _ _ => rfl)).setCell _ (fun _ _ => rfl)).setCell _ (fun _ _ => rfl)).setCell _ (fun _ _ => rfl))
def prbTgt : Option Prb -> Int
 | none => 0
 | some p => p.tgt
def seeV (x : Nd) (v : Value) : Value :=
 .agg #[.int .i64 x.clock, .int .i64 x.self.id, .int .i64 x.self.inc, .int .i64 x.self.st, v, .int .i64 (prbTgt x.probe), .int .i64 (x.queue.length : Nat), .int .i64 (x.relays.length : Nat), .int .i64 x.dropped, .int .i64 x.lost]
theorem see_any {x : Nd} (ho : Ok x) (a : Ad) (ov : Value) (w : World) (h : NodeAt w a ov x) :
  Calls Tryz.prog 75 #[.pointer (some ⟨a.b, 0, none⟩)] w fun e w' => ∃ v, e = .returned (seeV x v) /\ w'.ownsRow w.heap.size 76 3 v x.others.length (Kd (x.others.map (·.k))) /\ Below w.heap.size w w' := by
 have H := Hd h; have HO := Hd ho; clear h ho; go_enter Tryz.func75, Tryz.ntmps75; go_wp2; obtain ⟨w1, hw1⟩ : ∃ w1, w.alloc (.cells #[.int .i64 0, .int .i64 0, .int .i64 0, .int .i64 0, .slice none 0 0, .int .i64 0, .int .i64 0, .int .i64 0, .int .i64 0, .int .i64 0] 152) = w1 := ⟨_, rfl⟩; rw [hw1]; have H1 := Hd (show NodeAt w1 a ov x by rw [<- hw1]; exact H.out.below ((Below.refl _ _).alloc (Nat.le_refl _) _))
 have hB1 := Hd (show Below w.heap.size w w1 by rw [<- hw1]; exact (Below.refl _ _).alloc (Nat.le_refl _) _)
 have hX1 := Hd (show w1.heap[w.heap.size]? = some (.cells #[.int .i64 0, .int .i64 0, .int .i64 0, .int .i64 0, .slice none 0 0, .int .i64 0, .int .i64 0, .int .i64 0, .int .i64 0, .int .i64 0] 152 (0, 0)) by rw [<- hw1]; exact Kc w _)
 clear hw1; have hql : Hid (∀ (W : World), W.heap = w1.heap -> NodeAt W a ov x) := Hd (fun W hW => H1.out.keep (fun k _ => by rw [hW]))
 have hqa : Hid (∀ o (W : World), W.heap = (w1.alloc o).heap -> NodeAt W a ov x) := Hd (fun o W hW => (H1.out.below ((Below.refl _ _).alloc (Nat.le_refl _) o)).keep (fun k _ => by rw [hW]))
 have hs : ∀ w', NodeAt w' a ov x -> (w'.cell? ⟨a.b, 7, none⟩ = some (.int .i64 x.self.id) /\ w'.cell? ⟨a.b, 8, none⟩ = some (.int .i64 x.self.inc) /\ w'.cell? ⟨a.b, 9, none⟩ = some (.int .i64 x.self.st) /\ w'.cell? ⟨a.b, 11, none⟩ = some (.pointer (some ⟨a.bq, 0, none⟩)) /\ w'.cell? ⟨a.b, 13, none⟩ = some (.int .i64 x.clock) /\ w'.cell? ⟨a.b, 17, none⟩ = some (.map (some a.br)) /\ w'.cell? ⟨a.b, 18, none⟩ = some (.int .i64 x.dropped) /\ w'.cell? ⟨a.b, 19, none⟩ = some (.int .i64 x.lost) /\ ∀ ty, (Builtin.len_ #[127] ty #[.map (some a.br)]).run Tryz.prog w' = .ok (.int .i64 (x.relays.length : Nat)) w') := fun w' h => ⟨h.blk.cell (by omega), h.blk.cell (by omega), h.blk.cell (by omega), h.blk.cell (by omega), h.blk.cell (by omega), h.blk.cell (by omega), h.blk.cell (by omega), h.blk.cell (by omega), fun ty => len_rel h ty⟩
 have HK := Hd (fun (W : World) (hW : W.heap = w1.heap) => hs W (hql.out W hW))
 have HKA := Hd (fun o (W : World) (hW : W.heap = (w1.alloc o).heap) => hs W (hqa.out o W hW))
 clear hs; go_cut [3] (fun s2 wx => s2 = .pointer (some ⟨w1.heap.size, 0, none⟩) /\ ∃ n, wx = (w1.alloc (.cells #[.int .i64 x.clock, .int .i64 x.self.id, .int .i64 x.self.inc, .int .i64 x.self.st, .slice none 0 0, .int .i64 0, .int .i64 (x.queue.length : Nat), .int .i64 (x.relays.length : Nat), .int .i64 x.dropped, .int .i64 x.lost] 152)).drewN n)
 case first =>
  go_region_held3 (fun w' => w'.cell? ⟨a.b, 7, none⟩ = some (.int .i64 x.self.id) /\ w'.cell? ⟨a.b, 8, none⟩ = some (.int .i64 x.self.inc) /\ w'.cell? ⟨a.b, 9, none⟩ = some (.int .i64 x.self.st) /\ w'.cell? ⟨a.b, 11, none⟩ = some (.pointer (some ⟨a.bq, 0, none⟩)) /\ w'.cell? ⟨a.b, 13, none⟩ = some (.int .i64 x.clock) /\ w'.cell? ⟨a.b, 17, none⟩ = some (.map (some a.br)) /\ w'.cell? ⟨a.b, 18, none⟩ = some (.int .i64 x.dropped) /\ w'.cell? ⟨a.b, 19, none⟩ = some (.int .i64 x.lost) /\ ∀ ty, (Builtin.len_ #[127] ty #[.map (some a.br)]).run Tryz.prog w' = .ok (.int .i64 (x.relays.length : Nat)) w')
   (first | exact HK.out _ rfl | exact HKA.out _ _ rfl)
   ((go_at_call 111; refine (queueLen_any a ov _ (by first | exact hql.out _ rfl | exact hqa.out _ _ rfl)).mono ?_; rintro e w5 ⟨rfl, rfl⟩))
  all_goals
   go_wp2; go_meet
   case rel => exact ⟨rfl, 1, rfl⟩
 case rest =>
  obtain ⟨rfl, n, rfl⟩ := hcut; obtain ⟨w2, hw2⟩ : ∃ w2, (w1.alloc (.cells #[.int .i64 x.clock, .int .i64 x.self.id, .int .i64 x.self.inc, .int .i64 x.self.st, .slice none 0 0, .int .i64 0, .int .i64 (x.queue.length : Nat), .int .i64 (x.relays.length : Nat), .int .i64 x.dropped, .int .i64 x.lost] 152)).drewN n = w2 := ⟨_, rfl⟩; rw [hw2]; have hb12 : Below w1.heap.size w1 w2 := by rw [<- hw2]; exact Below.drewN' ((Below.refl _ _).alloc (Nat.le_refl _) _) n
  have hx2 : w2.heap[w1.heap.size]? = some (.cells #[.int .i64 x.clock, .int .i64 x.self.id, .int .i64 x.self.inc, .int .i64 x.self.st, .slice none 0 0, .int .i64 0, .int .i64 (x.queue.length : Nat), .int .i64 (x.relays.length : Nat), .int .i64 x.dropped, .int .i64 x.lost] 152 (0, 0)) := by rw [<- hw2]; exact Kc w1 _
  have hr2 := (hb12.block _ (Kb hX1.out)).trans hX1.out; have n2 := H1.out.below hb12; have hs12 := Kb hx2; have hlt1 := Kb hX1.out; have q10 : w2.cell? ⟨a.b, 10, none⟩ = some (.map (some a.bo)) := n2.blk.cell (by omega)
  have HX2 := Hd hx2; have HR2 := Hd hr2; have HN2 := Hd n2; have HB12 := Hd hb12; clear hw2 hb12 hx2 hr2 n2 HK HKA hql hqa; rcases Option.eq_none_or_eq_some x.probe with hp | ⟨p, hp⟩
  · have HP := Hd hp
    clear hp
    go_wp2_with (first
     | (go_at_call 66; refine (sortedAll_any HO.out a ov _ HN2.out).mono ?_; rintro e w27 ⟨v27, rfl, hP27, hb27⟩
        have HP27 := Hd hP27; have HB27 := Hd hb27; clear hP27 hb27)
     | (go_at_call 112; refine (keysN_any HO.out a ov w2 _ HN2.out HB27.out v27 HP27.out).mono ?_; rintro e w53 ⟨v53, rfl, hrow53, hb53⟩
        obtain ⟨pa, pc, rfl⟩ := Kg hrow53; have hBB : Below w2.heap.size w2 w53 := HB27.out.trans (hb53.mono HB27.out.size); have n53 := HN2.out.below hBB; have e16 : w53.cell? ⟨a.b, 16, none⟩ = some (.pointer none) := by rw [n53.blk.cell (i := 16) (by omega)]; show some (prbV a x.probe) = _; rw [HP.out]; rfl
        have x53 := (hBB.block _ hs12).trans HX2.out; have r53 := (hBB.block _ (by omega)).trans HR2.out
        have s4 := Ka x53; have f4 := Kr x53; have r4 := Ka r53; have g4 := Kr r53; have HBB := Hd hBB; have HN53 := Hd n53; have HX53 := Hd x53; have HR53 := Hd r53; have HROW := Hd hrow53; clear hb53 hrow53 hBB n53 x53 r53))
    refine ten_set (R := bodyPost _ _ _ _ _) ((Kj _ _ _ _ _ (by omega)).trans HR53.out) _ _ _ _ _ _ _ _ _ _ (fun W hW hC => ?_)
    have hc := Ka hW; have hcc := ((Chg.refl (fun k _ => k = w1.heap.size \/ k = w.heap.size) w53).setCell _ (fun _ _ => .inl rfl)).trans (hC.mono (fun _ _ _ => .inr))
    have hz := HB27.out.size; refine bodyPost_ret (v := seeV x (.slice pa x.others.length pc)) (by simp [results, Tryz.results75, go_sem, seeV, prbTgt, HP.out, hc]) rfl ⟨_, rfl, ?_, ?_⟩
    · exact Jl (Kq HROW.out hcc (fun g o hg e => by have := (HROW.out.lt g hg).1; omega)) (by omega)
    · exact (hB1.out.trans (HB12.out.mono hB1.out.size)).trans ((HBB.out.mono (by omega)).trans (hcc.below (by have := HBB.out.size; omega) (fun k o e => by omega)))
  · have HP := Hd hp
    clear hp
    go_wp2_with (first
     | (go_at_call 66; refine (sortedAll_any HO.out a ov _ HN2.out).mono ?_; rintro e w27 ⟨v27, rfl, hP27, hb27⟩
        have HP27 := Hd hP27; have HB27 := Hd hb27; clear hP27 hb27)
     | (go_at_call 112; refine (keysN_any HO.out a ov w2 _ HN2.out HB27.out v27 HP27.out).mono ?_; rintro e w53 ⟨v53, rfl, hrow53, hb53⟩
        obtain ⟨pa, pc, rfl⟩ := Kg hrow53; have hBB : Below w2.heap.size w2 w53 := HB27.out.trans (hb53.mono HB27.out.size); have n53 := HN2.out.below hBB; have e16 : w53.cell? ⟨a.b, 16, none⟩ = some (.pointer (some ⟨a.pb, 0, none⟩)) := by rw [n53.blk.cell (i := 16) (by omega)]; show some (prbV a x.probe) = _; rw [HP.out]; rfl
        have x53 := (hBB.block _ hs12).trans HX2.out; have r53 := (hBB.block _ (by omega)).trans HR2.out
        have s4 := Ka x53; have f4 := Kr x53; have r4 := Ka r53; have g4 := Kr r53; have hpb := n53.prb p HP.out; have t0 := Ka hpb 0; simp only [prbCells, List.getElem?_toArray, List.getElem?_cons_zero] at t0; have HBB := Hd hBB; clear hpb; have HN53 := Hd n53; have HX53 := Hd x53; have HR53 := Hd r53; have HROW := Hd hrow53; clear hb53 hrow53 hBB n53 x53 r53))
    refine ten_set (R := bodyPost _ _ _ _ _) ((Kj _ _ _ _ _ (by omega)).trans ((Kj _ _ _ _ _ (by omega)).trans HR53.out)) _ _ _ _ _ _ _ _ _ _ (fun W hW hC => ?_)
    have hc := Ka hW; have hcc := (((Chg.refl (fun k _ => k = w1.heap.size \/ k = w.heap.size) w53).setCell _ (fun _ _ => .inl rfl)).setCell _ (fun _ _ => .inl rfl)).trans (hC.mono (fun _ _ _ => .inr))
    have hz := HB27.out.size; refine bodyPost_ret (v := seeV x (.slice pa x.others.length pc)) (by simp [results, Tryz.results75, go_sem, seeV, prbTgt, HP.out, hc]) rfl ⟨_, rfl, ?_, ?_⟩
    · exact Jl (Kq HROW.out hcc (fun g o hg e => by have := (HROW.out.lt g hg).1; omega)) (by omega)
    · exact (hB1.out.trans (HB12.out.mono hB1.out.size)).trans ((HBB.out.mono (by omega)).trans (hcc.below (by have := HBB.out.size; omega) (fun k o e => by omega)))
theorem prb_tgt (p : Option Prb) : prbTgt p = tgtP p := by cases p <;> rfl
theorem keys_snoc' {x : Nd} {i : Nat} {u : Mem} (hu : x.others[i]? = some u) : (x.others.map (·.k)).take (i + 1) = (x.others.map (·.k)).take i ++ [u.k] := by
 rw [List.take_add_one, List.getElem?_map, hu]; rfl
theorem seen_any {B b nb g : Nat} {w : World} {f : Nat -> Value} {x : Nd} (hr : RfAt w B b f x) (ho : Ok x) (hnb : w.cell? ⟨nb, 2, none⟩ = some (.pointer (some ⟨b, 0, none⟩))) {a : Ad} {ov : Value} (hn : NodeAt w a ov x) (hg : w.cell? ⟨g, 0, none⟩ = some (.pointer (some ⟨a.b, 0, none⟩))) :
  Calls Tryz.prog 44 #[.pointer (some ⟨nb, 0, none⟩), .pointer (some ⟨g, 0, none⟩)] w fun r w' => ∃ va kk L, r = .returned (.tuple #[va, .bool true]) /\ kk <= 8 /\ w'.ownsRow w.heap.size 76 3 va kk (Kd L) /\ Below w.heap.size w w' := by
 have HSEE := Hd (see_any ho a ov w hn); have hl7 := ho.len; obtain ⟨ln, hln⟩ : ∃ ln, x.others.length = ln := ⟨_, rfl⟩; have HR := Hd hr; have HNB := Hd hnb; have HLN := Hd hln; rw [hln] at hl7; have HLX := Hd (World.block_lt_of_cell? _ _ hnb); clear hr ho hn hln; go_enter Tryz.func44, Tryz.ntmps44; go_wp2_with fail
 refine HSEE.out.mono ?_; rintro e w1 ⟨v, rfl, hrow, hb1⟩; obtain ⟨va, vc, rfl⟩ := Kg hrow; unfold seeV; have HROW := Hd hrow; have HB1 := Hd hb1; clear hrow hb1 hnb hg; go_upto_region 2 with (fail); obtain ⟨w2, hw2⟩ : ∃ w2, w1.alloc (.cells #[.int .i64 x.clock, .int .i64 x.self.id, .int .i64 x.self.inc, .int .i64 x.self.st, .slice va x.others.length vc, .int .i64 (prbTgt x.probe), .int .i64 (x.queue.length : Nat), .int .i64 (x.relays.length : Nat), .int .i64 x.dropped, .int .i64 x.lost] 152) = w2 := ⟨_, rfl⟩; rw [hw2]; have hb12 : Below w1.heap.size w1 w2 := by rw [<- hw2]; exact (Below.refl _ _).alloc (Nat.le_refl _) _
 have hx2 : w2.heap[w1.heap.size]? = some (.cells #[.int .i64 x.clock, .int .i64 x.self.id, .int .i64 x.self.inc, .int .i64 x.self.st, .slice va x.others.length vc, .int .i64 (prbTgt x.probe), .int .i64 (x.queue.length : Nat), .int .i64 (x.relays.length : Nat), .int .i64 x.dropped, .int .i64 x.lost] 152 (0, 0)) := by rw [<- hw2]; exact Kc w1 _
 have hb2 : Below w.heap.size w w2 := HB1.out.trans (hb12.mono HB1.out.size); have hr2 := HR.out.below hb2; have hrow2 := Ks HROW.out hb12; have hlt2 := Kb hx2; obtain ⟨oa, oc, e13⟩ := Kg hr2.oth; have hoth := hr2.oth; rw [e13, HLN.out] at hoth; rw [HLN.out] at e13 hrow2 hx2; obtain ⟨ql, hql⟩ : ∃ ql, x.queue.length = ql := ⟨_, rfl⟩; obtain ⟨rl, hrl⟩ : ∃ rl, x.relays.length = rl := ⟨_, rfl⟩; obtain ⟨qa, qc, e19⟩ := Kg hr2.que; obtain ⟨ra, rc, e20⟩ := Kg hr2.rel; rw [hql] at e19 hx2; rw [hrl] at e20 hx2; rw [prb_tgt] at hx2; have cn : w2.cell? ⟨nb, 2, none⟩ = some (.pointer (some ⟨b, 0, none⟩)) := (hb2.cell HLX.out).trans HNB.out; have c13 : w2.cell? ⟨b, 13, none⟩ = some (.slice oa ln oc) := by rw [<- e13]; exact hr2.blk.cell (by omega)
 have hbl := hr2.blk.lt; have HR2 := Hd hr2; have HOTH := Hd hoth; have HROW2 := Hd hrow2; have HX2 := Hd hx2; have HB2 := Hd hb2; have E19 := Hd e19; have E20 := Hd e20; have HLX2 : Hid (nb < w2.heap.size) := Hd (Nat.lt_of_lt_of_le HLX.out hb2.size); have hs2 : w.heap.size <= w2.heap.size := hb2.size; obtain ⟨i0, hi, hz0, hz1, hz2⟩ := info_parts info_rkey; clear hw2 hb12 hx2 hb2 hr2 hrow2 e13 hoth e19 e20 hql hrl; go_wp2_with fail
 go_loopw [8, 9] (fun s8 s9 wr => ∃ i : Nat, i <= ln /\ s9 = .int .i64 (i : Nat) /\ wr.ownsRow w2.heap.size 58 3 s8 i (Kd ((x.others.map (·.k)).take i)) /\ Below w2.heap.size w2 wr) (fun _ s9 _ => 20 - (intOf s9).toNat)
 case atStart => exact ⟨0, Nat.zero_le _, rfl, World.ownsRow_nil _ _ _ _, Below.refl _ _⟩
 case round =>
  obtain ⟨i, hil, rfl, hrw, hb⟩ := hrel; obtain ⟨ka, kc, rfl⟩ := Kg hrw; have HRW := Hd hrw; have HB := Hd hb; have hszr := hb.size; have dn := (hb.cell (p := ⟨nb, 2, none⟩) HLX2.out).trans cn; have d13 := (hb.cell (p := ⟨b, 13, none⟩) hbl).trans c13; clear hrw hb; by_cases hlt : i < ln
  · obtain ⟨u, hu⟩ : ∃ u, x.others[i]? = some u := ⟨_, List.getElem?_eq_getElem (by have := HLN.out; omega)⟩
    obtain ⟨g', rfl, hg', u0, u1, u2, _⟩ := mr_at (Ks HOTH.out HB.out) hu; have HSN := Hd (keys_snoc' hu); clear hu; obtain ⟨⟨uid, uinc, ust⟩, udue⟩ := u; simp only at u0 u1 u2; have hrw2 := HRW.out.alloc (.cells #[.int .i64 uid, .int .i64 uinc, .int .i64 ust] 58); have hnew := Kt wr [.int .i64 uid, .int .i64 uinc, .int .i64 ust] 58 (n := wr.heap.size) rfl; have HRW2 := Hd hrw2; have HNEW := Hd hnew; have k3 : i + 1 <= maxLen := by unfold maxLen; omega
    have K3 := Hd k3; clear hrw2 hnew k3; go_wp2_with (at_builtin; refine wpList_append_own _ rfl _ _ 31 rfl w2.heap.size 58 i0 _ 3 24 Tryz.underlying31 hi hz0 hz1 hz2 rfl (by decide) (.slice ka i kc) i _ rfl HRW2.out ⟨wr.heap.size, 0, none⟩ 1 1 _ rfl rfl HNEW.out (by simp [Value.oneCell']) K3.out (by omega) (by simp; omega) ?_)
    intro v' w3 hown3 hgrow3 _; have hb3 : Below w2.heap.size w2 w3 := Below.grown (HB.out.alloc hszr _) hgrow3 (by simp; omega) (fun j hj => (HRW.out.lt j hj).1)
    have HOWN := Hd hown3; have HB3 := Hd hb3; clear hown3 hgrow3 hb3; go_wp2; go_roundw
    case rel => exact ⟨i + 1, by omega, by go_num, by rw [HSN.out, rkeys_snoc]; exact HOWN.out, HB3.out⟩
    case measure => simp [intOf]; omega
  · have hie : i = ln := by omega
    subst hie; have hk := HRW.out; rw [List.take_of_length_le (by rw [List.length_map, HLN.out]; exact Nat.le_refl _)] at hk
    have hx : wr.heap[w1.heap.size]? = _ := (HB.out.block _ hlt2).trans HX2.out; have y0 := Ka hx 0; have y1 := Ka hx 1; have y2 := Ka hx 2; have y3 := Ka hx 3; have y4 := Ka hx 4; have y5 := Ka hx 5; have y6 := Ka hx 6; have y7 := Ka hx 7; have y8 := Ka hx 8; have y9 := Ka hx 9; simp only [List.getElem?_toArray, List.getElem?_cons_succ, List.getElem?_cons_zero] at y0 y1 y2 y3 y4 y5 y6 y7 y8 y9; have HKS := Hd (keys_same (x.others.map (·.k)) va ka i vc kc wr (by rw [List.length_map]; exact HLN.out) (by omega) (Ki.row (Ks HROW2.out HB.out)).keys (Ki.row hk).keys)
    have HX := Hd hx; clear hk hx; go_wp2_with fail
    refine HKS.out.mono ?_; rintro e w3 ⟨rfl, hb3⟩; have hb23 : Below w2.heap.size w2 w3 := HB.out.trans (hb3.mono hszr); have hx : w3.heap[w1.heap.size]? = _ := (hb23.block _ hlt2).trans HX2.out; have z0 := Ka hx 0; have z1 := Ka hx 1; have z2 := Ka hx 2; have z3 := Ka hx 3; have z4 := Ka hx 4; have z5 := Ka hx 5; have z6 := Ka hx 6; have z7 := Ka hx 7; have z8 := Ka hx 8; have z9 := Ka hx 9; simp only [List.getElem?_toArray, List.getElem?_cons_succ, List.getElem?_cons_zero] at z0 z1 z2 z3 z4 z5 z6 z7 z8 z9; have hr3 := HR2.out.below hb23; have r8 : w3.cell? ⟨b, 8, none⟩ = some (.int .i64 x.clock) := by rw [<- hr3.n8]; exact hr3.blk.cell (by omega)
    have r10 : w3.cell? ⟨b, 10, none⟩ = some (.int .i64 x.self.id) := by rw [<- hr3.s10]; exact hr3.blk.cell (by omega)
    have r11 : w3.cell? ⟨b, 11, none⟩ = some (.int .i64 x.self.inc) := by rw [<- hr3.s11]; exact hr3.blk.cell (by omega)
    have r12 : w3.cell? ⟨b, 12, none⟩ = some (.int .i64 x.self.st) := by rw [<- hr3.s12]; exact hr3.blk.cell (by omega)
    have r15 : w3.cell? ⟨b, 15, none⟩ = some (.int .i64 (tgtP x.probe)) := by rw [<- hr3.n15]; exact hr3.blk.cell (by omega)
    have r19 : w3.cell? ⟨b, 19, none⟩ = some (.slice qa ql qc) := by rw [<- E19.out]; exact hr3.blk.cell (by omega)
    have r20 : w3.cell? ⟨b, 20, none⟩ = some (.slice ra rl rc) := by rw [<- E20.out]; exact hr3.blk.cell (by omega)
    have r21 : w3.cell? ⟨b, 21, none⟩ = some (.int .i64 x.dropped) := by rw [<- hr3.n21]; exact hr3.blk.cell (by omega)
    have r23 : w3.cell? ⟨b, 23, none⟩ = some (.int .i64 x.lost) := by rw [<- hr3.n23]; exact hr3.blk.cell (by omega)
    have HEND : Hid (∀ m n k, (((w3.drewN m).drewN n).drewN k).ownsRow w.heap.size 76 3 (.slice va i vc) i (Kd (x.others.map (·.k))) /\ Below w.heap.size w (((w3.drewN m).drewN n).drewN k)) := Hd (fun m n k => ⟨Je (Ks HROW2.out hb23) (fun _ _ => rfl), Below.drewR (Below.drewR (Below.drewR (HB2.out.trans (hb23.mono hs2)) m) n) k⟩)
    clear hb3 hb23 hx hr3 y0 y1 y2 y3 y4 y5 y6 y7 y8 y9 dn d13; go_wp2_with fail
    go_quiet (fail); go_wp2_with fail
    go_quiet (fail); go_wp2_with fail
    go_quiet (fail); go_wp2; go_ret2
    exact ⟨_, i, _, rfl, by omega, (HEND.out _ _ _).1, (HEND.out _ _ _).2⟩
theorem onNode_see {Bh B0 b n : Nat} {w00 : World} {f : Nat -> Value} {d : Sd} {F : Nat -> Prop} {l : List En} (h00 : PAt Bh B0 b n w00 f d F l) (hn : n <= 100000) (hl : ∀ e ∈ l, Alike n e) {i : Nat} {e : En} (hi : l[i]? = some e) (o : Sop) (hk : o.kind = 17 \/ o.kind = 18) :
  Calls Tryz.prog 20 #[.pointer (some ⟨b, 0, none⟩), e.v, o.v] w00 fun e w' => e = .returned (.bool true) /\ Zg B0 b (n + 1) w00 w' := by
 obtain ⟨kind, x, oa, ob, oc, od, oe, s⟩ := o; simp only at hk; obtain ⟨w, hw⟩ : ∃ w, w00.alloc (.cells #[.int .i64 kind, .int .i64 x, .int .i64 oa, .int .i64 ob, .int .i64 oc, .int .i64 od, .int .i64 oe, .string s] 28) = w := ⟨_, rfl⟩; have hb00 : Below w00.heap.size w00 w := by rw [<- hw]; exact (Below.refl _ _).alloc (Nat.le_refl _) _
 have hx1 : w.heap[w00.heap.size]? = some (.cells #[.int .i64 kind, .int .i64 x, .int .i64 oa, .int .i64 ob, .int .i64 oc, .int .i64 od, .int .i64 oe, .string s] 28 (0, 0)) := by rw [<- hw]; exact Kc w00 _
 have y0 : w.cell? ⟨w00.heap.size, 0, none⟩ = some (.int .i64 kind) := by rw [Ka hx1]; rfl
 have h0 := (h00.below hb00).base; have E0 := h0.en hi; obtain ⟨hp, hq, hok, _⟩ := hl e (List.mem_of_getElem? hi); obtain ⟨c0, c1, c2, c3, c4⟩ := E0.ways; obtain ⟨ov0, hn0⟩ := E0.p.node; obtain ⟨ov1, hn1⟩ := E0.q.node; rw [hp] at hn0; rw [hq] at hn1; have HSP := Hd (seen_any E0.r hok c2 hn0 c3); have HSQ := Hd (seen_any E0.r hok c2 hn1 c4); have HP := Hd h0; have HL := Hd hl; have HW := Hd hw; have HB00 := Hd (hb00.mono h00.B0w); have hB0w := h0.B0w; clear hw hb00 hx1 h00 h0 hl hi E0 hn0 hn1 hp hq hok; obtain ⟨nb, p, q, rb, rf, x1⟩ := e; simp only at c0 c1 c2 c3 c4 HSP HSQ; unfold En.v Sop.v at *; rcases hk with hk | hk
 · subst hk
   go_enter Tryz.func20, Tryz.ntmps20; go_upto_region 1 with (fail); rw [HW.out]; go_wp2_with fail
   refine HSP.out.mono ?_; rintro e w1 ⟨va, kk, L, rfl, hkk, hrow, hb1⟩; have HKP := Hd (keeps_post (HP.out.below hb1) HL.out hn (HB00.out.trans (hb1.mono hB0w)) (by omega) hrow)
   clear hkk hrow hb1 y0 c0 c1 c2 c3 c4; go_wp2_with fail
   refine HKP.out.mono ?_; rintro e w2 ⟨rfl, hpost⟩; have HPO := Hd hpost; clear hpost; go_wp2; go_ret
   exact ⟨rfl, HPO.out⟩
 · subst hk
   go_enter Tryz.func20, Tryz.ntmps20; go_upto_region 1 with (fail); rw [HW.out]; go_wp2_with fail
   refine HSQ.out.mono ?_; rintro e w1 ⟨va, kk, L, rfl, hkk, hrow, hb1⟩; have HKP := Hd (keeps_post (HP.out.below hb1) HL.out hn (HB00.out.trans (hb1.mono hB0w)) (by omega) hrow)
   clear hkk hrow hb1 y0 c0 c1 c2 c3 c4; go_wp2_with fail
   refine HKP.out.mono ?_; rintro e w2 ⟨rfl, hpost⟩; have HPO := Hd hpost; clear hpost; go_wp2; go_ret
   exact ⟨rfl, HPO.out⟩
theorem looks_post {B0 b m : Nat} {w0 w : World} (h : Zg B0 b m w0 w) (hm : m <= 110000) : Calls Tryz.prog 16 #[.pointer (some ⟨b, 0, none⟩)] w fun e w' => e = .returned (.bool true) /\ Zg B0 b m w0 w' := by
 obtain ⟨hb, f, d, F, l, hP, hall⟩ := h; obtain ⟨p16, q16, z16⟩ := hP.s.l16; obtain ⟨p17, q17, z17⟩ := hP.s.l17; obtain ⟨p18, q18, z18⟩ := hP.s.l18; obtain ⟨p19, q19, z19⟩ := hP.s.l19; have a16 := hP.s.lx; have a17 := hP.s.ly; have a18 := hP.s.lo; have a19 := hP.s.lk; rw [z16] at a16; rw [z17] at a17; rw [z18] at a18; rw [z19] at a19; have hlon := hP.s.lon; have hlnn := hP.s.ln; refine (looks_any b f p16 p17 p18 p19 q16 q17 q18 q19 _ _ _ _ _ _ B0 w.heap.size w hP.s.blk z16 z17 z18 z19 a16 a17 a18 a19 (by omega) (by omega) hP.s.lh hP.s.lp).mono ?_
 rintro e w' ⟨rfl, hb'⟩; exact ⟨rfl, hb.trans (hb'.mono hP.B0w), f, d, F, l, (hP.below hb').base, hall⟩
theorem delivered_any {Bh B0 b n : Nat} {w00 : World} {f : Nat -> Value} {d : Sd} {F : Nat -> Prop} {l : List En} (h00 : PAt Bh B0 b n w00 f d F l) (hn : n <= 90000) (hl : ∀ e ∈ l, Alike n e) (o : Sop) (ho : o.Ok) :
  Calls Tryz.prog 18 #[.pointer (some ⟨b, 0, none⟩), o.v] w00 fun e w' => e = .returned (.bool true) /\ Zg B0 b (n + 2) w00 w' := by
 obtain ⟨kind, x, oa, ob, oc, od, oe, s⟩ := o; obtain ⟨_, _, ha, _, _, _, _, _⟩ := ho; simp only at ha; obtain ⟨w, hw⟩ : ∃ w, w00.alloc (.cells #[.int .i64 kind, .int .i64 x, .int .i64 oa, .int .i64 ob, .int .i64 oc, .int .i64 od, .int .i64 oe, .string s] 28) = w := ⟨_, rfl⟩; have hb00 : Below w00.heap.size w00 w := by rw [<- hw]; exact (Below.refl _ _).alloc (Nat.le_refl _) _
 have hx1 : w.heap[w00.heap.size]? = some (.cells #[.int .i64 kind, .int .i64 x, .int .i64 oa, .int .i64 ob, .int .i64 oc, .int .i64 od, .int .i64 oe, .string s] 28 (0, 0)) := by rw [<- hw]; exact Kc w00 _
 have y2 : w.cell? ⟨w00.heap.size, 2, none⟩ = some (.int .i64 oa) := by rw [Ka hx1]; rfl
 have y3 : w.cell? ⟨w00.heap.size, 3, none⟩ = some (.int .i64 ob) := by rw [Ka hx1]; rfl
 have h0 := (h00.below hb00).base; have hB0w := h0.B0w; obtain ⟨ra, rc, e15⟩ := h0.s.o15; have hor := h0.s.orow; have hon := h0.s.on; have hoz := h0.s.oz; obtain ⟨m, hm⟩ : ∃ m, d.ow.length = m := ⟨_, rfl⟩; rw [hm] at e15 hor hon; rw [e15] at hor; have c15 : w.cell? ⟨b, 15, none⟩ = some (.slice ra m rc) := by rw [<- e15]; exact h0.s.blk.cell (by omega)
 have HP := Hd h0; have HL := Hd hl; have HW := Hd hw; have HB00 := Hd (hb00.mono h00.B0w); have hlx : w00.heap.size < w.heap.size := Kb hx1; have hbx : b ≠ w00.heap.size := fun e => by have := h00.s.blk.lt; omega
 have HX1 := Hd hx1; have HM := Hd hm; have HOR := Hd hor; have HOZ := Hd hoz; clear hw hb00 hx1 h00 h0 hl hm hor hoz e15; unfold Sop.v at *; go_enter Tryz.func18, Tryz.ntmps18; go_upto_region 1 with (fail); rw [HW.out]; by_cases h0 : m = 0
 · subst h0
   have HPO : Hid (Zg B0 b (n + 2) w00 w) := Hd ⟨HB00.out, f, d, F, l, (HP.out.mono (by omega)), fun e he => (HL.out e he).mono (by omega)⟩
   go_wp2; go_ret
   exact ⟨rfl, HPO.out⟩
 · have hm0 : ((m : Int) == 0) = false := by simp; omega
   go_upto_region 3 with (fail)
   (refine Jj 7 (by kernel_rfl) (by kernel_rfl) ?_; simp only [List.take_succ_cons, List.take_zero, List.drop_succ_cons, List.drop_zero])
   iterate 7 still_step
   refine wpStill_nil ?_; go_wp2_with fail
   refine (pickS_any oa m _ ha ⟨by omega, by omega⟩).mono ?_
   rintro e w1 ⟨rfl, rfl⟩; have hkm := pickS_lt oa m (by omega)
   obtain ⟨k, hk⟩ : ∃ k, pickS oa m = k := ⟨_, rfl⟩; rw [hk] at hkm ⊢; obtain ⟨w1, hw1⟩ : ∃ w1, w.drew = w1 := ⟨_, rfl⟩; rw [hw1]; have P1 := HP.out.drew; rw [hw1] at P1; have hh1 : w1.heap = w.heap := by rw [<- hw1]; rfl
   have hb1 : Below B0 w w1 := by rw [<- hw1]; exact (Below.refl _ _).drew
   have hkd : k < d.ow.length := by rw [HM.out]; exact hkm
   obtain ⟨pk, hpk⟩ : ∃ pk, d.ow[k] = pk := ⟨_, rfl⟩; have hps : pk.2.size <= 60 := by rw [<- hpk]; exact HOZ.out _ (List.getElem_mem hkd)
   obtain ⟨q0, q1⟩ := rpCells_at d.ow k pk (by rw [<- hpk]; exact List.getElem?_eq_getElem hkd)
   obtain ⟨g, go, rfl, hg, u0⟩ := Ki.row HOR.out _ _ q0; obtain ⟨_, _, e1, _, u1⟩ := Ki.row HOR.out _ _ q1; cases e1
   have hgo : go = 0 := by
    rcases HOR.out.2 with ⟨e, _⟩ | ⟨g', cap, cur, e, _⟩
    · simp at e
    · simp only [Value.slice.injEq, Option.some.injEq, Addr.mk.injEq] at e; exact e.1.2.1
   subst hgo; rw [Nat.zero_add] at u0; rw [Nat.zero_add] at u1; have v0 : w1.cell? ⟨g, k * 2, none⟩ = some (.int .i64 pk.1) := by rw [<- hw1]; exact u0
   have v1 : w1.cell? ⟨g, k * 2 + 1, none⟩ = some (.string pk.2) := by rw [<- hw1]; exact u1
   have c15' : w1.cell? ⟨b, 15, none⟩ = some (.slice (some ⟨g, 0, none⟩) m rc) := by rw [<- hw1]; exact c15
   have z3 : w1.cell? ⟨w00.heap.size, 3, none⟩ = some (.int .i64 ob) := by rw [<- hw1]; exact y3
   have hx1 : w1.heap[w00.heap.size]? = some (.cells #[.int .i64 kind, .int .i64 x, .int .i64 oa, .int .i64 ob, .int .i64 oc, .int .i64 od, .int .i64 oe, .string s] 28 (0, 0)) := by rw [hh1]; exact HX1.out
   have HPP := Hd P1; have HPS := Hd hps; have HKD := Hd hkd; have HX := Hd hx1; have HB1 := Hd (HB00.out.trans hb1); have hB1w := P1.B0w; have hlx1 := Kb hx1; clear hw1 hh1 hb1 P1 hpk hps hkd q0 q1 u0 u1 hg hx1 c15 y2 y3 HOR HOZ HP HX1 HB00 HW hk hlx; go_upto_region 5 with (fail); obtain ⟨w2, hw2⟩ : ∃ w2, w1.alloc (.cells #[.int .i64 pk.1, .string pk.2] 60) = w2 := ⟨_, rfl⟩; rw [hw2]; have hb2 : Below w1.heap.size w1 w2 := by rw [<- hw2]; exact (Below.refl _ _).alloc (Nat.le_refl _) _
   have hx2 : w2.heap[w1.heap.size]? = some (.cells #[.int .i64 pk.1, .string pk.2] 60 (0, 0)) := by rw [<- hw2]; exact Kc w1 _
   have P2 := (HPP.out.below hb2).base; have z3' : w2.cell? ⟨w00.heap.size, 3, none⟩ = some (.int .i64 ob) := (hb2.cell hlx1).trans z3; have HB2 := Hd (HB1.out.trans (hb2.mono hB1w)); have hbp : b ≠ w1.heap.size := fun e => by have := HPP.out.s.blk.lt; omega
   have HP2 := Hd P2; have HX2 := Hd hx2; have HTK := Hd (wtake_any B0 b n w2 f d P2.s k HKD.out); clear hw2 hb2 hx2 P2 z3 v0 v1 c15'; go_upto_if 33 with (fail); go_cut [5] (fun s5 wx => s5 = .int .i64 (k : Int) /\ ∃ f' d' F', PAt wx.heap.size B0 b (n + 1) wx f' d' F' l /\ Below B0 w00 wx /\ wx.heap[w1.heap.size]? = some (.cells #[.int .i64 pk.1, .string pk.2] 60 (0, 0)))
   case first =>
    by_cases h1 : ob = 1
    · have h1b : (ob != 1) = false := by simpa using h1
      clear h1; go_wp2; go_meet
      case rel => exact ⟨rfl, f, d, F, HP2.out.mono (Nat.le_succ n), HB2.out, HX2.out⟩
    · have h1b : (ob != 1) = true := by simpa using h1
      clear h1; go_wp2_with fail
      refine HTK.out.mono ?_; rintro e w3 ⟨rfl, f', hS, hK, hC⟩; have hP3 := HP2.out.stepSQ hS hK (hC.mono (fun x o _ e => (⟨e ▸ hS.hB, .inl e⟩ : SQ B0 b x o))) (Nat.le_succ n)
      have HX3 := Hd (hC.kept _ _ HX2.out (fun e => hbp e.symm))
      have HB3 := Hd (HB2.out.trans (hC.below HP2.out.B0w (fun x o e => e ▸ hS.hB)))
      have HP3 := Hd hP3; clear hS hK hC hP3; go_wp2; go_meet
      case rel => exact ⟨rfl, f', _, HP3.out.choose, HP3.out.choose_spec, HB3.out, HX3.out⟩
   case rest =>
   obtain ⟨rfl, f', d', F', hP3, hb3, hx3⟩ := hcut; obtain ⟨w3, hwc⟩ : ∃ w3, w3 = wc := ⟨_, rfl⟩; subst hwc; obtain ⟨na, nc, e14⟩ := hP3.sl; have hnr := hP3.row; have hlen := hP3.len; obtain ⟨ln, hln⟩ : ∃ ln, l.length = ln := ⟨_, rfl⟩; rw [hln] at e14 hnr hlen; rw [e14] at hnr; have c14 : w3.cell? ⟨b, 14, none⟩ = some (.slice na ln nc) := by rw [<- e14]; exact hP3.s.blk.cell (by omega)
   have p0 : w3.cell? ⟨w1.heap.size, 0, none⟩ = some (.int .i64 pk.1) := by rw [Ka hx3]; rfl
   have p1 : w3.cell? ⟨w1.heap.size, 1, none⟩ = some (.string pk.2) := by rw [Ka hx3]; rfl
   have HP3 := Hd hP3; have HB3 := Hd hb3; have HLN := Hd hln; have HNR := Hd hnr; clear hP3 hb3 hx3 hln hnr e14 z3' hbp HTK HX2 HP2 HB2 HB1 HX HPP hlx1 hB1w; go_wp2_with fail
   go_loopw [7] (fun s7 wr => ∃ (j q : Nat), j <= ln /\ s7 = .int .i64 (j : Nat) /\ wr = w3.drewN q) (fun s7 _ => ln + 5 - (intOf s7).toNat)
   case atStart => exact ⟨0, 0, Nat.zero_le _, rfl, rfl⟩
   case round =>
    obtain ⟨j, q, hjl, rfl, rfl⟩ := hrel; by_cases hlt : j < ln
    · obtain ⟨e, he⟩ : ∃ e, l[j]? = some e := ⟨_, List.getElem?_eq_getElem (by have := HLN.out; omega)⟩
      have E := HP3.out.en he; have hal := HL.out e (List.mem_of_getElem? he); obtain ⟨c0, c1, c2, _⟩ := E.ways; have c10 : w3.cell? ⟨e.b, 10, none⟩ = some (.int .i64 e.r.self.id) := by rw [<- E.r.s10]; exact E.r.blk.cell (by omega)
      obtain ⟨ng, no, rfl, hng, n0⟩ := Ki.row HNR.out j e.v (by rw [List.getElem?_map, he]; rfl)
      have hno : no = 0 := by
       rcases HNR.out.2 with ⟨e, _⟩ | ⟨g', cap, cur, e, _⟩
       · simp at e
       · simp only [Value.slice.injEq, Option.some.injEq, Addr.mk.injEq] at e; exact e.1.2.1
      subst hno; rw [Nat.zero_add] at n0; have P4 := fun k => (HP3.out.below (Below.drewR (Below.refl _ _) k))
      have HRV := fun k => received_any (P4 k) (by omega) (fun e he => (HL.out e he).mono (Nat.le_succ n)) he pk.2 (by unfold maxLen; have := HPS.out; omega)
      have HRV' := Hd HRV; have HIO := Hd he; clear P4 HRV E hal he hng; obtain ⟨nb, ep, eq, rb, rf, x1⟩ := e; unfold En.v at n0 HRV'; simp only at c0 c1 c2 c10 n0 HRV'; by_cases hid : x1.self.id = pk.1
      · have hidb : (x1.self.id == pk.1) = true := by simpa using hid
        clear hid; go_wp2_with fail
        go_quiet (fail); go_upto_region 11 with (fail)
        (refine Jj 10 (by kernel_rfl) (by kernel_rfl) ?_; simp only [List.take_succ_cons, List.take_zero, List.drop_succ_cons, List.drop_zero])
        iterate 10 still_step
        refine wpStill_nil ?_; go_wp2_with fail
        refine (HRV'.out _).mono ?_; rintro e w4 ⟨rfl, hpost⟩; have HLK := Hd (looks_post hpost (by omega))
        clear hpost; go_wp2_with fail
        refine HLK.out.mono ?_; rintro e w5 ⟨rfl, hpost⟩; have HPO : Hid (Zg B0 b (n + 2) w00 w5) := Hd (hpost.from (Below.drewR HB3.out _)); clear hpost; go_wp2; go_ret
        exact ⟨rfl, HPO.out⟩
      · have hidb : (x1.self.id == pk.1) = false := by simpa using hid
        clear hid; go_wp2_with fail
        go_quiet (fail); go_wp2; go_roundw
        case rel => exact ⟨j + 1, _, by omega, by go_num, rfl⟩
        case measure => simp [intOf]; omega
    · have hPE : Hid (Zg B0 b (n + 2) w00 (w3.drewN q)) := Hd ⟨Below.drewR HB3.out q, f', d', F', l, ((HP3.out.below (Below.drewR (Below.refl _ _) q)).mono (Nat.le_succ _)).base, fun e he => (HL.out e he).mono (by omega)⟩
      go_wp2; go_ret
      exact ⟨rfl, hPE.out⟩
section
variable {Bh B0 b n : Nat} {w w' : World} {f : Nat -> Value} {d : Sd} {F : Nat -> Prop} {l : List En}
theorem SAt.nodes {v : Value} {T : List TypeId} (h : SAt B0 b n w f d) (K : Kept T B0 w' f d) (hb : WB w' b (upd f 14 v)) (hT : ∀ t ∈ T, t = 41 \/ t = 51) : SAt B0 b n w' (upd f 14 v) d := by
 have nt : ∀ t, t ≠ 41 -> t ≠ 51 -> t ∉ T := fun t h1 h2 ht => (hT t ht).elim h1 h2
 exact { h with
         blk := hb
         tr := K.tr (nt _ (by decide) (by decide))
         m6 := K.m6 (nt _ (by decide) (by decide))
         d7 := K.d7 (nt _ (by decide) (by decide))
         cf := fun i h8 h14 => by rw [Kh _ _ _ (by omega)]; exact h.cf i h8 h14
         orow := K.orow (nt _ (by decide) (by decide))
         lx := K.lx (nt _ (by decide) (by decide))
         ly := K.ly (nt _ (by decide) (by decide))
         lh := K.lh (nt _ (by decide) (by decide))
         lo := K.lo (nt _ (by decide) (by decide))
         lk := K.lk (nt _ (by decide) (by decide))
         lp := K.lp (nt _ (by decide) (by decide)) }
theorem PAt.snoc (h : PAt Bh B0 b n w f d F l) {en : En} (hE : Ens w B0 F (l ++ [en])) {v : Value} (hb : WB w' b (upd f 14 v)) (hc : Chg (fun k _ => k = b \/ (f 14).ownBlock = some k) w w')
  (hrow : w'.ownsRow B0 51 1 v (l.length + 1) ((l ++ [en]).map En.v)) : PAt w'.heap.size B0 b (n + 1) w' (upd f 14 v) d F (l ++ [en]) := by
 have hT : ∀ k o, w.heap[k]? = some o -> (k = b \/ (f 14).ownBlock = some k) -> ∃ cs t fr, o = .cells cs t fr /\ t ∈ [41, 51] := fun k o hk hs => by
  rcases hs with rfl | hs
  · obtain ⟨cs, h1⟩ := h.s.blk.block
    rw [h1] at hk; cases hk; exact ⟨_, _, _, rfl, by simp⟩
  · obtain ⟨_, cur, h1⟩ := Ke h.row hs
    rw [h1] at hk; cases hk; exact ⟨_, _, _, rfl, by simp⟩
 have hS := (h.s.nodes (h.s.kept hc hT) hb (fun t ht => by simpa using ht)).mono (Nat.le_succ n)
 have hlen : (l ++ [en]).length = l.length + 1 := by simp
 have hl := h.len; obtain ⟨a, c, e⟩ := Kg hrow; refine ⟨hS, hE.chg hc (fun k o hk hs => ?_), by rw [Ku, hlen]; exact hrow, ⟨a, c, by rw [Ku, hlen]; exact e⟩, fun i hi k hk => h.fr i hi k (by rwa [Kh _ _ _ (by omega)] at hk), by omega, Nat.le_trans h.B0w hc.size, Nat.le_refl _, hS.lp, hS.lh⟩
 obtain ⟨cs, t, fr, e, ht⟩ := hT k o hk hs; refine ⟨cs, t, fr, e, ?_⟩; simp only [List.mem_cons, List.not_mem_nil, or_false] at ht; rcases ht with rfl | rfl <;> exact ⟨by decide, by decide⟩
theorem alike_snoc {en : En} {m : Nat} (hl : ∀ e ∈ l, Alike n e) (hn : n <= m) (he : Alike m en) : ∀ e ∈ l ++ [en], Alike m e := fun e h => by
 rcases List.mem_append.1 h with h | h
 · exact (hl e h).mono hn
 · rw [List.mem_singleton] at h; subst h; exact he
end
theorem info_nodep : (Tryz.prog.info? 51).map (fun i => (i.zero, i.size, i.bytes)) = some (some (.pointer none), 1, 8) := by kernel_rfl
theorem step_new {Bh B0 b n : Nat} {w00 : World} {f : Nat -> Value} {d : Sd} {F : Nat -> Prop} {l : List En} (h00 : PAt Bh B0 b n w00 f d F l) (hn : n <= 90000) (hl : ∀ e ∈ l, Alike n e) (hg : Jc w00) (hBp : 0 < B0) (o : Sop) (ho : o.Ok) (hk : o.kind = 9) :
  Calls Tryz.prog 10 #[.pointer (some ⟨b, 0, none⟩), o.v] w00 fun e w' => e = .returned (.bool true) /\ Zg B0 b (n + 1) w00 w' := by
 obtain ⟨kind, x, oa, ob, oc, od, oe, s⟩ := o; simp only at hk; subst hk; obtain ⟨w1, hw1⟩ : ∃ w1, w00.alloc (.cells #[.int .i64 9, .int .i64 x, .int .i64 oa, .int .i64 ob, .int .i64 oc, .int .i64 od, .int .i64 oe, .string s] 28) = w1 := ⟨_, rfl⟩; have hb1 : Below w00.heap.size w00 w1 := by rw [<- hw1]; exact (Below.refl _ _).alloc (Nat.le_refl _) _
 have hx1 : w1.heap[w00.heap.size]? = some (.cells #[.int .i64 9, .int .i64 x, .int .i64 oa, .int .i64 ob, .int .i64 oc, .int .i64 od, .int .i64 oe, .string s] 28 (0, 0)) := by rw [<- hw1]; exact Kc w00 _
 have hnk : ¬ ownKind 9 := by decide
 have HCON := Hd (owner_none b w1 ⟨9, x, oa, ob, oc, od, oe, s⟩ hnk); have HP1 := Hd (h00.below hb1); have HX1 := Hd hx1; have HB1 := Hd (hb1.mono h00.B0w); have HW1 := Hd hw1; have HL := Hd hl; have HGG := Hd hg; have HBP := Hd hBp; have hlx1 := Kb hx1; have hB1w := (h00.below hb1).B0w; clear hb1 hx1 hw1 hnk hl hg hBp h00; unfold Sop.v at *; go_enter Tryz.func10, Tryz.ntmps10; go_wp2_with fail
 rw [HW1.out]; refine HCON.out.mono ?_; rintro e w2 ⟨rfl, hb2⟩; have hP2 := (HP1.out.below hb2).base; obtain ⟨k8, e8, i8⟩ := hP2.s.cf 8 (by omega) (by omega)
 obtain ⟨k9, e9, i9⟩ := hP2.s.cf 9 (by omega) (by omega)
 obtain ⟨k10, e10, i10⟩ := hP2.s.cf 10 (by omega) (by omega)
 obtain ⟨k11, e11, i11⟩ := hP2.s.cf 11 (by omega) (by omega)
 obtain ⟨k12, e12, i12⟩ := hP2.s.cf 12 (by omega) (by omega)
 obtain ⟨k13, e13, i13⟩ := hP2.s.cf 13 (by omega) (by omega)
 have c8 : w2.cell? ⟨b, 8, none⟩ = some (.int .i64 k8) := by rw [<- e8]; exact hP2.s.blk.cell (by omega)
 have c9 : w2.cell? ⟨b, 9, none⟩ = some (.int .i64 k9) := by rw [<- e9]; exact hP2.s.blk.cell (by omega)
 have c10 : w2.cell? ⟨b, 10, none⟩ = some (.int .i64 k10) := by rw [<- e10]; exact hP2.s.blk.cell (by omega)
 have c11 : w2.cell? ⟨b, 11, none⟩ = some (.int .i64 k11) := by rw [<- e11]; exact hP2.s.blk.cell (by omega)
 have c12 : w2.cell? ⟨b, 12, none⟩ = some (.int .i64 k12) := by rw [<- e12]; exact hP2.s.blk.cell (by omega)
 have c13 : w2.cell? ⟨b, 13, none⟩ = some (.int .i64 k13) := by rw [<- e13]; exact hP2.s.blk.cell (by omega)
 have hx2 : w2.heap[w00.heap.size]? = _ := (hb2.block _ hlx1).trans HX1.out; have x0 : w2.cell? ⟨w00.heap.size, 0, none⟩ = some (.int .i64 9) := by rw [Ka hx2]; rfl
 have x2 : w2.cell? ⟨w00.heap.size, 2, none⟩ = some (.int .i64 oa) := by rw [Ka hx2]; rfl
 have xa : ∀ o, (w2.alloc o).cell? ⟨w00.heap.size, 2, none⟩ = some (.int .i64 oa) := fun o => by rw [World.cell?_alloc_lt _ _ _ (World.block_lt_of_cell? _ _ x2)]; exact x2
 have HB2 := Hd (HB1.out.trans (hb2.mono hB1w)); have HP2 := Hd hP2; have hB2w := hP2.B0w; clear hb2 hP2 hx2 e8 e9 e10 e11 e12 e13 i8 i10 i11 i12 i13 HCON HP1 HX1 HB1 HW1 hlx1 hB1w; go_upto_region 22 with (fail); obtain ⟨w3, hw3⟩ : ∃ w3, w2.alloc (.cells #[.int .i64 oa, .int .i64 k9, .int .i64 k10, .int .i64 k11, .int .i64 k12, .int .i64 k13] 35) = w3 := ⟨_, rfl⟩; rw [hw3]; have hb3 : Below w2.heap.size w2 w3 := by rw [<- hw3]; exact (Below.refl _ _).alloc (Nat.le_refl _) _
 have hx3 : w3.heap[w2.heap.size]? = some (.cells #[.int .i64 oa, .int .i64 k9, .int .i64 k10, .int .i64 k11, .int .i64 k12, .int .i64 k13] 35 (0, 0)) := by rw [<- hw3]; exact Kc w2 _
 have hP3 := (HP2.out.below hb3).base; obtain ⟨da, dc, e7, hint⟩ := hP3.s.d7; have hdn := hP3.s.dn; obtain ⟨dl, hdl⟩ : ∃ dl, d.ds.length = dl := ⟨_, rfl⟩; rw [hdl] at e7 hdn; have c7 : w3.cell? ⟨b, 7, none⟩ = some (.slice da dl dc) := by rw [<- e7]; exact hP3.s.blk.cell (by omega)
 have hs : ∀ W : World, W.heap[w2.heap.size]? = w3.heap[w2.heap.size]? -> W.heap[b]? = w3.heap[b]? -> (W.cell? ⟨w2.heap.size, 0, none⟩ = some (.int .i64 oa) /\ W.cell? ⟨w2.heap.size, 1, none⟩ = some (.int .i64 k9) /\ W.cell? ⟨w2.heap.size, 2, none⟩ = some (.int .i64 k10) /\ W.cell? ⟨w2.heap.size, 3, none⟩ = some (.int .i64 k11) /\ W.cell? ⟨w2.heap.size, 4, none⟩ = some (.int .i64 k12) /\ W.cell? ⟨w2.heap.size, 5, none⟩ = some (.int .i64 k13) /\ W.cell? ⟨b, 7, none⟩ = some (.slice da dl dc)) := fun W h1 h2 => by
  rw [hx3] at h1; refine ⟨?_, ?_, ?_, ?_, ?_, ?_, ?_⟩
  · rw [Ka h1]; rfl
  · rw [Ka h1]; rfl
  · rw [Ka h1]; rfl
  · rw [Ka h1]; rfl
  · rw [Ka h1]; rfl
  · rw [Ka h1]; rfl
  · unfold World.cell?; rw [h2]; exact c7
 have hg3 : Jc w3 := HGG.out.belowB (HB2.out.trans (hb3.mono hB2w)) HBP.out
 have hmd : ∀ W, W.heap = w3.heap -> Calls Tryz.prog 17 #[.agg #[.int .i64 oa, .int .i64 k9, .int .i64 k10, .int .i64 k11, .int .i64 k12, .int .i64 k13], .slice da dl dc] W fun e w' => Below W.heap.size W w' /\ ∃ v, e = .returned (.tuple #[v, .bool true]) /\ (v = .pointer none \/ ∃ en : En, v = en.v /\ Ens w' B0 F (l ++ [en]) /\ Alike (n + 1) en) := fun W hW =>
  (made_any ⟨oa, k9, k10, k11, k12, k13⟩ d.ds da dl dc W (by unfold Jc World.cell? at *; rw [hW]; exact hg3) hdl (by omega) (hint.keep (n := dl) (c := dc) (fun k _ => by rw [hW])) hP3.s.df i9).mono (fun e w' hm => by
   obtain ⟨hbm, ⟨_, rfl⟩ | ⟨hcf, en, rfl, hat, h1, h2, h3, h6, hap⟩⟩ := hm
   · exact ⟨hbm, _, rfl, .inl rfl⟩
   · refine ⟨hbm, _, rfl, .inr ⟨en, rfl, ?_, ?_⟩⟩
     · refine (hP3.e.keep (w' := W) (fun e _ => by rw [hW]) (fun e _ c k _ _ => by rw [hW]) (fun k _ => by rw [hW])).add hbm (hat.lower (by rw [hW]; exact hP3.B0w)) hap (fun c k _ hk => (hat.lt hk).1) (fun k hk => hP3.fr 7 (.inr rfl) k (by rw [e7, <- h6]; exact hk))
     · refine ⟨by rw [h1, h3], by rw [h2, h3], by rw [h3]; exact ok_new hcf d.ds, by rw [h3]; exact (bd_new _ _).mono (by omega), by rw [h3]; show d.ds.length <= _; omega⟩)
 have HS := Hd hs; have HMD := Hd hmd; have HP3 := Hd hP3; have HB3 := Hd (HB2.out.trans (hb3.mono hB2w)); have hlb : b < w3.heap.size := hP3.s.blk.lt; have hlx3 := Kb hx3; have hB3w := hP3.B0w; clear hw3 hb3 hx3 hP3 e7 hdl hint hs hmd hg3 c8 c9 c10 c11 c12 c13 x0 x2 xa HB2 HP2 hB2w hdn c7 i9; go_cut [12, 6] (fun s12 s6 wx => s6 = .bool true /\ Below w3.heap.size w3 wx /\ (s12 = .pointer none \/ ∃ en : En, s12 = en.v /\ Ens wx B0 F (l ++ [en]) /\ Alike (n + 1) en))
 case first =>
  go_region_held3 (fun w' => w'.cell? ⟨w2.heap.size, 0, none⟩ = some (.int .i64 oa) /\ w'.cell? ⟨w2.heap.size, 1, none⟩ = some (.int .i64 k9) /\ w'.cell? ⟨w2.heap.size, 2, none⟩ = some (.int .i64 k10) /\ w'.cell? ⟨w2.heap.size, 3, none⟩ = some (.int .i64 k11) /\ w'.cell? ⟨w2.heap.size, 4, none⟩ = some (.int .i64 k12) /\ w'.cell? ⟨w2.heap.size, 5, none⟩ = some (.int .i64 k13) /\ w'.cell? ⟨b, 7, none⟩ = some (.slice da dl dc))
   (first | exact HS.out _ rfl rfl | exact HS.out _ (HBM.out.block _ hlx3) (HBM.out.block _ hlb))
   ((go_at_call 17; refine (HMD.out _ (by rfl)).mono ?_; rintro e w4 ⟨hbm, v, rfl, hv⟩; have HBM : Hid (Below w3.heap.size w3 w4) := Hd ⟨hbm.os, hbm.tape, hbm.output, hbm.size, hbm.block⟩; have HV := Hd hv; clear hbm hv))
  all_goals
   go_wp2; go_meet
   case rel => exact ⟨rfl, HBM.out, HV.out⟩
 case rest =>
 obtain ⟨rfl, hbm, hv⟩ := hcut; obtain ⟨w4, hwc⟩ : ∃ w4, w4 = wc := ⟨_, rfl⟩; subst hwc; have HP4 := Hd (HP3.out.below hbm); have HB4 := Hd (HB3.out.trans (hbm.mono hB3w)); rcases hv with rfl | ⟨en, rfl, hE, hal⟩
 · have HPO : Hid (Zg B0 b (n + 1) w00 w4) := Hd ⟨HB4.out, f, d, F, l, (HP4.out.mono (Nat.le_succ n)).base, fun e he => (HL.out e he).mono (Nat.le_succ n)⟩
   clear hbm HS HMD; go_wp2; go_ret
   exact ⟨rfl, HPO.out⟩
 · clear HS HMD
   obtain ⟨na, nc, e14⟩ := HP4.out.sl; obtain ⟨ln, hln⟩ : ∃ ln, l.length = ln := ⟨_, rfl⟩; have hrow := HP4.out.row; have hlen := HP4.out.len; rw [hln] at e14 hrow hlen; rw [e14] at hrow; have c14 : w4.cell? ⟨b, 14, none⟩ = some (.slice na ln nc) := by rw [<- e14]; exact HP4.out.s.blk.cell (by omega)
   have ca : ∀ o, (w4.alloc o).cell? ⟨b, 14, none⟩ = some (.slice na ln nc) := fun o => by rw [World.cell?_alloc_lt _ _ _ (World.block_lt_of_cell? _ _ c14)]; exact c14
   have hrw := hrow.alloc (.cells #[.pointer (some ⟨en.nb, 0, none⟩)] 51); have hnew := Kt w4 [.pointer (some ⟨en.nb, 0, none⟩)] 51 (n := w4.heap.size) rfl; have HRW := Hd hrw; have HNEW := Hd hnew; have HE := Hd hE; have HAL := Hd hal; have E14 := Hd e14; have HLN := Hd hln; have k3 : ln + 1 <= maxLen := by unfold maxLen; omega
   have K3 := Hd k3; have hsz4 := hbm.size; obtain ⟨i0, hi, hz0, hz1, hz2⟩ := info_parts info_nodep; clear hrow hrw hnew hE hal e14 hln k3 hbm; unfold En.v at *; go_wp2_with (at_builtin; refine wpList_append_own _ rfl _ _ 36 rfl B0 51 i0 _ 1 8 Tryz.underlying36 hi hz0 hz1 hz2 rfl (by decide) (.slice na ln nc) ln _ rfl HRW.out ⟨w4.heap.size, 0, none⟩ 1 1 _ rfl rfl HNEW.out (by simp [Value.oneCell']) K3.out (by omega) (by simp; omega) ?_)
   intro v' w6 hown6 hgrow6 _; obtain ⟨va6, vc6, rfl⟩ := Kg hown6; have hblk4 := HP4.out.s.blk; have hblk6 : WB w6 b f := (hblk4.alloc _).grown hgrow6 (hblk4.neOwn (by rw [<- E14.out]; exact HP4.out.row) (by decide))
   have d14 := hblk6.cell (i := 14) (by omega)
   have f14 := hblk6.free 14; have hc5 : Chg (fun k _ => k = b \/ (f 14).ownBlock = some k) w4 (w4.alloc (.cells #[.pointer (some ⟨en.nb, 0, none⟩)] 51)) := ⟨rfl, rfl, rfl, by simp, fun k _ hk _ => Kp _ hk⟩
   have hc6 : Chg (fun k _ => k = b \/ (f 14).ownBlock = some k) w4 (w6.setCell ⟨b, 14, none⟩ (.slice va6 (ln + 1) vc6)) :=
    (hc5.grown hgrow6 (fun k o e _ => .inr (by rw [E14.out]; exact e))).setCell _ (fun _ _ => .inl rfl)
   have hP7 := HP4.out.snoc HE.out (hblk6.set (i := 14) (by omega) (.slice va6 (ln + 1) vc6)) hc6 (by rw [HLN.out, List.map_append]; exact Kq hown6 ((Chg.refl (fun k _ => k = b) w6).setCell _ (fun _ _ => rfl)) (fun g o e h => hblk6.neOwn hown6 (by decide) (h ▸ e)))
   have HPO : Hid (Zg B0 b (n + 1) w00 (w6.setCell ⟨b, 14, none⟩ (.slice va6 (ln + 1) vc6))) := Hd ⟨HB4.out.trans (hc6.below (by omega) (fun k o h => by
    rcases h with rfl | h
    · exact HP4.out.s.hB
    · exact (HP4.out.row.lt k h).1)), _, d, F, _, hP7, alike_snoc HL.out (Nat.le_succ n) HAL.out⟩
   clear hown6 hgrow6 hblk4 hblk6 hc5 hc6 hP7 c14 ca; go_wp2; go_ret
   exact ⟨rfl, HPO.out⟩
