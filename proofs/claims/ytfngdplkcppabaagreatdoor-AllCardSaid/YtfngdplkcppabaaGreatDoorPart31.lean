/-
  Texts of the proof: OnNode, OnJoin, OnLeave, Keeps, Drained, OnDrain. No condition.
-/
import Derived.Test.YtfngdplkcppabaaGreatDoorPart01
import Derived.Test.YtfngdplkcppabaaGreatDoorPart28
import Derived.Test.YtfngdplkcppabaaGreatDoorPart30
import Derived.Test.YtfngdplkcppabaaGreatDoorPart20
import Derived.Test.YtfngdplkcppabaaGreatDoorPart07
import Derived.Test.YtfngdplkcppabaaGreatDoorPart26
set_option linter.all false
set_option maxRecDepth 100000
set_option maxHeartbeats 4000000
namespace Go.Proofs.YtfngdplkcppabaaGreatDoor
open Go.RowKit
theorem Zg.from {B0 b n : Nat} {w w1 w2 : World} (h : Zg B0 b n w1 w2) (hb : Below B0 w w1) : Zg B0 b n w w2 := ⟨hb.trans h.1, h.2⟩
theorem onNode_receive {Bh B0 b n : Nat} {w : World} {f : Nat -> Value} {d : Sd} {F : Nat -> Prop} {l : List En} (h0 : PAt Bh B0 b n w f d F l) (hn : n <= 100000) (hl : ∀ e ∈ l, Alike n e) {i : Nat} {e : En} (hi : l[i]? = some e) (o : Sop) (ho : o.Ok) (hk : o.kind = 10) :
  Calls Tryz.prog 20 #[.pointer (some ⟨b, 0, none⟩), e.v, o.v] w fun e w' => e = .returned (.bool true) /\ Zg B0 b (n + 1) w w' := by
 obtain ⟨kind, x, oa, ob, oc, od, oe, s⟩ := o; simp only at hk; subst hk; obtain ⟨_, _, ha, _, _, _, _, _⟩ := ho; simp only at ha; obtain ⟨w1, hw1⟩ : ∃ w1, w.alloc (.cells #[.int .i64 10, .int .i64 x, .int .i64 oa, .int .i64 ob, .int .i64 oc, .int .i64 od, .int .i64 oe, .string s] 28) = w1 := ⟨_, rfl⟩; have hb1 : Below w.heap.size w w1 := by rw [<- hw1]; exact (Below.refl _ _).alloc (Nat.le_refl _) _
 have hx1 : w1.heap[w.heap.size]? = some (.cells #[.int .i64 10, .int .i64 x, .int .i64 oa, .int .i64 ob, .int .i64 oc, .int .i64 od, .int .i64 oe, .string s] 28 (0, 0)) := by rw [<- hw1]; exact Kc w _
 have x0 : w1.cell? ⟨w.heap.size, 0, none⟩ = some (.int .i64 10) := by rw [Ka hx1]; rfl
 have x2 : w1.cell? ⟨w.heap.size, 2, none⟩ = some (.int .i64 oa) := by rw [Ka hx1]; rfl
 have P1 := h0.below hb1; have HTX := Hd (text_any B0 b n w1 f d P1.s oa ha (by omega))
 have HP := Hd P1; have HW1 := Hd hw1; have HB1 := Hd (hb1.mono h0.B0w); have HL := Hd hl; have HI := Hd hi; have hB0w := P1.B0w; clear hw1 hb1 hx1 P1 h0 hl hi; unfold Sop.v; go_enter Tryz.func20, Tryz.ntmps20; go_wp2_with fail
 rw [HW1.out]; refine HTX.out.mono ?_; rintro e' w2 ⟨t, rfl, ht, hb2⟩; have HRV := Hd (received_any (HP.out.below hb2) hn HL.out HI.out t (by unfold maxLen; omega))
 have HB2 : Hid (Below B0 w w2) := Hd (HB1.out.trans (hb2.mono hB0w)); clear hb2 ht x0 x2; go_wp2_with fail
 refine HRV.out.mono ?_; rintro e' w3 ⟨rfl, hpost⟩; have HPO := Hd (hpost.from HB2.out); clear hpost; go_wp2; go_ret
 exact ⟨rfl, HPO.out⟩
theorem onNode_tick {Bh B0 b n : Nat} {w00 : World} {f : Nat -> Value} {d : Sd} {F : Nat -> Prop} {l : List En} (h00 : PAt Bh B0 b n w00 f d F l) (hn : n <= 100000) (hl : ∀ e ∈ l, Alike n e) {i : Nat} {e : En} (hi : l[i]? = some e) (o : Sop) (hk : o.kind = 15) :
  Calls Tryz.prog 20 #[.pointer (some ⟨b, 0, none⟩), e.v, o.v] w00 fun e w' => e = .returned (.bool true) /\ Zg B0 b (n + 1) w00 w' := by
 obtain ⟨kind, x, oa, ob, oc, od, oe, s⟩ := o; simp only at hk; subst hk; obtain ⟨w, hw⟩ : ∃ w, w00.alloc (.cells #[.int .i64 15, .int .i64 x, .int .i64 oa, .int .i64 ob, .int .i64 oc, .int .i64 od, .int .i64 oe, .string s] 28) = w := ⟨_, rfl⟩; have hb00 : Below w00.heap.size w00 w := by rw [<- hw]; exact (Below.refl _ _).alloc (Nat.le_refl _) _
 have hx1 : w.heap[w00.heap.size]? = some (.cells #[.int .i64 15, .int .i64 x, .int .i64 oa, .int .i64 ob, .int .i64 oc, .int .i64 od, .int .i64 oe, .string s] 28 (0, 0)) := by rw [<- hw]; exact Kc w00 _
 have y0 : w.cell? ⟨w00.heap.size, 0, none⟩ = some (.int .i64 15) := by rw [Ka hx1]; rfl
 have h0 := h00.below hb00; have HW := Hd hw; have HB00 := Hd (hb00.mono h00.B0w); clear hw hb00 hx1 h00; have P0 := h0.base; have hB0w := P0.B0w; have E0 := P0.en hi; have h15 : ∀ g, (f 15).ownBlock = some g -> g < w.heap.size := fun g hg => (P0.s.orow.lt g hg).2
 obtain ⟨hp, hq, hok, hbd, hdl⟩ := hl e (List.mem_of_getElem? hi); have hil := (List.getElem?_eq_some_iff.1 hi).1; obtain ⟨nb, ⟨g0, a0, x0⟩, ⟨g1, a1, x1⟩, rb, rf, x⟩ := e; simp only at hp hq hok hbd hdl; subst hp; subst hq; have hgood := good_tick hok hbd (by omega)
 have hlen := tick_len hok hbd; obtain ⟨ov0, hn0⟩ := E0.p.node; have hpr := tick_any hok hbd (by omega) hdl a0 ov0 w hn0
 have hqr := fun ov w hn => tick_any hok hbd (by omega) hdl a1 ov w hn
 have hrr := fun w (h : RfAt w B0 rb rf x1) hB => rtick_any h hok hbd (by omega) hdl hB
 obtain ⟨r, hr⟩ : ∃ r, x1.tick = r := ⟨_, rfl⟩; rw [hr] at hgood hlen hpr; simp only [hr] at hqr hrr; obtain ⟨c0, c1, c2, c3, c4⟩ := E0.ways; simp only at c0 c1 c2 c3 c4; have P0' := Hd P0; have HN0 := Hd hn0; have HPR := Hd hpr; have HQR := Hd hqr; have HRR := Hd hrr; have HI := Hd hi; have HL := Hd hl; have HG := Hd hgood; have HLEN := Hd hlen; have H15 := Hd h15; have HDL := Hd hdl; have HE0 := Hd E0; clear hr h0 P0 hn0 hpr hqr hrr hi hl hgood hlen h15 hdl E0; unfold En.v Sop.v; go_enter Tryz.func20, Tryz.ntmps20; go_upto_region 1 with (fail); rw [HW.out]; go_wp2_with fail
 refine HPR.out.mono ?_; rintro e w1 ⟨va, rfl, a0', ht, hoa⟩; have P1 := P0'.out.turnP HI.out ht; have hi1 : (l.set i ⟨nb, ⟨g0, a0', r.2⟩, ⟨g1, a1, x1⟩, rb, rf, x1⟩)[i]? = some _ := List.getElem?_set_self hil; have E1 := P1.en hi1; obtain ⟨ov1, hn1⟩ := E1.q.node; have hb1 : Below B0 w w1 := ht.chg.below hB0w (fun k o hk => HE0.out.p.low k (.inr hk))
 clear c0 c1 c2 c3 c4; obtain ⟨c0, c1, c2, c3, c4⟩ := E1.ways; simp only at c0 c1 c2 c3 c4 hn1; have HQR1 := Hd (HQR.out ov1 w1 hn1); have hs1 : w.heap.size <= w1.heap.size := ht.chg.size; have HOA := Hd hoa; have HP1 := Hd P1; have HI1 := Hd hi1; have HN1 := Hd hn1; have HB1 := Hd hb1; have HE1 := Hd E1; clear ht hoa P1 hi1 E1 hn1 hb1; go_wp2_with fail
 refine HQR1.out.mono ?_; rintro e w2 ⟨vb, rfl, a1', ht, hob⟩; have P2 := HP1.out.turnQ HI1.out ht; rw [List.set_set] at P2; have hi2 : (l.set i ⟨nb, ⟨g0, a0', r.2⟩, ⟨g1, a1', r.2⟩, rb, rf, x1⟩)[i]? = some _ := List.getElem?_set_self hil; have E2 := P2.en hi2; have hoa2 := own_parts HOA.out (ht.typed HN1.out) (by decide)
 have hb2 : Below B0 w w2 := HB1.out.trans (ht.chg.below (Nat.le_trans hB0w hs1) (fun k o hk => HE1.out.q.low k (.inr hk)))
 clear c0 c1 c2 c3 c4; obtain ⟨c0, c1, c2, c3, c4⟩ := E2.ways; simp only at c0 c1 c2 c3 c4; have hs2 : w1.heap.size <= w2.heap.size := ht.chg.size; have HRR2 := Hd (HRR.out w2 E2.r (by omega))
 have hab : ∀ g, va.ownBlock = some g -> vb.ownBlock ≠ some g := fun g h1 h2 => by
  have := (HOA.out.lt g h1).2; have := (hob.lt g h2).1; omega
 have HAB := Hd hab; have HOA2 := Hd hoa2; have HOB := Hd hob; have HP2 := Hd P2; have HI2 := Hd hi2; have HB2 := Hd hb2; have HE2 := Hd E2; clear ht hob P2 hi2 hoa2 hb2 E2 hab; go_wp2_with fail
 refine HRR2.out.mono ?_; rintro e w3 ⟨vl, rfl, rf', hst, hol⟩; have P3 := HP2.out.turnR HI2.out hst.at_ hst.foot hst.own hst.six; rw [List.set_set] at P3; have hoa3 := own_low (own_parts HOA2.out (hst.typed HE2.out.r) (by decide)) (Nat.le_refl _)
 have hob3 := own_low (own_parts HOB.out (hst.typed HE2.out.r) (by decide)) hs1
 have hb3 : Below B0 w w3 := HB2.out.trans (hst.foot.below (by omega) (fun k o hk => (HE2.out.r.foot_lt hk).1))
 unfold OutR at hol; rw [out_cells] at hoa3 hob3; have hdl' := HE2.out.r.dsLen hst.at_ hst.six; have hall := PAt.alike (i := i) HL.out (Nat.le_succ n) (e := ⟨nb, ⟨g0, a0', r.2⟩, ⟨g1, a1', r.2⟩, rb, rf', r.2⟩) ⟨rfl, rfl, HG.out.ok, HG.out.bd.mono (by omega), by rw [hdl']; exact HDL.out⟩
 have HSE := Hd (sends_outs P3 hn ⟨hoa3, hob3, own_low hol (by omega), HAB.out⟩ HLEN.out HG.out.pks hall hb3 H15.out)
 clear hst hol P3 hoa3 hob3 hb3 hdl' hall c0 c1 c2 c3 c4; go_wp2_with fail
 refine HSE.out.mono ?_; rintro e w4 ⟨rfl, hpost⟩; have HPO := Hd hpost; clear hpost; go_wp2; go_ret
 exact ⟨rfl, HPO.out.from HB00.out⟩
theorem Jc.belowB {B0 : Nat} {w w' : World} (h : Jc w) (hb : Below B0 w w') (hB : 0 < B0) : Jc w' := by
 unfold Jc World.cell? at *; rw [hb.block 0 hB]; exact h
theorem PAt.drew {Bh B0 b n : Nat} {w : World} {f : Nat -> Value} {d : Sd} {F : Nat -> Prop} {l : List En} (h : PAt Bh B0 b n w f d F l) : PAt Bh B0 b n w.drew f d F l := h.below (Below.refl _ _).drew
theorem Outs.below {B : Nat} {w w' : World} {ps : List Pk} {va vb vl : Value} (h : Outs B w ps va vb vl) (hb : Below w.heap.size w w') : Outs B w' ps va vb vl := ⟨Ks h.a hb, Ks h.b hb, Ks h.l hb, h.ab⟩
theorem onNode_join {Bh B0 b n : Nat} {w00 : World} {f : Nat -> Value} {d : Sd} {F : Nat -> Prop} {l : List En} (h00 : PAt Bh B0 b n w00 f d F l) (hn : n <= 100000) (hl : ∀ e ∈ l, Alike n e) (hg : Jc w00) (hBp : 0 < B0) {i : Nat} {e : En} (hi : l[i]? = some e) (o : Sop) (hk : o.kind = 13) :
  Calls Tryz.prog 20 #[.pointer (some ⟨b, 0, none⟩), e.v, o.v] w00 fun e w' => e = .returned (.bool true) /\ Zg B0 b (n + 1) w00 w' := by
 obtain ⟨kind, x, oa, ob, oc, od, oe, s⟩ := o; simp only at hk; subst hk; obtain ⟨w, hw⟩ : ∃ w, w00.alloc (.cells #[.int .i64 13, .int .i64 x, .int .i64 oa, .int .i64 ob, .int .i64 oc, .int .i64 od, .int .i64 oe, .string s] 28) = w := ⟨_, rfl⟩; have hb00 : Below w00.heap.size w00 w := by rw [<- hw]; exact (Below.refl _ _).alloc (Nat.le_refl _) _
 have hx1 : w.heap[w00.heap.size]? = some (.cells #[.int .i64 13, .int .i64 x, .int .i64 oa, .int .i64 ob, .int .i64 oc, .int .i64 od, .int .i64 oe, .string s] 28 (0, 0)) := by rw [<- hw]; exact Kc w00 _
 have y0 : w.cell? ⟨w00.heap.size, 0, none⟩ = some (.int .i64 13) := by rw [Ka hx1]; rfl
 have y2 : w.cell? ⟨w00.heap.size, 2, none⟩ = some (.int .i64 oa) := by rw [Ka hx1]; rfl
 have h0 := h00.below hb00; have hoff : ∀ e ∈ l, ∀ c k, Pc e c k -> k < w00.heap.size := fun e he c k hk => ((h00.e.at_ e he).lt hk).2
 have HX1 := Hd hx1; have HW := Hd hw; have HB00 := Hd (hb00.mono h00.B0w); have HGG := Hd hg; have P0 := h0.base; have hB0w := P0.B0w; have E0 := P0.en hi; have h15 : ∀ g, (f 15).ownBlock = some g -> g < w.heap.size := fun g hg => (P0.s.orow.lt g hg).2
 obtain ⟨hp, hq, hok, hbd, hdl⟩ := hl e (List.mem_of_getElem? hi); have hil := (List.getElem?_eq_some_iff.1 hi).1; have hoff0 := hoff e (List.mem_of_getElem? hi); obtain ⟨nb, ⟨g0, a0, x0⟩, ⟨g1, a1, x1⟩, rb, rf, x⟩ := e; simp only at hp hq hok hbd hdl; subst hp; subst hq; have hgood := good_join hok hbd (by omega) oa
 have hlen := join_len x1 oa; have hpr := fun a ov w hn => join_any hok hbd (by omega) a ov w hn oa
 have hrr := fun w (h : RfAt w B0 rb rf x1) => rjoin_any h hok hbd (by omega) oa
 unfold JoinPost at hpr; obtain ⟨⟨ps, er, x'⟩, hr⟩ : ∃ r, x1.join oa = r := ⟨_, rfl⟩; rw [hr] at hgood hlen; simp only [hr] at hpr hrr; simp only at hgood hlen; obtain ⟨c0, c1, c2, c3, c4⟩ := E0.ways; simp only at c0 c1 c2 c3 c4; have P0' := Hd P0; have HPR := Hd hpr; have HRR := Hd hrr; have HI := Hd hi; have HL := Hd hl; have HG := Hd hgood; have HLEN := Hd hlen; have H15 := Hd h15; have HDL := Hd hdl; have HE0 := Hd E0; have HOFF := Hd hoff0; have HBP := Hd hBp; clear hw hb00 hx1 h00 h0 hg hoff hoff0 hr P0 hpr hrr hi hl hgood hlen h15 hdl E0 hBp; unfold En.v Sop.v; go_enter Tryz.func20, Tryz.ntmps20; go_upto_region 1 with (fail); rw [HW.out]; go_upto_region 6 with (fail); obtain ⟨ov0, hn0⟩ := HE0.out.p.node; have HCON := Hd (fun W (hW : W.heap = w.heap) => HPR.out a0 ov0 W (hn0.keep (fun k _ => by rw [hW])))
 have HN0 := Hd hn0; have hno : ∀ k, Zh a0 x1 k -> k ≠ nb /\ k ≠ g0 /\ k ≠ w00.heap.size := fun k hk => ⟨HE0.out.nbNot (c := 0) HE0.out (.inr hk), fun e => HE0.out.p.free (e ▸ hk), fun e => by have := HOFF.out 0 _ (.inr hk); omega⟩
 have hs : ∀ W : World, (∀ k, k < w.heap.size -> ¬ Zh a0 x1 k -> W.heap[k]? = w.heap[k]?) -> (W.cell? ⟨nb, 0, none⟩ = some (.pointer (some ⟨g0, 0, none⟩)) /\ W.cell? ⟨g0, 0, none⟩ = some (.pointer (some ⟨a0.b, 0, none⟩)) /\ W.cell? ⟨w00.heap.size, 2, none⟩ = some (.int .i64 oa)) := fun W hW => by
  have k1 := hW nb (Kb HE0.out.blk) (fun h => (hno _ h).1 rfl)
  have k2 := hW g0 (Kb HE0.out.p.box) (fun h => (hno _ h).2.1 rfl)
  have k3 := hW _ (Kb HX1.out) (fun h => (hno _ h).2.2 rfl)
  refine ⟨?_, ?_, ?_⟩
  · unfold World.cell?; rw [k1]; exact c0
  · unfold World.cell?; rw [k2]; exact c3
  · unfold World.cell?; rw [k3]; exact y2
 have HS := Hd hs; clear hs hno hn0; go_cut [8, 9] (fun s8 s9 wx => ∃ va a0', va = s8 /\ s9 = errV er /\ Turned va w a0 x1 wx a0' x' /\ Jm wx w.heap.size va ps)
 case first =>
  go_region_held3 (fun w' => w'.cell? ⟨nb, 0, none⟩ = some (.pointer (some ⟨g0, 0, none⟩)) /\ w'.cell? ⟨g0, 0, none⟩ = some (.pointer (some ⟨a0.b, 0, none⟩)) /\ w'.cell? ⟨w00.heap.size, 2, none⟩ = some (.int .i64 oa))
   (first | exact HS.out _ (fun _ _ _ => rfl) | exact HS.out _ (fun k h1 h2 => Kn HT.out.chg k h2 h1))
   ((go_at_call 36; refine (HCON.out _ (by rfl)).mono ?_; rintro e w1 ⟨va, rfl, a0', ht, hoa⟩; have HT : Hid (Turned va w a0 x1 w1 a0' x') := Hd ⟨ht.node, ⟨ht.chg.os, ht.chg.tape, ht.chg.output, ht.chg.size, ht.chg.kept⟩, ht.own, ht.b⟩; have HO : Hid (Jm w1 w.heap.size va ps) := Hd hoa; clear ht hoa))
  all_goals
   go_wp2; go_meet
   case rel => exact ⟨va, a0', rfl, rfl, HT.out, HO.out⟩
 case rest =>
 obtain ⟨va, a0', rfl, rfl, ht, hoa⟩ := hcut; obtain ⟨w1, hwc⟩ : ∃ w1, w1 = wc := ⟨_, rfl⟩; subst hwc; clear HS HCON HN0; have P1 := P0'.out.turnP HI.out ht; have hi1 : (l.set i ⟨nb, ⟨g0, a0', x'⟩, ⟨g1, a1, x1⟩, rb, rf, x1⟩)[i]? = some _ := List.getElem?_set_self hil; have E1 := P1.en hi1; obtain ⟨ov1, hn1⟩ := E1.q.node; have hb1 : Below B0 w w1 := ht.chg.below hB0w (fun k o hk => HE0.out.p.low k (.inr hk))
 have hx1 : w1.heap[w00.heap.size]? = some (.cells #[.int .i64 13, .int .i64 x, .int .i64 oa, .int .i64 ob, .int .i64 oc, .int .i64 od, .int .i64 oe, .string s] 28 (0, 0)) := (Kn ht.chg _ (fun ho => Nat.lt_irrefl _ (HOFF.out 0 _ (.inr ho))) (Kb HX1.out)).trans HX1.out
 clear c0 c1 c2 c3 c4 y0 y2; have y2 : w1.cell? ⟨w00.heap.size, 2, none⟩ = some (.int .i64 oa) := by rw [Ka hx1]; rfl
 obtain ⟨c0, c1, c2, c3, c4⟩ := E1.ways; simp only at c0 c1 c2 c3 c4 hn1; have HCON := Hd (fun W (hW : W.heap = w1.heap) => HPR.out a1 ov1 W (hn1.keep (fun k _ => by rw [hW])))
 have hs1 : w.heap.size <= w1.heap.size := ht.chg.size; have hno : ∀ k, Zh a1 x1 k -> k ≠ nb /\ k ≠ g1 /\ k ≠ w00.heap.size := fun k hk => ⟨E1.nbNot (c := 1) E1 (.inr hk), fun e => E1.q.free (e ▸ hk), fun e => by have := HOFF.out 1 _ (.inr hk); omega⟩
 have hs : ∀ W : World, (∀ k, k < w1.heap.size -> ¬ Zh a1 x1 k -> W.heap[k]? = w1.heap[k]?) -> (W.cell? ⟨nb, 1, none⟩ = some (.pointer (some ⟨g1, 0, none⟩)) /\ W.cell? ⟨g1, 0, none⟩ = some (.pointer (some ⟨a1.b, 0, none⟩)) /\ W.cell? ⟨w00.heap.size, 2, none⟩ = some (.int .i64 oa)) := fun W hW => by
  have k1 := hW nb (Kb E1.blk) (fun h => (hno _ h).1 rfl)
  have k2 := hW g1 (Kb E1.q.box) (fun h => (hno _ h).2.1 rfl)
  have k3 := hW _ (Kb hx1) (fun h => (hno _ h).2.2 rfl)
  refine ⟨?_, ?_, ?_⟩
  · unfold World.cell?; rw [k1]; exact c1
  · unfold World.cell?; rw [k2]; exact c4
  · unfold World.cell?; rw [k3]; exact y2
 have HS := Hd hs; have HOA := Hd hoa; have HP1 := Hd P1; have HI1 := Hd hi1; have HN1 := Hd hn1; have HB1 := Hd hb1; have HE1 := Hd E1; have HXX1 := Hd hx1; clear ht hoa P1 hi1 E1 hn1 hb1 hx1 hs hno; go_upto_region 7 with (fail); go_cut [10, 11] (fun s8 s9 wx => ∃ vb a1', vb = s8 /\ s9 = errV er /\ Turned vb w1 a1 x1 wx a1' x' /\ Jm wx w1.heap.size vb ps)
 case first =>
  go_region_held3 (fun w' => w'.cell? ⟨nb, 1, none⟩ = some (.pointer (some ⟨g1, 0, none⟩)) /\ w'.cell? ⟨g1, 0, none⟩ = some (.pointer (some ⟨a1.b, 0, none⟩)) /\ w'.cell? ⟨w00.heap.size, 2, none⟩ = some (.int .i64 oa))
   (first | exact HS.out _ (fun _ _ _ => rfl) | exact HS.out _ (fun k h1 h2 => Kn HT.out.chg k h2 h1))
   ((go_at_call 36; refine (HCON.out _ (by rfl)).mono ?_; rintro e w2 ⟨vb, rfl, a1', ht, hoa⟩; have HT : Hid (Turned vb w1 a1 x1 w2 a1' x') := Hd ⟨ht.node, ⟨ht.chg.os, ht.chg.tape, ht.chg.output, ht.chg.size, ht.chg.kept⟩, ht.own, ht.b⟩; have HO : Hid (Jm w2 w1.heap.size vb ps) := Hd hoa; clear ht hoa))
  all_goals
   go_wp2; go_meet
   case rel => exact ⟨vb, a1', rfl, rfl, HT.out, HO.out⟩
 case rest =>
 obtain ⟨vb, a1', rfl, rfl, ht, hob⟩ := hcut; obtain ⟨w2, hwc⟩ : ∃ w2, w2 = wc := ⟨_, rfl⟩; subst hwc; clear HS HCON; have P2 := HP1.out.turnQ HI1.out ht; rw [List.set_set] at P2; have hi2 : (l.set i ⟨nb, ⟨g0, a0', x'⟩, ⟨g1, a1', x'⟩, rb, rf, x1⟩)[i]? = some _ := List.getElem?_set_self hil; have E2 := P2.en hi2; have hoa2 := own_parts HOA.out (ht.typed HN1.out) (by decide)
 have hb2 : Below B0 w w2 := HB1.out.trans (ht.chg.below (Nat.le_trans hB0w hs1) (fun k o hk => HE1.out.q.low k (.inr hk)))
 have hx2 : w2.heap[w00.heap.size]? = some (.cells #[.int .i64 13, .int .i64 x, .int .i64 oa, .int .i64 ob, .int .i64 oc, .int .i64 od, .int .i64 oe, .string s] 28 (0, 0)) := (Kn ht.chg _ (fun ho => Nat.lt_irrefl _ (HOFF.out 1 _ (.inr ho))) (Kb HXX1.out)).trans HXX1.out
 clear c0 c1 c2 c3 c4 y2; have y2 : w2.cell? ⟨w00.heap.size, 2, none⟩ = some (.int .i64 oa) := by rw [Ka hx2]; rfl
 obtain ⟨c0, c1, c2, c3, c4⟩ := E2.ways; simp only at c0 c1 c2 c3 c4; have hs2 : w1.heap.size <= w2.heap.size := ht.chg.size
 have hab : ∀ g, va.ownBlock = some g -> vb.ownBlock ≠ some g := fun g h1 h2 => by
  have := (HOA.out.lt g h1).2; have := (hob.lt g h2).1; omega
 have HCON := Hd (fun W (hW : W.heap = w2.heap) => HRR.out W (E2.r.keep (fun k _ => by rw [hW])))
 have hno : ∀ k, RFoot rb rf k -> k ≠ nb /\ k ≠ w00.heap.size := fun k hk => ⟨E2.nbNot (c := 2) E2 hk, fun e => by have := HOFF.out 2 _ hk; omega⟩
 have hs : ∀ W : World, (∀ k, k < w2.heap.size -> ¬ RFoot rb rf k -> W.heap[k]? = w2.heap[k]?) -> (W.cell? ⟨nb, 2, none⟩ = some (.pointer (some ⟨rb, 0, none⟩)) /\ W.cell? ⟨w00.heap.size, 2, none⟩ = some (.int .i64 oa)) := fun W hW => by
  have k1 := hW nb (Kb E2.blk) (fun h => (hno _ h).1 rfl)
  have k3 := hW _ (Kb hx2) (fun h => (hno _ h).2 rfl)
  refine ⟨?_, ?_⟩
  · unfold World.cell?; rw [k1]; exact c2
  · unfold World.cell?; rw [k3]; exact y2
 have HS := Hd hs; have HAB := Hd hab; have HOA2 := Hd hoa2; have HOB := Hd hob; have HP2 := Hd P2; have HI2 := Hd hi2; have HB2 := Hd hb2; have HE2 := Hd E2; clear ht hob P2 hi2 hoa2 hb2 E2 hab hx2 hs hno; go_upto_region 8 with (fail); go_cut [12, 13] (fun s8 s9 wx => ∃ vl rf', vl = s8 /\ s9 = .int .i64 er /\ RSt w2.heap.size B0 rb w2 rf wx rf' x' ps /\ OutR wx w2.heap.size vl ps)
 case first =>
  go_region_held3 (fun w' => w'.cell? ⟨nb, 2, none⟩ = some (.pointer (some ⟨rb, 0, none⟩)) /\ w'.cell? ⟨w00.heap.size, 2, none⟩ = some (.int .i64 oa))
   (first | exact HS.out _ (fun _ _ _ => rfl) | exact HS.out _ (fun k h1 h2 => Kn HT.out.foot k h2 h1))
   ((go_at_call 37; refine (HCON.out _ (by rfl)).mono ?_; rintro e w3 ⟨rf', vl, rfl, ht, hoa⟩; have HT : Hid (RSt w2.heap.size B0 rb w2 rf w3 rf' x' ps) := Hd ⟨ht.at_, ht.out, ⟨ht.chg.os, ht.chg.tape, ht.chg.output, ht.chg.size, ht.chg.kept⟩, ht.own, ht.ownW, ht.six⟩; have HO : Hid (OutR w3 w2.heap.size vl ps) := Hd hoa; clear ht hoa))
  all_goals
   go_wp2; go_meet
   case rel => exact ⟨vl, rf', rfl, rfl, HT.out, HO.out⟩
 case rest =>
 obtain ⟨vl, rf', rfl, rfl, hst, hol⟩ := hcut; obtain ⟨w3, hwc⟩ : ∃ w3, w3 = wc := ⟨_, rfl⟩; subst hwc; clear HS HCON; have P3 := HP2.out.turnR HI2.out hst.at_ hst.foot hst.own hst.six; rw [List.set_set] at P3; have hs3 : w2.heap.size <= w3.heap.size := hst.chg.size; have hoa3 := own_low (own_parts HOA2.out (hst.typed HE2.out.r) (by decide)) (Nat.le_refl _)
 have hob3 := own_low (own_parts HOB.out (hst.typed HE2.out.r) (by decide)) hs1
 have hb3 : Below B0 w w3 := HB2.out.trans (hst.foot.below (by omega) (fun k o hk => (HE2.out.r.foot_lt hk).1))
 unfold OutR at hol; rw [out_cells] at hoa3 hob3; have hdl' := HE2.out.r.dsLen hst.at_ hst.six; have hall := PAt.alike (i := i) HL.out (Nat.le_succ n) (e := ⟨nb, ⟨g0, a0', x'⟩, ⟨g1, a1', x'⟩, rb, rf', x'⟩) ⟨rfl, rfl, HG.out.ok, HG.out.bd.mono (by omega), by rw [hdl']; exact HDL.out⟩
 have ho3 : Outs w.heap.size w3 ps va vb vl := ⟨hoa3, hob3, own_low hol (by omega), HAB.out⟩
 have hg3 : Jc w3 := HGG.out.belowB (HB00.out.trans hb3) HBP.out; have HO3 := Hd ho3; have HP3 := Hd P3; have HALL := Hd hall; have HB3 := Hd hb3; have HG3 := Hd hg3; clear hst hol P3 hoa3 hob3 hb3 hdl' hall c0 c1 c2 c3 c4 y2 ho3 hg3; go_wp2_with fail
 refine (told_any er w3 HG3.out).mono ?_; rintro e w4 ⟨rfl, hb4⟩; have HB4 := Hd hb4; clear hb4; go_wp2_with fail
 refine (told_any er w4 (HG3.out.below HB4.out)).mono ?_; rintro e w5 ⟨rfl, hb5⟩; have hb35 : Below w3.heap.size w3 w5 := HB4.out.trans (hb5.mono HB4.out.size); have HSE := Hd (sends_outs (HP3.out.below hb35) hn (HO3.out.below hb35) HLEN.out HG.out.pks HALL.out (HB3.out.trans (hb35.mono HP3.out.B0w)) H15.out); clear hb5 hb35; go_wp2_with fail
 refine HSE.out.mono ?_; rintro e w6 ⟨rfl, hpost⟩; have HPO := Hd hpost; clear hpost; go_wp2; go_ret
 exact ⟨rfl, HPO.out.from HB00.out⟩
theorem PAt.mono {Bh B0 b n m : Nat} {w : World} {f : Nat -> Value} {d : Sd} {F : Nat -> Prop} {l : List En} (h : PAt Bh B0 b n w f d F l) (hn : n <= m) : PAt Bh B0 b m w f d F l := { h with s := h.s.mono hn, len := Nat.le_trans h.len hn }
theorem Zg.of {Bh B0 b n : Nat} {w0 w : World} {f : Nat -> Value} {d : Sd} {F : Nat -> Prop} {l : List En} (h : PAt Bh B0 b n w f d F l) (hl : ∀ e ∈ l, Alike (n + 1) e) (hb : Below B0 w0 w) : Zg B0 b (n + 1) w0 w := ⟨hb, f, d, F, l, (h.mono (Nat.le_succ n)).base, hl⟩
theorem onNode_leave {Bh B0 b n : Nat} {w00 : World} {f : Nat -> Value} {d : Sd} {F : Nat -> Prop} {l : List En} (h00 : PAt Bh B0 b n w00 f d F l) (hn : n <= 100000) (hl : ∀ e ∈ l, Alike n e) {i : Nat} {e : En} (hi : l[i]? = some e) (hg : Jc w00) (hBp : 0 < B0) (o : Sop) (hk : o.kind = 14) :
  Calls Tryz.prog 20 #[.pointer (some ⟨b, 0, none⟩), e.v, o.v] w00 fun e w' => e = .returned (.bool true) /\ Zg B0 b (n + 1) w00 w' := by
 obtain ⟨kind, x, oa, ob, oc, od, oe, s⟩ := o; simp only at hk; subst hk; obtain ⟨w, hw⟩ : ∃ w, w00.alloc (.cells #[.int .i64 14, .int .i64 x, .int .i64 oa, .int .i64 ob, .int .i64 oc, .int .i64 od, .int .i64 oe, .string s] 28) = w := ⟨_, rfl⟩; have hb00 : Below w00.heap.size w00 w := by rw [<- hw]; exact (Below.refl _ _).alloc (Nat.le_refl _) _
 have hx1 : w.heap[w00.heap.size]? = some (.cells #[.int .i64 14, .int .i64 x, .int .i64 oa, .int .i64 ob, .int .i64 oc, .int .i64 od, .int .i64 oe, .string s] 28 (0, 0)) := by rw [<- hw]; exact Kc w00 _
 have y0 : w.cell? ⟨w00.heap.size, 0, none⟩ = some (.int .i64 14) := by rw [Ka hx1]; rfl
 have h0 := h00.below hb00; have HW := Hd hw; have HB00 := Hd (hb00.mono h00.B0w); clear hw hb00 hx1 h00; have P0 := h0.base; have hB0w := P0.B0w; have E0 := P0.en hi; have h15 : ∀ g, (f 15).ownBlock = some g -> g < w.heap.size := fun g hg => (P0.s.orow.lt g hg).2
 obtain ⟨hp, hq, hok, hbd, hdl⟩ := hl e (List.mem_of_getElem? hi); have hil := (List.getElem?_eq_some_iff.1 hi).1; obtain ⟨nb, ⟨g0, a0, x0⟩, ⟨g1, a1, x1⟩, rb, rf, x⟩ := e; simp only at hp hq hok hbd hdl; subst hp; subst hq; have hgo := ok_leave hok; have hgb := bd_leave hbd; obtain ⟨ov0, hn0⟩ := E0.p.node; have hpr := leave_any hok hbd (by omega) a0 ov0 w hn0
 have hqr := fun ov w hn => leave_any hok hbd (by omega) a1 ov w hn
 have hrr := fun w (h : RfAt w B0 rb rf x1) => rleave_any h hok hbd (by omega)
 obtain ⟨r, hr⟩ : ∃ r, x1.leave = r := ⟨_, rfl⟩; rw [hr] at hgo hgb hpr; simp only [hr] at hqr hrr; obtain ⟨c0, c1, c2, c3, c4⟩ := E0.ways; simp only at c0 c1 c2 c3 c4; have P0' := Hd P0; have HN0 := Hd hn0; have HPR := Hd hpr; have HQR := Hd hqr; have HRR := Hd hrr; have HI := Hd hi; have HL := Hd hl; have HGO := Hd hgo; have HGB := Hd hgb; have HGG := Hd hg; have HBP := Hd hBp; have H15 := Hd h15; have HDL := Hd hdl; have HE0 := Hd E0; clear hr h0 P0 hn0 hpr hqr hrr hi hl hgo hgb hg hBp h15 hdl E0; unfold En.v Sop.v; go_enter Tryz.func20, Tryz.ntmps20; go_upto_region 1 with (fail); rw [HW.out]; go_wp2_with fail
 refine HPR.out.mono ?_; rintro e w1 ⟨rfl, a0', ht⟩; have P1 := P0'.out.turnP HI.out ht; have hi1 : (l.set i ⟨nb, ⟨g0, a0', r.2⟩, ⟨g1, a1, x1⟩, rb, rf, x1⟩)[i]? = some _ := List.getElem?_set_self hil; have E1 := P1.en hi1; obtain ⟨ov1, hn1⟩ := E1.q.node; have hb1 : Below B0 w w1 := ht.chg.below hB0w (fun k o hk => HE0.out.p.low k (.inr hk))
 clear c0 c1 c2 c3 c4; obtain ⟨c0, c1, c2, c3, c4⟩ := E1.ways; simp only at c0 c1 c2 c3 c4 hn1; have HQR1 := Hd (HQR.out ov1 w1 hn1); have hs1 : w.heap.size <= w1.heap.size := ht.chg.size; have HP1 := Hd P1; have HI1 := Hd hi1; have HN1 := Hd hn1; have HB1 := Hd hb1; have HE1 := Hd E1; clear ht P1 hi1 E1 hn1 hb1; go_wp2_with fail
 refine HQR1.out.mono ?_; rintro e w2 ⟨rfl, a1', ht⟩; have P2 := HP1.out.turnQ HI1.out ht; rw [List.set_set] at P2; have hi2 : (l.set i ⟨nb, ⟨g0, a0', r.2⟩, ⟨g1, a1', r.2⟩, rb, rf, x1⟩)[i]? = some _ := List.getElem?_set_self hil; have E2 := P2.en hi2; have hb2 : Below B0 w w2 := HB1.out.trans (ht.chg.below (Nat.le_trans hB0w hs1) (fun k o hk => HE1.out.q.low k (.inr hk)))
 clear c0 c1 c2 c3 c4; obtain ⟨c0, c1, c2, c3, c4⟩ := E2.ways; simp only at c0 c1 c2 c3 c4; have hs2 : w1.heap.size <= w2.heap.size := ht.chg.size; have HRR2 := Hd (HRR.out w2 E2.r); have HP2 := Hd P2; have HI2 := Hd hi2; have HB2 := Hd hb2; have HE2 := Hd E2; clear ht P2 hi2 hb2 E2; go_wp2_with fail
 refine HRR2.out.mono ?_; rintro e w3 ⟨rfl, rf', hst⟩; have hft : Chg (fun k _ => RFoot rb rf k) w2 w3 := hst.chg.mono (fun _ _ _ h => h.foot)
 have P3 := HP2.out.turnR HI2.out hst.at_ hft hst.own hst.six; rw [List.set_set] at P3; have hb3 : Below B0 w w3 := HB2.out.trans (hft.below (by omega) (fun k o hk => (HE2.out.r.foot_lt hk).1))
 have hdl' := HE2.out.r.dsLen hst.at_ hst.six; have hall := PAt.alike (i := i) HL.out (Nat.le_succ n) (e := ⟨nb, ⟨g0, a0', r.2⟩, ⟨g1, a1', r.2⟩, rb, rf', r.2⟩) ⟨rfl, rfl, HGO.out, HGB.out.mono (by omega), by rw [hdl']; exact HDL.out⟩
 have HP3 := Hd P3; have HB3 := Hd hb3; have HALL := Hd hall; have HG3 := Hd (HGG.out.belowB (HB00.out.trans hb3) HBP.out); clear hst hft P3 hb3 hdl' hall c0 c1 c2 c3 c4; go_wp2_with fail
 refine (told_any r.1 w3 HG3.out).mono ?_; rintro e w4 ⟨rfl, hb4⟩; have HB4 := Hd hb4; clear hb4; go_wp2_with fail
 refine (told_any r.1 w4 (HG3.out.below HB4.out)).mono ?_; rintro e w5 ⟨rfl, hb5⟩; have hb35 : Below w3.heap.size w3 w5 := HB4.out.trans (hb5.mono HB4.out.size); have HPO := Hd (Zg.of (HP3.out.below hb35) HALL.out (HB00.out.trans (HB3.out.trans (hb35.mono HP3.out.B0w)))); clear hb5 hb35; go_wp2; go_ret
 exact ⟨rfl, HPO.out⟩
def SQK (B0 b Bh : Nat) (k : Nat) (o : Obj) : Prop := SQ B0 b k o \/ (Bh <= k /\ ∃ c fr, o = .cells c 76 fr)
theorem keeps_any (B0 b n : Nat) (w : World) (f : Nat -> Value) (d : Sd) (h : SAt B0 b n w f d) (hn : n <= 100000) (Bh : Nat) (hBh : B0 <= Bh) (hBw : Bh <= w.heap.size)
  (hheld : ∀ (i : Nat) v u, d.xs[i]? = some v -> d.ys[i]? = some u -> HeldK Bh w v u) (L : List K) (nu : Nat) (hnu : nu <= 90) (la : Option Addr) (lc : Nat) (hrow : w.ownsRow Bh 76 3 (.slice la nu lc) nu (Kd L)) :
  Calls Tryz.prog 15 #[.pointer (some ⟨b, 0, none⟩), .slice la nu lc] w fun e w' => e = .returned (.tuple #[]) /\ ∃ f' d', SAt B0 b (n + 1) w' f' d' /\ K14 w f f' /\ Chg (SQK B0 b Bh) w w' := by
 have hln := h.ln; have hmb := h.mb; refine (keep_any b f (f 16) (f 17) d.xs d.ys d.xs.length d.mark L la nu lc B0 Bh w h.blk rfl rfl h.m20 h.lx h.ly h.lne (by omega) (by omega) (by omega) (by omega) hBw hrow).mono ?_
 rintro e w6 ⟨lv, wv, v2, u1, u2, rfl, hblk6, hlx6, hly6, hne6, hh1, hh2, hcF⟩
 have hT : ∀ k o, w.heap[k]? = some o -> (k = b \/ (f 16).ownBlock = some k \/ (f 17).ownBlock = some k \/ (Value.slice la nu lc).ownBlock = some k \/ w.heap.size <= k) -> B0 <= k /\ ∃ cs t fr, o = .cells cs t fr /\ (t ∈ [41, 46] \/ t = 76 /\ Bh <= k) := by
  intro k o hk hs; rcases hs with rfl | hs | hs | hs | hs
  · obtain ⟨cs, hb⟩ := h.blk.block
    rw [hb] at hk; cases hk; exact ⟨h.hB, _, _, _, rfl, .inl (by simp)⟩
  · obtain ⟨hB, cur, hg⟩ := Ke h.lx hs
    rw [hg] at hk; cases hk; exact ⟨hB, _, _, _, rfl, .inl (by simp)⟩
  · obtain ⟨hB, cur, hg⟩ := Ke h.ly hs
    rw [hg] at hk; cases hk; exact ⟨hB, _, _, _, rfl, .inl (by simp)⟩
  · obtain ⟨hB, cur, hg⟩ := Ke hrow hs
    rw [hg] at hk; cases hk; exact ⟨Nat.le_trans hBh hB, _, _, _, rfl, .inr ⟨rfl, hB⟩⟩
  · have := Kb hk; omega
 have KK := h.kept (T := [41, 46, 76]) hcF (fun k o hk hs => by
  obtain ⟨_, cs, t, fr, e, ht⟩ := hT k o hk hs; exact ⟨cs, t, fr, e, by simp only [List.mem_cons, List.not_mem_nil, or_false] at ht ⊢; rcases ht with (ht | ht) | ⟨ht, _⟩ <;> simp [ht]⟩)
 have hyl : d.ys.length = d.xs.length := by have := h.ly.1; omega
 have hxs : (d.xs ++ [.slice la nu lc, v2]).length = d.xs.length + 2 := by simp
 obtain ⟨la6, lc6, e16⟩ := Kg hlx6; obtain ⟨wa6, wc6, e17⟩ := Kg hly6; obtain ⟨G, hG⟩ : ∃ G, upd (upd (upd f 16 lv) 17 wv) 20 (.int .i64 (d.mark + nu + 2)) = G := ⟨_, rfl⟩; rw [hG] at hblk6; have g16 : G 16 = lv := by rw [<- hG]; simp [upd]
 have g17 : G 17 = wv := by rw [<- hG]; simp [upd]
 have g20 : G 20 = .int .i64 (d.mark + nu + 2) := by rw [<- hG]; simp [upd]
 have hS := h.turnL (d' := { d with xs := d.xs ++ [.slice la nu lc, v2], ys := d.ys ++ [u1, u2], mark := d.mark + nu + 2 }) KK hblk6
  (fun i _ h16 h17 h20 => by rw [<- hG]; simp [upd, h16, h17, h20]) rfl rfl rfl rfl rfl rfl (by decide) (by decide) (by decide) (by decide) (by decide) (by decide)
  ⟨la6, lc6, by rw [g16, e16, hxs]⟩ ⟨wa6, wc6, by rw [g17, e17, hxs]⟩ (by rw [g16, hxs]; exact hlx6) (by rw [g17, hxs]; exact hly6) (by rw [hxs]; omega) (by rw [g16, g17]; exact hne6)
  (fun i v u hv hu => by
   by_cases hi : i < d.xs.length
   · rw [List.getElem?_append_left hi] at hv
     rw [List.getElem?_append_left (by omega)] at hu
     refine ((hheld i v u hv hu).chg hcF (fun k cs fr hk hck hs => ?_)).mono (Nat.le_trans hBw hcF.size)
     obtain ⟨_, cs', t', fr', eo, ht'⟩ := hT k _ hck hs; simp only [Obj.cells.injEq] at eo; rw [<- eo.2.1] at ht'; rcases ht' with ht' | ⟨_, ht'⟩
     · exact absurd ht' (by decide)
     · omega
   · rw [List.getElem?_append_right (by omega)] at hv
     rw [List.getElem?_append_right (by omega), hyl] at hu
     obtain ⟨j, hj⟩ : ∃ j, i - d.xs.length = j := ⟨_, rfl⟩; rw [hj] at hv hu; rcases j with _ | _ | j
     · simp only [List.getElem?_cons_zero, Option.some.injEq] at hv hu; rw [<- hv, <- hu]; exact hh1
     · simp only [List.getElem?_cons_succ, List.getElem?_cons_zero, Option.some.injEq] at hv hu; rw [<- hv, <- hu]; exact hh2
     · simp at hv)
  g20 (by show 0 <= d.mark + (nu : Int) + 2 /\ d.mark + (nu : Int) + 2 <= 100 * ((n + 1 : Nat) : Int); omega)
 refine ⟨rfl, G, _, hS, K14.same (by rw [<- hG]; simp [upd]) (by rw [<- hG]; simp [upd]) (by rw [<- hG]; simp [upd]), hcF.os, hcF.tape, hcF.output, hcF.size, fun k o hk hs => hcF.kept k o hk (fun h => hs ?_)⟩
 obtain ⟨hB, cs, t', fr, eo, ht'⟩ := hT k o hk h; rcases ht' with ht' | ⟨rfl, ht'⟩
 · refine .inl ⟨hB, .inr ⟨cs, t', fr, eo, ?_⟩⟩
   simp only [List.mem_cons, List.not_mem_nil, or_false] at ht'; rcases ht' with rfl | rfl <;> simp [Zb]
 · exact .inr ⟨ht', cs, fr, eo⟩
theorem ok_drained {x : Nd} (h : Ok x) (m : Int) : Ok (x.drained m) :=
 { h with evs := Nat.le_trans (by show (x.events.drop _).length <= _; simp) h.evs, ekey := fun k hk => h.ekey k (List.mem_of_mem_drop hk) }
theorem keyCells_split (l : List K) (k : Nat) : Kd l = Kd (l.take k) ++ Kd (l.drop k) := by
 unfold Kd; rw [<- List.flatMap_append, List.take_append_drop]
theorem und_rkeys : Tryz.prog.underlying 31 = some (.slice (Tryz.prog.elem 31)) := by kernel_rfl
theorem size_rkey (W : World) : (sizeOf (Tryz.prog.elem 31)).run Tryz.prog W = .ok 3 W := by kernel_rfl
theorem slice_first (a : Option Addr) (m c k : Nat) (hk : k <= c) (ha : a.map (·.add 0) = a) (W : World) : (Instr.slice 31 (.slice a m c) none (some (.int .i64 (k : Int))) none).run Tryz.prog W = .ok (.slice a k c) W := by
 rw [run_slice_h (P := Tryz.prog) (t := 31) (a := a) (len := m) (cap := c) (ht := und_rkeys) (kh := .i64) (h := (k : Int)) (h0 := by omega) (h2 := by omega), size_rkey]
 simp only [Result.andThen, sliced, Nat.zero_mul, Int.toNat_natCast, Nat.sub_zero, ha, ite_self]
theorem slice_rest (a : Option Addr) (m c k : Nat) (hk : k <= m) (W : World) : (Instr.slice 31 (.slice a m c) (some (.int .i64 (k : Int))) none none).run Tryz.prog W = .ok (.slice (if c = k then a else a.map (·.add (k * 3))) (m - k) (c - k)) W := by
 rw [run_slice_l (P := Tryz.prog) (t := 31) (a := a) (len := m) (cap := c) (ht := und_rkeys) (kl := .i64) (l := (k : Int)) (h0 := by omega) (h1 := by omega), size_rkey]
 simp only [Result.andThen, sliced, Int.toNat_natCast]
theorem cells_first {w : World} {a : Option Addr} {l : List K} (h : Ki w a (Kd l)) (k : Nat) : Ki w a (Kd (l.take k)) := fun j v hj => h j v (by
 rw [keyCells_split l k, List.getElem?_append_left (List.getElem?_eq_some_iff.1 hj).1]; exact hj)
theorem cells_rest {w : World} {B m c k : Nat} {a : Option Addr} {l : List K} (h : w.ownsRow B 58 3 (.slice a m c) m (Kd l)) (hl : l.length = m) (hk : k <= m) : Ki w (if c = k then a else a.map (·.add (k * 3))) (Kd (l.drop k)) := by
 by_cases hd : l.drop k = []
 · rw [hd]; intro j v hj; simp [Kd] at hj
 · have hkm : k < m := by
    rcases Nat.lt_or_ge k m with h1 | h1
    · exact h1
    · exact absurd (List.drop_of_length_le (by omega)) hd
   rcases h.2 with ⟨e, _⟩ | ⟨g, cap, cur, e, _, _, hc, _⟩
   · simp only [Value.slice.injEq] at e; omega
   · simp only [Value.slice.injEq] at e
     obtain ⟨rfl, _, rfl⟩ := e; rw [if_neg (by omega)]
     have hx : (Kd (l.take k)).length = k * 3 := by rw [Jt, List.length_take]; omega
     have ea : (some (⟨g, 0, none⟩ : Addr)).map (·.add (k * 3)) = some ⟨g, k * 3, none⟩ := by simp [Addr.add]; omega
     rw [ea]; exact Ki.part (B := B) (e := 58) (s := 3) (n := m) (c := c) (xs := Kd (l.take k)) (zs := []) (by rw [List.append_nil, <- keyCells_split]; exact h) hx
theorem drained_any {Bh B0 b n : Nat} {w : World} {f : Nat -> Value} {d : Sd} {F : Nat -> Prop} {l : List En} (h0 : PAt Bh B0 b n w f d F l) (hl : ∀ e ∈ l, Alike n e) {i : Nat} {e : En} (hi : l[i]? = some e) (most : Int) :
  Calls Tryz.prog 43 #[e.v, .int .i64 most] w fun r w' => ∃ va kk L, r = .returned (.tuple #[va, .bool true]) /\ kk <= 8 /\ w'.ownsRow w.heap.size 76 3 va kk (Kd L) /\ Below B0 w w' /\ ∃ l', PAt w.heap.size B0 b n w' f d F l' /\ ∀ e ∈ l', Alike n e := by
 have P0 := h0.base; have hB0w := P0.B0w; have E0 := P0.en hi; obtain ⟨hp, hq, hok, hbd, hdl⟩ := hl e (List.mem_of_getElem? hi); have hil := (List.getElem?_eq_some_iff.1 hi).1; obtain ⟨nb, ⟨g0, a0, x0⟩, ⟨g1, a1, x1⟩, rb, rf, x⟩ := e; simp only at hp hq hok hbd hdl; subst hp; subst hq; have hev := hok.evs; obtain ⟨ov0, hn0⟩ := E0.p.node; have hpr := drain_any hev a0 ov0 g0 w hn0 E0.p.box E0.p.free most; have hqr := fun ov w hn hb hf => drain_any hev a1 ov g1 w hn hb hf most
 obtain ⟨c0, c1, c2, c3, c4⟩ := E0.ways; simp only at c0 c1 c2 c3 c4; obtain ⟨kk, hkk⟩ : ∃ kk, drN x1 most = kk := ⟨_, rfl⟩; obtain ⟨m, hm⟩ : ∃ m, x1.events.length = m := ⟨_, rfl⟩; have hkv : kk = min most.toNat m := by rw [<- hkk, <- hm]; rfl
 have hkm : kk <= m := by omega
 have hod := ok_drained hok most; rw [hkk] at hpr; simp only [hkk] at hqr; obtain ⟨x', hx'⟩ : ∃ x', x1.drained most = x' := ⟨_, rfl⟩; have hxe : x' = { x1 with events := x1.events.drop kk } := by rw [<- hx', <- hkk]; rfl
 rw [hx'] at hpr hod; simp only [hx'] at hqr; have P0' := Hd P0; have HN0 := Hd hn0; have HPR := Hd hpr; have HQR := Hd hqr; have HI := Hd hi; have HL := Hd hl; have HM := Hd hm; have HKV := Hd hkv; have HOD := Hd hod; have HBD := Hd hbd; have HXE := Hd hxe; have HDL := Hd hdl; have HE0 := Hd E0; rw [hm] at hev; clear h0 P0 hn0 hpr hqr hi hl hm hkv hod hbd hxe hdl E0 hkk hx' hok; unfold En.v; go_enter Tryz.func43, Tryz.ntmps43; go_wp2_with fail
 refine HPR.out.mono ?_; rintro e w1 ⟨va, rfl, hoa, ht⟩; have P1 := P0'.out.turnP HI.out ht; have hi1 : (l.set i ⟨nb, ⟨g0, a0, x'⟩, ⟨g1, a1, x1⟩, rb, rf, x1⟩)[i]? = some _ := List.getElem?_set_self hil; have E1 := P1.en hi1; obtain ⟨ov1, hn1⟩ := E1.q.node; have hb1 : Below B0 w w1 := ht.chg.below hB0w (fun k o hk => HE0.out.p.low k (.inr hk))
 clear c0 c1 c2 c3 c4; obtain ⟨c0, c1, c2, c3, c4⟩ := E1.ways; simp only at c0 c1 c2 c3 c4 hn1; have HQR1 := Hd (HQR.out ov1 w1 hn1 E1.q.box E1.q.free); have hs1 : w.heap.size <= w1.heap.size := ht.chg.size; have HOA := Hd hoa; have HP1 := Hd P1; have HI1 := Hd hi1; have HN1 := Hd hn1; have HB1 := Hd hb1; have HE1 := Hd E1; clear ht hoa P1 hi1 E1 hn1 hb1; go_wp2_with fail
 refine HQR1.out.mono ?_; rintro e w2 ⟨vb, rfl, hob, ht⟩; have P2 := HP1.out.turnQ HI1.out ht; rw [List.set_set] at P2; have hi2 : (l.set i ⟨nb, ⟨g0, a0, x'⟩, ⟨g1, a1, x'⟩, rb, rf, x1⟩)[i]? = some _ := List.getElem?_set_self hil; have E2 := P2.en hi2; have hoa2 := own_parts HOA.out (ht.typed HN1.out) (by decide)
 have hb2 : Below B0 w w2 := HB1.out.trans (ht.chg.below (Nat.le_trans hB0w hs1) (fun k o hk => HE1.out.q.low k (.inr hk)))
 have hs2 : w1.heap.size <= w2.heap.size := ht.chg.size; clear c0 c1 c2 c3 c4; obtain ⟨ea, ec, e22⟩ := Kg E2.r.evs; have hrow := E2.r.evs; rw [e22, HM.out] at hrow; simp only at e22 hrow; rw [HM.out] at e22
 have hmc : m <= ec := by
  rcases hrow.2 with ⟨e, e'⟩ | ⟨g, cap, cur, e, _, _, hc, _⟩
  · omega
  · simp only [Value.slice.injEq] at e; omega
 have hadd : ea.map (·.add 0) = ea := by cases ea <;> rfl
 have hf1 := slice_first ea m ec kk (by have := HKV.out; omega) hadd
 have hf2 := slice_rest ea m ec kk (by have := HKV.out; omega)
 have hcf := cells_first (Ki.row hrow) kk; have hcr := cells_rest hrow HM.out (k := kk) (by have := HKV.out; omega)
 obtain ⟨eb, heb⟩ : ∃ eb, (if ec = kk then ea else ea.map (·.add (kk * 3))) = eb := ⟨_, rfl⟩; simp only [heb] at hf2; rw [heb] at hcr; obtain ⟨la, lc, rfl⟩ := Kg hoa2; obtain ⟨lb, lbc, rfl⟩ := Kg hob; have hk1 := (Ki.row hoa2).keys; have hk2 := (Ki.row hob).keys; have hkt : (x1.events.take kk).length = kk := by rw [List.length_take, HM.out]; have := HKV.out; omega
 have hsame1 := keys_same (x1.events.take kk) la ea kk lc ec w2 hkt (by omega) hk1 hcf.keys
 have HCF := Hd hcf; have HCR := Hd hcr; have HK2 := Hd hk2; have HKT := Hd hkt; have HSAME1 := Hd hsame1; have HF1 := Hd hf1; have HF2 := Hd hf2; have HOA2 := Hd hoa2; have HP2 := Hd P2; have HI2 := Hd hi2; have HB2 := Hd hb2; have HE2 := Hd E2; have E22 := Hd e22; have hc := E2.ways; obtain ⟨c0, c1, c2, c3, c4⟩ := hc; simp only at c0 c1 c2 c3 c4; have c15 : w2.cell? ⟨rb, 22, none⟩ = some (.slice ea m ec) := by rw [<- e22]; exact E2.r.blk.cell (by omega)
 clear ht hob P2 hi2 hoa2 hb2 E2 hrow hcf hcr hk1 hk2 hsame1 heb hadd hf1 hf2 e22 hkt; go_upto_if 35 with (fail); go_cut [8] (fun s8 wx => ∃ k1 : Int, s8 = .int .i64 k1 /\ k1 = min most m /\ wx = w2)
 case first =>
  by_cases hlt : most < m
  · go_wp2
    go_meet
    case rel => exact ⟨_, rfl, by omega, rfl⟩
  · go_wp2
    go_meet
    case rel => exact ⟨_, rfl, by omega, rfl⟩
 case rest =>
 obtain ⟨k1, rfl, hk1, hwx⟩ := hcut; rw [hwx]; clear hwx; have HK1 := Hd hk1; clear hk1; go_upto_if 38 with (fail); go_cut [8] (fun s8 wx => s8 = .int .i64 (kk : Int) /\ wx = w2)
 case first =>
  have hk1 := HK1.out; have hkv := HKV.out; by_cases hlt : k1 < 0
  · have h0 : kk = 0 := by omega
    subst h0; clear hk1 hkv; go_wp2; go_meet
    case rel => exact ⟨rfl, rfl⟩
  · have h0 : k1 = (kk : Int) := by omega
    subst h0; clear hk1 hkv; go_wp2; go_meet
    case rel => exact ⟨rfl, rfl⟩
 case rest =>
 obtain ⟨rfl, hwx⟩ := hcut; rw [hwx]; clear hwx; have f1 := HF1.out w2; go_wp2_with fail
 refine HSAME1.out.mono ?_; rintro e w3 ⟨rfl, hb3⟩; have hk2 := ((HK2.out.cells).below hb3).keys; have HSAME2 := Hd (keys_same (x1.events.take kk) lb ea kk lbc ec w3 HKT.out (by omega) hk2 (HCF.out.below hb3).keys)
 have HB3 := Hd hb3; clear hb3 hk2 f1; go_wp2_with fail
 refine HSAME2.out.mono ?_; rintro e w4 ⟨rfl, hb4⟩; have hb24 : Below w2.heap.size w2 w4 := HB3.out.trans (hb4.mono HB3.out.size); clear hb4 c0 c1 c2 c3 c4 c15; have E4 := (HP2.out.below hb24).en HI2.out; obtain ⟨c0, c1, c2, c3, c4⟩ := E4.ways; simp only at c0 c1 c2 c3 c4; have c15 : w4.cell? ⟨rb, 22, none⟩ = some (.slice ea m ec) := by rw [<- E22.out]; exact E4.r.blk.cell (by omega)
 have f2 := HF2.out w4; have hs4 : w2.heap.size <= w4.heap.size := hb24.size; obtain ⟨i0, hi, hz0, hz1, hz2⟩ := info_parts info_rkey; have hdl : (x1.events.drop kk).length = m - kk := by rw [List.length_drop, HM.out]
 have hkl : (Kd (x1.events.drop kk)).length = (m - kk) * 3 := by rw [Jt, hdl]; omega
 have HDLN := Hd hdl; have HKL := Hd hkl; have HCR4 := Hd (HCR.out.below hb24); have k3 : 0 + (m - kk) <= maxLen := by unfold maxLen; omega
 have K3 := Hd k3
 have H1C : Hid (∀ u ∈ Kd (x1.events.drop kk), u.oneCell' = true) := Hd (fun u hu => by
  unfold Kd at hu; obtain ⟨k, _, hu⟩ := List.mem_flatMap.1 hu; simp only [List.mem_cons, List.not_mem_nil, or_false] at hu; rcases hu with rfl | rfl | rfl <;> rfl)
 have HB24 := Hd hb24; have HE4 := Hd E4; clear hdl hkl k3 hb24 E4; go_wp2_with (at_builtin; refine Km _ rfl _ _ 31 rfl w4.heap.size 58 i0 _ 3 24 Tryz.underlying31 hi hz0 hz1 hz2 rfl (by decide) (.slice none 0 0) 0 [] rfl (World.ownsRow_nil _ _ _ _) eb (m - kk) (ec - kk) _ rfl HKL.out HCR4.out H1C.out K3.out (by omega) (Nat.le_refl _) ?_)
 intro a7 c7 w5 hl5 hto5
 try simp only [Nat.zero_add, List.nil_append] at hl5
 have hb45 : Below w4.heap.size w4 w5 := (Below.refl w4.heap.size w4).grown hto5.grown (Nat.le_refl _) (fun j hj => by cases hj)
 have hs5 : w4.heap.size <= w5.heap.size := hb45.size; have hr5 := HE4.out.r.below hb45; have hset := hr5.setEvents (l := x1.events.drop kk) (v := .slice a7 (m - kk) c7) (own_low (by rw [HDLN.out]; exact hl5) (by omega))
 have c2' : w5.cell? ⟨nb, 2, none⟩ = some (.pointer (some ⟨rb, 0, none⟩)) := (hb45.cell (World.block_lt_of_cell? _ _ c2)).trans c2; have f22 := hr5.blk.free 22; have c22 := hr5.blk.cell (i := 22) (by omega)
 have hc6 : Chg (fun k _ => RFoot rb rf k) w4 (w5.setCell ⟨rb, 22, none⟩ (.slice a7 (m - kk) c7)) :=
  ((Chg.refl _ w4).trans ⟨hb45.os, hb45.tape, hb45.output, hb45.size, fun k _ hk _ => (hb45.block k (Kb hk)).trans hk⟩).setCell _ (fun _ _ => .inl rfl)
 have hP6 := (HP2.out.below HB24.out).turnR HI2.out hset hc6 (fun k hk => (upd_foot hk).imp id (fun e => (hl5.lt k e).1)) (Kh _ _ _ (by omega))
 rw [List.set_set] at hP6; have hall := PAt.alike (i := i) HL.out (Nat.le_refl n) (e := ⟨nb, ⟨g0, a0, x'⟩, ⟨g1, a1, x'⟩, rb, upd rf 22 (.slice a7 (m - kk) c7), { x1 with events := x1.events.drop kk }⟩) ⟨HXE.out, HXE.out, by rw [<- HXE.out]; exact HOD.out, ⟨HBD.out.clock, HBD.out.seq, HBD.out.dropped, HBD.out.lost, HBD.out.at_⟩, HDL.out⟩
 have hrow6 := own_low (B' := w.heap.size) (own_parts (Ks HOA2.out HB24.out) (show Chg PartO w4 _ from ⟨hc6.os, hc6.tape, hc6.output, hc6.size, fun k o hk hs => hc6.kept k o hk (fun ho => hs (fun cs t fr e => HE4.out.type (c := 2) ho (e ▸ hk)))⟩) (by decide)) (Nat.le_refl _)
 have hb6 : Below B0 w (w5.setCell ⟨rb, 22, none⟩ (.slice a7 (m - kk) c7)) := (HB2.out.trans (HB24.out.mono HP2.out.B0w)).trans (hc6.below (by omega) (fun k o hk => (HE4.out.r.foot_lt hk).1))
 have HP6 := Hd hP6; have HALL := Hd hall; have HROW6 := Hd hrow6; have HB6 := Hd hb6; clear hl5 hto5 hb45 hr5 hset hc6 hP6 hall hrow6 hb6 c0 c1 c2 c3 c4 c15 f2; go_wp2; go_ret2
 exact ⟨_, rfl, kk, by omega, ⟨_, HROW6.out⟩, HB6.out, _, HP6.out, HALL.out⟩
theorem keeps_post {Bh B0 b n : Nat} {w0 w : World} {f : Nat -> Value} {d : Sd} {F : Nat -> Prop} {l : List En} (h : PAt Bh B0 b n w f d F l) (hl : ∀ e ∈ l, Alike n e) (hn : n <= 100000) (hb : Below B0 w0 w) {L : List K} {nu : Nat} (hnu : nu <= 90) {va : Value} (hrow : w.ownsRow Bh 76 3 va nu (Kd L)) :
  Calls Tryz.prog 15 #[.pointer (some ⟨b, 0, none⟩), va] w fun e w' => e = .returned (.tuple #[]) /\ Zg B0 b (n + 1) w0 w' := by
 obtain ⟨la, lc, rfl⟩ := Kg hrow; refine (keeps_any B0 b n w f d h.s hn Bh h.hB h.hBw h.heldK L nu hnu la lc hrow).mono ?_; rintro e w' ⟨rfl, f', d', hS, hK, hC⟩
 obtain ⟨F', hP⟩ := h.step hS hK hC (fun k o hk hs => by
  rcases hs with hs | ⟨_, c, fr, e⟩
  · exact sq_types (Bh := Bh) h.s.blk hk (.inl hs)
  · exact ⟨c, _, fr, e, by decide, by decide, by decide⟩) (Nat.le_succ n)
 refine ⟨rfl, hb.trans (hC.below h.B0w (fun k o hs => ?_)), f', d', F', l, hP, fun e he => (hl e he).mono (Nat.le_succ n)⟩
 rcases hs with hs | hs
 · exact hs.1
 · have := h.hB; omega
theorem onNode_drain {Bh B0 b n : Nat} {w00 : World} {f : Nat -> Value} {d : Sd} {F : Nat -> Prop} {l : List En} (h00 : PAt Bh B0 b n w00 f d F l) (hn : n <= 100000) (hl : ∀ e ∈ l, Alike n e) {i : Nat} {e : En} (hi : l[i]? = some e) (o : Sop) (hk : o.kind = 16) :
  Calls Tryz.prog 20 #[.pointer (some ⟨b, 0, none⟩), e.v, o.v] w00 fun e w' => e = .returned (.bool true) /\ Zg B0 b (n + 1) w00 w' := by
 obtain ⟨kind, x, oa, ob, oc, od, oe, s⟩ := o; simp only at hk; subst hk; obtain ⟨w, hw⟩ : ∃ w, w00.alloc (.cells #[.int .i64 16, .int .i64 x, .int .i64 oa, .int .i64 ob, .int .i64 oc, .int .i64 od, .int .i64 oe, .string s] 28) = w := ⟨_, rfl⟩; have hb00 : Below w00.heap.size w00 w := by rw [<- hw]; exact (Below.refl _ _).alloc (Nat.le_refl _) _
 have hx1 : w.heap[w00.heap.size]? = some (.cells #[.int .i64 16, .int .i64 x, .int .i64 oa, .int .i64 ob, .int .i64 oc, .int .i64 od, .int .i64 oe, .string s] 28 (0, 0)) := by rw [<- hw]; exact Kc w00 _
 have y0 : w.cell? ⟨w00.heap.size, 0, none⟩ = some (.int .i64 16) := by rw [Ka hx1]; rfl
 have y2 : w.cell? ⟨w00.heap.size, 2, none⟩ = some (.int .i64 oa) := by rw [Ka hx1]; rfl
 have h0 := h00.below hb00; have HDR := Hd (drained_any h0 hl hi oa); have HW := Hd hw; have HB00 := Hd (hb00.mono h00.B0w); clear hw hb00 hx1 h00 h0 hl hi; unfold En.v Sop.v at *; go_enter Tryz.func20, Tryz.ntmps20; go_upto_region 1 with (fail); rw [HW.out]; go_wp2_with fail
 refine HDR.out.mono ?_; rintro e w1 ⟨va, kk, L, rfl, hkk, hrow, hb1, l', hP, hall⟩; have HKP := Hd (keeps_post hP hall hn (HB00.out.trans hb1) (by omega) hrow)
 clear hkk hrow hb1 hP hall y0 y2; go_wp2_with fail
 refine HKP.out.mono ?_; rintro e w2 ⟨rfl, hpost⟩; have HPO := Hd hpost; clear hpost; go_wp2; go_ret
 exact ⟨rfl, HPO.out⟩
