/-
  Texts of the proof: RfBegin, RfAcked. No condition.
-/
import Derived.Test.YtfngdplkcppabaaGreatDoorPart01
import Derived.Test.YtfngdplkcppabaaGreatDoorPart21
set_option linter.all false
set_option maxRecDepth 100000
set_option maxHeartbeats 4000000
namespace Go.Proofs.YtfngdplkcppabaaGreatDoor
open Go.RowKit
section
variable {Bo B b : Nat} {w w1 w2 : World} {f f1 : Nat -> Value} {x x1 : Nd} {ps : List Pk}
theorem RSt.local_ (h : RSt Bo B b w f w1 f1 x1 ps) {g : Nat} (hc : Chg (fun k _ => k = g) w1 w2) (hg : w.heap.size <= g) (hn : ¬ RHas b f1 g) (ho : (f1 24).ownBlock ≠ some g) : RSt Bo B b w f w2 f1 x1 ps := by
 refine ⟨h.at_.keep (fun k hk => ?_), Kq h.out hc (fun k o hk e => ho (e ▸ hk)), ⟨hc.os.trans h.chg.os, hc.tape.trans h.chg.tape, hc.output.trans h.chg.output, Nat.le_trans h.chg.size hc.size, fun k o hk hs => hc.kept k o (h.chg.kept k o hk hs) (fun e => by have := Kb hk; omega)⟩, h.own, h.ownW, h.six⟩
 have hlt : k < w1.heap.size := by
  rcases hk with hk | hk
  · exact (h.at_.foot_lt hk).2
  · obtain ⟨cs, fr, hg⟩ := h.at_.ds_type hk
    exact Kb hg
 obtain ⟨o, ho'⟩ : ∃ o, w1.heap[k]? = some o := ⟨_, Array.getElem?_eq_getElem hlt⟩; rw [ho']; exact hc.kept k o ho' (fun e => hn (e ▸ hk))
end
theorem hereIds_snoc {x : Nd} {i : Nat} {m : Mem} (h : x.others[i]? = some m) :
  ((x.others.take (i + 1)).filter here).map (·.k.id) = ((x.others.take i).filter here).map (·.k.id) ++ if here m then [m.k.id] else [] := by
 rw [filter_snoc _ _ h, List.map_append]
 congr 1
 split <;> rfl
theorem mix_succ (i : Nat) (L : List Int) (x : Nd) {d k : Nat} (hd : (x.draw ((i : Int) + 2)).1 = (d : Int)) (hk : (x.draw ((i : Int) + 2)).2 = { x with at_ := k }) : Nd.mix (i + 1) L x = Nd.mix i (swapL L (i + 1) d) { x with at_ := k } := by
 rw [Nd.mix, hd, hk, Int.toNat_natCast]
theorem rbegin_any {Bo B b : Nat} {w : World} {f : Nat -> Value} {x : Nd} {ps : List Pk} (h : RfAt w B b f x) (hout : OutR w Bo (f 24) ps) (ho : Ok x) {C : Int} (hbd : Bd C x) (hC : C <= 3999990000) (hdl : x.ds.length <= 1000000) (hB : B <= w.heap.size) (hBo : Bo <= w.heap.size) (hps : ps.length < 900) :
  Calls Tryz.prog 73 #[.pointer (some ⟨b, 0, none⟩)] w fun e w' => e = .returned (.tuple #[]) /\ ∃ f', RSt Bo B b w f w' f' x.begins.2 (ps ++ x.begins.1) := by
 obtain ⟨a14, c14, e14⟩ := Kg h.pas; obtain ⟨pn, hpn⟩ : ∃ pn, x.pass.length = pn := ⟨_, rfl⟩; rw [hpn] at e14; have cc14 : w.cell? ⟨b, 14, none⟩ = some (.slice a14 pn c14) := by rw [<- e14]; exact h.blk.cell (by omega)
 obtain ⟨a, c, e13⟩ := Kg h.oth; obtain ⟨ln, hln⟩ : ∃ ln, x.others.length = ln := ⟨_, rfl⟩; have hrow := h.oth; rw [e13, hln] at hrow; rw [hln] at e13; have c13 : w.cell? ⟨b, 13, none⟩ = some (.slice a ln c) := by rw [<- e13]; exact h.blk.cell (by omega)
 have hl7 : ln <= 7 := by rw [<- hln]; exact ho.len
 have hbl := h.blk.lt; obtain ⟨i0, hi, hz0, hz1, hz2⟩ := info_parts info_int'; have HS := Hd (RSt.refl h hout); have HROW := Hd hrow; have HLN := Hd hln; have HPN := Hd hpn; have HO := Hd ho; have HBD := Hd hbd; obtain ⟨y, hy⟩ : ∃ y, x.newPass = y := ⟨_, rfl⟩; have HY := Hd hy; clear h hout hrow hln hpn ho hbd e13 e14 hy; go_enter Tryz.func73, Tryz.ntmps73; go_upto_if 13 with (fail); go_cut [] (fun wx => ∃ f1, RSt Bo B b w f wx f1 y ps)
 case first =>
  by_cases hp0 : pn = 0
  · have hxp : x.pass = [] := List.eq_nil_of_length_eq_zero (by rw [HPN.out]; exact hp0)
    obtain ⟨L0, hL0⟩ : ∃ L0, (x.others.filter here).map (·.k.id) = L0 := ⟨_, rfl⟩
    have hye : y = { (Nd.mix (L0.length - 1) L0 x).2 with pass := (Nd.mix (L0.length - 1) L0 x).1 } := by
     rw [<- HY.out, <- hL0]; unfold Nd.newPass; rw [if_pos hxp]
    have HYE := Hd hye; have HL0 := Hd hL0; clear hxp hL0 hye; go_wp2_with fail
    go_loopw [2, 3] (fun s2 s3 wr => ∃ (i : Nat) (q : List Int), i <= ln /\ s3 = .int .i64 (i : Nat) /\ q = ((x.others.take i).filter here).map (·.k.id) /\ q.length <= i /\ wr.ownsRow w.heap.size 3 1 s2 q.length (q.map (Value.int .i64)) /\ Below w.heap.size w wr) (fun _ s3 _ => 20 - (intOf s3).toNat)
    case atStart => exact ⟨0, [], Nat.zero_le _, rfl, rfl, Nat.le_refl _, World.ownsRow_nil _ _ _ _, Below.refl _ _⟩
    case round =>
     obtain ⟨i, q, hiq, rfl, hqe, hqi, hrow, hb⟩ := hrel; obtain ⟨ra, rc, rfl⟩ := Kg hrow; obtain ⟨m, hm⟩ : ∃ m, q.length = m := ⟨_, rfl⟩; rw [hm] at hrow hqi ⊢; have HQE := Hd hqe; have HR := Hd hrow; have HB := Hd hb; have HM := Hd hm; have hsz := hb.size; have c13r := (hb.cell (p := ⟨b, 13, none⟩) hbl).trans c13; clear hqe hrow hb hm; by_cases hil : i < ln
     · obtain ⟨u, hu⟩ : ∃ u, x.others[i]? = some u := ⟨_, List.getElem?_eq_getElem (by have := HLN.out; omega)⟩
       obtain ⟨g, rfl, hg, u0, u1, u2, u3⟩ := mr_at (Ks HROW.out HB.out) hu; have hsn := hereIds_snoc hu; rw [<- HQE.out] at hsn; have HSN := Hd hsn; clear hu hsn; obtain ⟨⟨uid, uinc, ust⟩, udue⟩ := u; simp only at u0 u1 u2; by_cases h1 : ust <= 2
       · have hrw : (wr.alloc (.cells #[.int .i64 uid] 3)).ownsRow w.heap.size 3 1 (.slice ra m rc) m (q.map (Value.int .i64)) := HR.out.alloc _
         have hnew := Jx wr [.int .i64 uid] 3; have HRW := Hd hrw; have HNEW : Hid (Ki (wr.alloc (.cells #[.int .i64 uid] 3)) (some ⟨wr.heap.size, 0, none⟩) [.int .i64 uid]) := hnew; have k3 : m + 1 <= maxLen := by unfold maxLen; omega
         have K3 := Hd k3; have hsn2 := HSN.out; rw [if_pos (show here ⟨⟨uid, uinc, ust⟩, udue⟩ = true from decide_eq_true h1)] at hsn2; have HSN2 := Hd hsn2; clear hrw hnew k3 hsn2; go_wp2_with (at_builtin; go_loud (refine Km _ rfl _ _ 24 rfl w.heap.size 3 i0 _ 1 8 Tryz.underlying24 hi hz0 hz1 hz2 rfl (by decide) (.slice ra m rc) m _ rfl HRW.out (some ⟨wr.heap.size, 0, none⟩) 1 1 _ rfl rfl HNEW.out (by simp [Value.oneCell']) K3.out (by omega) (by simp; omega) ?_))
         intro a1 c1 w1 hl1 hto1; have hb1 : Below w.heap.size w w1 := (HB.out.alloc hsz _).grown hto1.grown (by simp; omega) (fun j hj => (HR.out.lt j hj).1)
         have HL1 := Hd hl1; have HB1 := Hd hb1; clear hl1 hto1 hb1; go_wp2; go_roundw
         case rel => exact ⟨i + 1, q ++ [uid], by omega, by go_num, HSN2.out.symm, by rw [List.length_append, HM.out]; show m + 1 <= _; omega, by rw [List.map_append, List.length_append, HM.out]; exact HL1.out, HB1.out⟩
         case measure => simp [intOf]; omega
       · have hsn2 := HSN.out
         rw [if_neg (show ¬ here ⟨⟨uid, uinc, ust⟩, udue⟩ = true by simp [here, h1]), List.append_nil] at hsn2
         have HSN2 := Hd hsn2; clear hsn2; go_wp2; go_roundw
         case rel => exact ⟨i + 1, q, by omega, by go_num, HSN2.out.symm, by rw [HM.out]; omega, by rw [HM.out]; exact HR.out, HB.out⟩
         case measure => simp [intOf]; omega
     · have hq0 : q = L0 := by rw [HQE.out, List.take_of_length_le (by have := HLN.out; omega)]; exact HL0.out
       subst hq0; have hS1 := HS.out.below HB.out; have hm7 : m <= 7 := by omega
       have hnoF : ∀ g, ra = some ⟨g, 0, none⟩ -> ¬ RHas b f g := fun g e hk => by
        have h1 := (HR.out.lt g (by rw [e]; rfl)).1
        rcases hk with hk | hk
        · have := (HS.out.at_.foot_lt hk).2; omega
        · obtain ⟨cs, fr, hg⟩ := HS.out.at_.ds_type hk
          have := Kb hg; omega
       have HS1 := Hd hS1; have HNF := Hd hnoF; have hm1 : IntKind.i64.wrap ((m : Int) - 1) = (m : Int) - 1 := IntWalk.i64_in _ (by omega)
       clear hS1 HQE HS HROW c13 cc14 hnoF; go_wp2_with fail
       go_loopw [4] (fun s4 wr => ∃ (i : Int) (L : List Int) (k : Nat) (fj : Nat -> Value), s4 = .int .i64 i /\ -1 <= i /\ i < m /\ L.length = m /\ (k : Int) <= C + m - i /\ wr.ownsRow w.heap.size 3 1 (.slice ra m rc) m (L.map (Value.int .i64)) /\ Ok { x with at_ := k } /\
         RSt Bo B b w f wr fj { x with at_ := k } ps /\ Nd.mix i.toNat L { x with at_ := k } = Nd.mix (m - 1) q x /\ (∀ g, ra = some ⟨g, 0, none⟩ -> ¬ RHas b fj g)) (fun s4 _ => (intOf s4 + 1).toNat)
       case atStart => exact ⟨(m : Int) - 1, q, x.at_, f, rfl, by omega, by omega, HM.out, by have := HBD.out.at_; omega, HR.out, HO.out, HS1.out, by rw [show ((m : Int) - 1).toNat = m - 1 by omega], HNF.out⟩
       case round =>
        clear HS1 HR HB hsz c13r; obtain ⟨i, L, k, fj, rfl, hi1, him, hLm, hkj, hrow, hok, hS, hmx, hnf⟩ := hrel; have hszr : w.heap.size <= wr.heap.size := hS.chg.size; have HOKJ := Hd hok; have HSJ := Hd hS; have HMX := Hd hmx; have HROWJ := Hd hrow; have HN := Hd hLm; have HNJ := Hd hnf; clear hok hS hmx hrow hLm hnf; by_cases hgo : 0 < i
        · obtain ⟨j, rfl⟩ : ∃ j : Nat, i = (j : Int) + 1 := ⟨(i - 1).toNat, by omega⟩
          obtain ⟨z, hz⟩ : ∃ z : Nd, { x with at_ := k } = z := ⟨_, rfl⟩; have hzd : z.ds = x.ds := by rw [<- hz]
          have hbdz : Bd (C + 10) z := by
           have hb := HBD.out.mono (C := C + 10) (by omega)
           rw [<- hz]; exact ⟨hb.clock, hb.seq, hb.dropped, hb.lost, by show (k : Int) <= C + 10; omega⟩
          obtain ⟨hd0, hd1⟩ := draw_range z (n := (j : Int) + 2) (by omega)
          obtain ⟨k', hk'⟩ := draw_eq z ((j : Int) + 2); obtain ⟨d, hd⟩ : ∃ d : Nat, (z.draw ((j : Int) + 2)).1 = (d : Int) := ⟨((z.draw ((j : Int) + 2)).1).toNat, by omega⟩
          have hdj : d < j + 2 := by omega
          have hsj := HSJ.out; rw [hz] at hsj; have hcon := rdraw_any hsj.at_ hsj.out hbdz (by omega) (by rw [hzd]; exact hdl) ((j : Int) + 2) (by omega)
          rw [hd, hk'] at hcon
          have hk1 : k' <= k + 1 := by
           have : k' = z.at_ \/ k' = z.at_ + 1 := by
            have e := hk'; unfold Nd.draw at e
            split at e
            · left; exact (congrArg Nd.at_ e).symm
            · right; exact (congrArg Nd.at_ e).symm
           have e2 : z.at_ = k := by rw [<- hz]
           omega
          have hmix : Nd.mix (j + 1) L z = Nd.mix j (swapL L (j + 1) d) { x with at_ := k' } := by rw [mix_succ j L z hd hk', <- hz]
          have hmx2 := HMX.out; rw [show ((j : Int) + 1).toNat = j + 1 by omega, hz, hmix] at hmx2
          have HCON := Hd hcon; have HMX2 := Hd hmx2; have HZ := Hd hz; have HSY := Hd hsj; have w2b : IntKind.i64.wrap ((j : Int) + 1 + 1) = (j : Int) + 2 := by rw [IntWalk.i64_in _ (by omega)]; omega
          have hgo2 : decide ((0 : Int) < (j : Int) + 1) = true := decide_eq_true (by omega)
          clear hcon hz hk' hd hd0 hd1 hbdz hzd hsj hmix hmx2 HMX; go_wp2_with fail
          refine HCON.out.mono ?_; rintro e w4 ⟨rfl, f4, hS4⟩; have hze : ({ z with at_ := k' } : Nd) = { x with at_ := k' } := by rw [<- HZ.out]
          have hrow4 := hS4.keepInt HSY.out.at_ HROWJ.out
          have hnf4 : ∀ g, ra = some ⟨g, 0, none⟩ -> ¬ RHas b f4 g := fun g e hk => by
           have hgl := (HROWJ.out.lt g (by rw [e]; rfl)).2
           rcases hk with hk | hk
           · rcases hS4.own g hk with h | h
             · exact HNJ.out g e (.inl h)
             · omega
           · rw [hS4.six] at hk
             exact HNJ.out g e (.inr hk)
          rw [hze] at hS4; have hS4' := HSJ.out.trans hS4; have hLl : L.length = m := HN.out; obtain ⟨va, hva⟩ : ∃ va, L.getD (j + 1) 0 = va := ⟨_, rfl⟩; obtain ⟨vd, hvd⟩ : ∃ vd, L.getD d 0 = vd := ⟨_, rfl⟩
          have hget : ∀ t, t < m -> (L.map (Value.int .i64))[t]? = some (.int .i64 (L.getD t 0)) := fun t ht => by
           rw [List.getElem?_map, List.getElem?_eq_getElem (by omega), List.getD_eq_getElem?_getD, List.getElem?_eq_getElem (by omega)]; rfl
          have hgj := hget (j + 1) (by omega)
          have hgd := hget d (by omega)
          rw [hva] at hgj; rw [hvd] at hgd
          obtain ⟨g, rfl⟩ : ∃ g, ra = some ⟨g, 0, none⟩ := by
           rcases hrow4.2 with ⟨_, e2⟩ | ⟨g', cap, cur0, e1, _⟩
           · omega
           · simp only [Value.slice.injEq] at e1; exact ⟨g', e1.1⟩
          obtain ⟨_, _, ea, _, cj⟩ := Ki.row hrow4 (j + 1) _ hgj; cases ea
          obtain ⟨_, _, ea, _, cd⟩ := Ki.row hrow4 d _ hgd; cases ea
          rw [Nat.zero_add] at cj cd; obtain ⟨hgB, cur, hgc⟩ := Ke hrow4 (g := g) rfl; have fj1 := Kr hgc (j + 1); have fd1 := Kr hgc d
          have hsw : (w4.setCell ⟨g, j + 1, none⟩ (.int .i64 vd)).setCell ⟨g, d, none⟩ (.int .i64 va) |>.ownsRow w.heap.size 3 1 (.slice (some ⟨g, 0, none⟩) m rc) m ((swapL L (j + 1) d).map (Value.int .i64)) := by
           have h := own_setCell (own_setCell hrow4 (j + 1) (.int .i64 vd)) d (.int .i64 va); unfold swapL; rw [List.map_set, List.map_set, hva, hvd]; exact h
          have ho24 : (f4 24).ownBlock ≠ some g := fun e => by
           obtain ⟨_, c2, g2⟩ := Ke hS4'.out e; rw [hgc] at g2; simp only [Option.some.injEq, Obj.cells.injEq] at g2; exact absurd g2.2.1 (by decide)
          have hS5 := hS4'.local_ (w2 := (w4.setCell ⟨g, j + 1, none⟩ (.int .i64 vd)).setCell ⟨g, d, none⟩ (.int .i64 va)) (g := g) (((Chg.refl (fun k _ => k = g) w4).setCell _ (fun _ _ => rfl)).setCell _ (fun _ _ => rfl)) hgB (hnf4 g rfl) ho24
          have hok5 : Ok { x with at_ := k' } := { HOKJ.out with }; obtain ⟨v', hv'⟩ := cell?_setCell_some (w := w4) (p := ⟨g, j + 1, none⟩) (x := .int .i64 vd) (q := ⟨g, d, none⟩) (v := .int .i64 vd) cd; have HSW := Hd hsw; have HS5 := Hd hS5; have HOK5 := Hd hok5; have HNF4 := Hd hnf4; clear hS4 hS4' hrow4 hnf4 hze hLl hva hvd hget hgj hgd hgB hgc hsw hS5 hok5 ho24; have hj1 : (0 : Int) <= (j : Int) + 1 := by omega
          have hj2 : (j : Int) + 1 < (m : Int) := by omega
          have hjm : j + 1 < m := by omega
          have hdm : d < m := by omega
          have hjt : ((j : Int) + 1).toNat = j + 1 := by omega
          go_wp2_with fail
          go_roundw
          case rel =>
           exact ⟨j, swapL L (j + 1) d, k', f4, rfl, by omega, by omega, by rw [swapL_len]; exact HN.out, by omega, HSW.out, HOK5.out, HS5.out, by rw [Int.toNat_natCast]; exact HMX2.out, HNF4.out⟩
          case measure => simp [intOf]; omega
        · have hi0 : i.toNat = 0 := by omega
          have hmx := HMX.out; rw [hi0] at hmx; have hr1 : (Nd.mix (m - 1) q x).1 = L := by rw [<- hmx]; rfl
          have hr2 : (Nd.mix (m - 1) q x).2 = { x with at_ := k } := by rw [<- hmx]; rfl
          have hle := HN.out; have hq := HM.out; have c14' := HSJ.out.at_.blk.cell (i := 14) (by omega)
          have f14' := HSJ.out.at_.blk.free 14; have hrw := Jl HROWJ.out hB; rw [<- hle] at hrw; have hS6 := HSJ.out.cell (HSJ.out.at_.setPass hrw) (by omega) (fun k' hk' _ => (HROWJ.out.lt k' (by rw [hle] at hk'; exact hk')).1)
          rw [hle] at hS6; have hye : y = { x with at_ := k, pass := L } := by rw [HYE.out, hq, hr1, hr2]
          have HYE2 := Hd hye; have HS6 := Hd hS6; clear hmx hr1 hr2 hle hq hrw hS6 hye hi0; go_wp2; go_meet
          case rel => exact ⟨_, by rw [HYE2.out]; exact HS6.out⟩
  · have hye : y = x := by rw [<- HY.out]; unfold Nd.newPass; rw [if_neg (fun e => hp0 (by rw [<- HPN.out, e]; rfl))]
    have HYE := Hd hye; clear hye; go_wp2; go_meet
    case rel => exact ⟨f, by rw [HYE.out]; exact HS.out⟩
 case rest =>
  obtain ⟨f1, hS⟩ := hcut; have hnp := newPass_all HO.out HBD.out; rw [HY.out] at hnp; obtain ⟨hoky, hbdy, ⟨ky, ly, hyk⟩, _⟩ := hnp; obtain ⟨pa, pc, e14⟩ := Kg hS.at_.pas; obtain ⟨n, hn⟩ : ∃ n, y.pass.length = n := ⟨_, rfl⟩; have hprow := hS.at_.pas; rw [e14, hn] at hprow; rw [hn] at e14; have d14 : wc.cell? ⟨b, 14, none⟩ = some (.slice pa n pc) := by rw [<- e14]; exact hS.at_.blk.cell (by omega)
  have hn7 : n <= 7 := by rw [<- hn]; exact hoky.pnd
  by_cases h0 : n = 0
  · have hbe : x.begins = ([], y) := by
     unfold Nd.begins; rw [HY.out]; simp only; rw [List.eq_nil_of_length_eq_zero (hn.trans h0)]
    have HBE := Hd hbe; have HSY := Hd hS; subst h0; clear hbe hS hn hprow e14 hyk; go_wp2
    ((try simp only [Exit.inBlock, Exit.then]); first | refine bodyPost_ret (results_none rfl _ _ _) rfl ?_ | refine bodyPost_end (results_none rfl _ _ _) rfl ?_)
    exact ⟨rfl, f1, by rw [HBE.out, List.append_nil]; exact HSY.out⟩
  · obtain ⟨t, rest, hpe⟩ : ∃ t rest, y.pass = t :: rest := List.exists_cons_of_ne_nil (fun e => h0 (by rw [<- hn, e]; rfl))
    have hrl : rest.length = n - 1 := by rw [<- hn, hpe]; rfl
    obtain ⟨s0, n0, a0, e16, e17, e18, _⟩ := hS.at_.prb
    have hS1 := hS.cell (hS.at_.setProbe (some ⟨t, n0, s0, a0⟩) t rfl (fun s n a q1 q2 q3 p hp => by
     cases hp
     rw [e16] at q1; rw [e17] at q2; rw [e18] at q3; simp only [Value.int.injEq, Value.bool.injEq, true_and] at q1 q2 q3; exact ⟨q1, q2, q3⟩)) (by omega) (fun k hk => by simp [Value.ownBlock] at hk)
    obtain ⟨g, rfl⟩ : ∃ g, pa = some ⟨g, 0, none⟩ := by
     rcases hprow.2 with ⟨_, e2⟩ | ⟨g', cap, cur0, e1, _⟩
     · omega
     · simp only [Value.slice.injEq] at e1; exact ⟨g', e1.1⟩
    have hlc : n <= pc := by
     rcases hprow.2 with ⟨e1, _⟩ | ⟨g', cap, cur0, e1, _, _, hnc, _⟩
     · simp at e1
     · simp only [Value.slice.injEq] at e1; rw [e1.2.2]; exact hnc
    rw [hpe] at hprow; obtain ⟨_, _, ea, _, cg⟩ := Ki.row hprow 0 (.int .i64 t) rfl; cases ea
    rw [Nat.zero_add] at cg; have f15 := hS.at_.blk.free 15; have c15 := hS.at_.blk.cell (i := 15) (by omega)
    obtain ⟨w1, hw1⟩ : ∃ w1, wc.setCell ⟨b, 15, none⟩ (.int .i64 t) = w1 := ⟨_, rfl⟩; rw [hw1] at hS1; obtain ⟨F1, hF1⟩ : ∃ F1, upd f1 15 (.int .i64 t) = F1 := ⟨_, rfl⟩; rw [hF1] at hS1; have hgb : b ≠ g := fun e => hS.at_.blk.neOwn hprow (by decide) (by rw [e]; rfl)
    have hprow1 : w1.ownsRow B 3 1 (.slice (some ⟨g, 0, none⟩) n pc) n ((t :: rest).map (Value.int .i64)) := by
     rw [<- hw1]; exact own_cell hS.at_.blk hprow (by decide)
    have hsrc1 : Ki w1 (some ⟨g, 1, none⟩) (rest.map (Value.int .i64)) := Ki.part (off := 1) (xs := [.int .i64 t]) (ys := rest.map (Value.int .i64)) (zs := []) (by rw [List.append_nil]; exact hprow1) rfl
    have hsrc : Ki w1 (if pc = 1 then some ⟨g, 0, none⟩ else some ⟨g, 1, none⟩) (rest.map (Value.int .i64)) := by
     by_cases hck : pc = 1
     · have hd : rest = [] := List.eq_nil_of_length_eq_zero (by omega)
       rw [hd]; intro j v hj
       simp at hj
     · rw [if_neg hck]; exact hsrc1
    have hrl2 : (rest.map (Value.int .i64)).length = (n - 1) * 1 := by rw [ints_len, hrl]
    have k3 : 0 + (n - 1) <= maxLen := by unfold maxLen; omega
    have d14' : w1.cell? ⟨b, 14, none⟩ = some (.slice (some ⟨g, 0, none⟩) n pc) := by
     rw [<- hw1, World.cell?_setCell_other _ _ _ _ (by simp)]; exact d14
    have hz : x.begins = ([(t, ({ y.next with pass := rest, probe := some ⟨t, y.seq + 1, y.clock, false⟩ } : Nd).msg ⟨1, 0, 0, y.seq + 1, t, []⟩)], ({ y.next with pass := rest, probe := some ⟨t, y.seq + 1, y.clock, false⟩ } : Nd).sent ⟨1, 0, 0, y.seq + 1, t, []⟩) := by
     unfold Nd.begins; rw [HY.out]; simp only [hpe]
    have HBE := Hd hz; have HS1 := Hd hS1; have HSRC := Hd hsrc; have HRL := Hd hrl2; have K3 := Hd k3; have HW1 := Hd hw1; have HOKY := Hd hoky; have HBY := Hd hbdy; have HPE := Hd hpe; have HRL' := Hd hrl; clear hz hS1 hsrc hsrc1 hrl2 k3 hw1 hoky hbdy hS hprow hprow1 hF1 e14 e16 e17 e18 hn hpe hyk hrl cc14 c13 HROW HS; have hwsz : B <= w1.heap.size := by have := HS1.out.chg.size; omega
    go_wp2_with (at_builtin; go_loud (rw [HW1.out]; refine Km _ rfl _ _ 24 rfl w1.heap.size 3 i0 _ 1 8 Tryz.underlying24 hi hz0 hz1 hz2 rfl (by decide) (.slice none 0 0) 0 [] rfl (World.ownsRow_nil _ _ _ _) (if pc = 1 then some ⟨g, 0, none⟩ else some ⟨g, 1, none⟩) (n - 1) (pc - 1) _ rfl HRL.out HSRC.out (ints_one _) K3.out (by omega) (Nat.le_refl _) ?_))
    all_goals
     intro a7 c7 w2 hl2 hto2; have hb2 : Below w1.heap.size w1 w2 := Below.grown (Below.refl _ _) hto2.grown (Nat.le_refl _) (fun j hj => by simp [Value.ownBlock] at hj)
     have hS2 := HS1.out.below hb2; have c14a := hS2.at_.blk.cell (i := 14) (by omega)
     have f14a := hS2.at_.blk.free 14; have c8a : w2.cell? ⟨b, 8, none⟩ = some (.int .i64 y.clock) := by rw [show Value.int .i64 y.clock = F1 8 from hS2.at_.n8.symm]; exact hS2.at_.blk.cell (by omega)
     have c16a := hS2.at_.blk.cell (i := 16) (by omega)
     have f16a := hS2.at_.blk.free 16; have c18a := hS2.at_.blk.cell (i := 18) (by omega)
     have f18a := hS2.at_.blk.free 18; rw [<- HRL'.out] at hl2; have hS3 := hS2.cell (hS2.at_.setPass (Jl hl2 hwsz)) (by omega) (fun k hk _ => by have := (hl2.lt k hk).1; have := HS1.out.chg.size; omega)
     have hS4 := hS3.cell (hS3.at_.setStart y.clock) (by omega) (fun k hk => by simp [Value.ownBlock] at hk)
     have hS5 := hS4.cell (hS4.at_.setAcked false) (by omega) (fun k hk => by simp [Value.ownBlock] at hk)
     rw [HRL'.out] at hS5; obtain ⟨F5, hF5⟩ : ∃ F5, upd (upd (upd F1 14 (.slice a7 (n - 1) c7)) 16 (.int .i64 y.clock)) 18 (.bool false) = F5 := ⟨_, rfl⟩; rw [hF5] at hS5; obtain ⟨w5, hw5⟩ : ∃ w5, ((w2.setCell ⟨b, 14, none⟩ (.slice a7 (n - 1) c7)).setCell ⟨b, 16, none⟩ (.int .i64 y.clock)).setCell ⟨b, 18, none⟩ (.bool false) = w5 := ⟨_, rfl⟩; rw [hw5] at hS5; have hS5' : RSt Bo B b w f w5 F5 ({ y with pass := rest, probe := some ⟨t, n0, y.clock, false⟩ } : Nd) ps := hS5; have hnx := rnext_any hS5'.at_ hS5'.out (by show 0 <= y.seq /\ y.seq <= 100000000000; have := HBY.out.seq; omega)
     have HNX := Hd hnx; have HS5 := Hd hS5'; have HW5 := Hd hw5; clear hb2 hS2 hS3 hS4 hS5 hF5 hw5 hS5' hl2 hto2 hnx; go_wp2_with fail
     rw [HW5.out]; refine HNX.out.mono ?_; rintro e w6 ⟨rfl, f6, hS6⟩; have hS6' := HS5.out.trans hS6; have c17a := hS6'.at_.blk.cell (i := 17) (by omega)
     have f17a := hS6'.at_.blk.free 17; have c15a : w6.cell? ⟨b, 15, none⟩ = some (.int .i64 t) := by rw [show Value.int .i64 t = f6 15 from hS6'.at_.n15.symm]; exact hS6'.at_.blk.cell (by omega)
     have hS7 := hS6'.cell (hS6'.at_.setNo (y.seq + 1)) (by omega) (fun k hk => by simp [Value.ownBlock] at hk)
     have hS7' : RSt Bo B b w f (w6.setCell ⟨b, 17, none⟩ (.int .i64 (y.seq + 1))) (upd f6 17 (.int .i64 (y.seq + 1))) ({ y.next with pass := rest, probe := some ⟨t, y.seq + 1, y.clock, false⟩ } : Nd) ps := hS7; obtain ⟨z, hz⟩ : ∃ z : Nd, { y.next with pass := rest, probe := some ⟨t, y.seq + 1, y.clock, false⟩ } = z := ⟨_, rfl⟩; rw [hz] at hS7'; have htm : t ∈ Zf y.others := HOKY.out.pin t (by rw [HPE.out]; exact List.mem_cons_self ..)
     have hokz : Ok z := by
      rw [<- hz]; have h1 := HOKY.out.next; have hcl := HBY.out.clock
      exact { h1 with
              pin := fun k hk => HOKY.out.pin k (by rw [HPE.out]; exact List.mem_cons_of_mem _ hk)
              pnd := by have := HOKY.out.pnd; rw [HPE.out, List.length_cons] at this; show rest.length <= 7; omega
              prb := fun q hq => by
               cases hq
               refine ⟨HOKY.out.ids_ok htm, ⟨?_, ?_⟩, ?_, ?_⟩
               · show 1 <= y.seq + 1; have := HBY.out.seq; omega
               · show y.seq + 1 <= y.seq + 1; omega
               · show 0 <= y.clock; omega
               · show y.clock <= y.clock; omega }
     have HBE2 : Hid (x.begins = ([(t, z.msg ⟨1, 0, 0, y.seq + 1, t, []⟩)], z.sent ⟨1, 0, 0, y.seq + 1, t, []⟩)) := Hd (by rw [HBE.out, hz])
     obtain ⟨w7, hw7⟩ : ∃ w7, w6.setCell ⟨b, 17, none⟩ (.int .i64 (y.seq + 1)) = w7 := ⟨_, rfl⟩; have c15b : w7.cell? ⟨b, 15, none⟩ = some (.int .i64 t) := by rw [<- hw7, World.cell?_setCell_other _ _ _ _ (by simp)]; exact c15a
     have c17b : w7.cell? ⟨b, 17, none⟩ = some (.int .i64 (y.seq + 1)) := by rw [<- hw7]; exact World.cell?_setCell_same _ _ _ c17a
     rw [hw7] at hS7'; have HW7 := Hd hw7; have HS7 := Hd hS7'; have HOKZ := Hd hokz; have hsq := HBY.out.seq; clear hS6 hS6' hS7 hS7' hz hokz hw7 htm; go_upto_region 23 with (fail); rw [HW7.out]
     (refine Jj 14 (by kernel_rfl) (by kernel_rfl) ?_; simp only [List.take_succ_cons, List.take_zero, List.drop_succ_cons, List.drop_zero])
     iterate 14 still_step
     refine wpStill_nil ?_; go_wp2_with fail
     refine (rsend_any (HS7.out.drewN 1).at_ (HS7.out.drewN 1).out HOKZ.out (by have := HS7.out.chg.size; show Bo <= w7.heap.size; omega) (by omega) t 1 (y.seq + 1) t (by omega) [] none 0 0 rfl (by omega) (fun j' k' h' => by simp at h') (fun k' h' => by simp at h')).mono ?_
     rintro e w8 ⟨rfl, f8, hS8⟩; have HS8 := Hd ((HS7.out.drewN 1).trans hS8); clear hS8; go_wp2
     ((try simp only [Exit.inBlock, Exit.then]); first | refine bodyPost_ret (results_none rfl _ _ _) rfl ?_ | refine bodyPost_end (results_none rfl _ _ _) rfl ?_)
     exact ⟨rfl, f8, by rw [HBE2.out]; exact HS8.out⟩
theorem five_set {w : World} {b : Nat} {a0 a1 a2 a3 a4 : Value} {t : TypeId} {f : Nat × Nat} (h : w.heap[b]? = some (.cells #[a0, a1, a2, a3, a4] t f)) (v0 v1 v2 v3 v4 : Value) :
  (((((w.setCell ⟨b, 0, none⟩ v0).setCell ⟨b, 1, none⟩ v1).setCell ⟨b, 2, none⟩ v2).setCell ⟨b, 3, none⟩ v3).setCell ⟨b, 4, none⟩ v4).heap[b]? = some (.cells #[v0, v1, v2, v3, v4] t f) /\
  Chg (fun k _ => k = b) w (((((w.setCell ⟨b, 0, none⟩ v0).setCell ⟨b, 1, none⟩ v1).setCell ⟨b, 2, none⟩ v2).setCell ⟨b, 3, none⟩ v3).setCell ⟨b, 4, none⟩ v4) :=
 ⟨Kf (Kf (Kf (Kf (Kf h)))),
  ((((((Chg.refl (fun k _ => k = b) w).setCell _ (fun _ _ => rfl)).setCell _ (fun _ _ => rfl)).setCell _ (fun _ _ => rfl)).setCell _ (fun _ _ => rfl)).setCell _ (fun _ _ => rfl))⟩
theorem info_rel : (Tryz.prog.info? 147).map (fun i => (i.zero, i.size, i.bytes)) = some (some (.agg #[.int .i64 0, .int .i64 0, .int .i64 0, .int .i64 0, .int .i64 0]), 5, 40) := by kernel_rfl
theorem relCells_snoc (l : List Rel) (r : Rel) : Za (l ++ [r]) = Za l ++ [.int .i64 r.seq, .int .i64 r.tgt, .int .i64 r.orig, .int .i64 r.oseq, .int .i64 r.ends] := by simp [Za]
def rel0 : Rel := ⟨0, 0, 0, 0, 0⟩
def Met (m : M) (l : List Rel) (i : Nat) (d : Rel) : Prop := (d = rel0 /\ ∀ r ∈ l.take i, rhit m r = false) \/ (d ∈ l.take i /\ rhit m d = true)
theorem Met.hit {m : M} {l : List Rel} {i : Nat} {u : Rel} (hu : l[i]? = some u) (hh : rhit m u = true) : Met m l (i + 1) u := .inr ⟨by rw [List.take_add_one, hu]; simp, hh⟩
theorem Met.miss {m : M} {l : List Rel} {i : Nat} {d u : Rel} (h : Met m l i d) (hu : l[i]? = some u) (hh : rhit m u = false) : Met m l (i + 1) d := by
 rcases h with ⟨e, h⟩ | ⟨h1, h2⟩
 · refine .inl ⟨e, fun r hr => ?_⟩
   rw [List.take_add_one, hu] at hr; simp only [Option.toList_some, List.mem_append, List.mem_cons, List.not_mem_nil, or_false] at hr; rcases hr with hr | rfl
   · exact h r hr
   · exact hh
 · exact .inr ⟨by rw [List.take_add_one]; exact List.mem_append_left _ h1, h2⟩
theorem ackProbe_none (m : M) : ackProbe none m = none := rfl
theorem ackProbe_yes {p : Prb} {m : M} (h1 : p.seq = m.seq) (h2 : p.tgt = m.tgt) : ackProbe (some p) m = some { p with acked := true } := by
 unfold ackProbe; rw [Option.map_some, if_pos ⟨h1, h2⟩]
theorem ackProbe_no {p : Prb} {m : M} (h : ¬ (p.seq = m.seq /\ p.tgt = m.tgt)) : ackProbe (some p) m = some p := by
 unfold ackProbe; rw [Option.map_some, if_neg h]
theorem racked_any {Bo B b : Nat} {w : World} {f : Nat -> Value} {x : Nd} {ps : List Pk} (h : RfAt w B b f x) (hout : OutR w Bo (f 24) ps) (ho : Ok x) (hB : B <= w.heap.size) (hBo : Bo <= w.heap.size) (hps : ps.length < 900) (m : M) (ma : Option Addr) (mn mc : Nat) :
  Calls Tryz.prog 83 #[.pointer (some ⟨b, 0, none⟩), m.agg (.slice ma mn mc)] w fun e w' => e = .returned (.tuple #[]) /\ ∃ f', RSt Bo B b w f w' f' (x.acked m).2 (ps ++ (x.acked m).1) := by
 obtain ⟨kind, frm, inc, seq, tgt, ups⟩ := m; obtain ⟨m, hmm⟩ : ∃ m : M, (⟨kind, frm, inc, seq, tgt, ups⟩ : M) = m := ⟨_, rfl⟩; have hms : m.seq = seq := by rw [<- hmm]
 have hmt : m.tgt = tgt := by rw [<- hmm]
 obtain ⟨w1, hw1⟩ : ∃ w1, w.alloc (.cells #[.int .i64 kind, .int .i64 frm, .int .i64 inc, .int .i64 seq, .int .i64 tgt, .slice ma mn mc] 33) = w1 := ⟨_, rfl⟩; have hb1 : Below w.heap.size w w1 := by rw [<- hw1]; exact (Below.refl _ _).alloc (Nat.le_refl _) _
 have hx1 : w1.heap[w.heap.size]? = some (.cells #[.int .i64 kind, .int .i64 frm, .int .i64 inc, .int .i64 seq, .int .i64 tgt, .slice ma mn mc] 33 (0, 0)) := by rw [<- hw1]; exact Kc w _
 have x3 := Ka hx1 3; have x4 := Ka hx1 4; simp only [List.getElem?_toArray, List.getElem?_cons_succ, List.getElem?_cons_zero] at x3 x4; have hS1 := (RSt.refl h hout).below hb1; obtain ⟨ps0, pn0, pa0, e16, e17, e18, hpp⟩ := hS1.at_.prb; have c15 : w1.cell? ⟨b, 15, none⟩ = some (.int .i64 (tgtP x.probe)) := by rw [<- hS1.at_.n15]; exact hS1.at_.blk.cell (by omega)
 have c17 : w1.cell? ⟨b, 17, none⟩ = some (.int .i64 pn0) := by rw [<- e17]; exact hS1.at_.blk.cell (by omega)
 have hsz1 : w1.heap.size = w.heap.size + 1 := by rw [<- hw1]; simp
 have hbl := h.blk.lt; have hprb := ho.prb; obtain ⟨x1, hxx⟩ : ∃ x1 : Nd, { x with probe := ackProbe x.probe m } = x1 := ⟨_, rfl⟩; have hok1 : Ok x1 := by rw [<- hxx]; exact ho.ackProbe m
 obtain ⟨i0, hi, hz0, hz1, hz2⟩ := info_parts info_rel; have HS1 := Hd hS1; have HX1 := Hd hx1; have HW1 := Hd hw1; have HMM := Hd hmm; have HMS := Hd hms; have HMT := Hd hmt; have HXX := Hd hxx; have HO := Hd ho; have HOK1 := Hd hok1; have HPP := Hd hpp; have HPR := Hd hprb; have HSZ1 := Hd hsz1; clear h hout ho hS1 hx1 hw1 hmm hms hmt hxx hok1 hpp hprb e16 e17 e18 hsz1 hb1; unfold M.agg; go_enter Tryz.func83, Tryz.ntmps83; go_upto_region 1 with (fail); rw [HW1.out]; go_cut [30] (fun s30 wx => ∃ bc n, s30 = .bool bc /\ (bc = true ↔ ∃ p, x.probe = some p /\ p.seq = seq /\ p.tgt = tgt) /\ wx = w1.drewN n)
 case first =>
  cases hp : x.probe with
  | none =>
   rw [hp] at c15; have hd : decide ((0 : Int) < 0) = false := by decide
   unfold tgtP at c15; have HPB := Hd hp; clear hp; go_wp2_with fail
   go_quiet (fail); go_wp2; go_meet
   case rel => exact ⟨_, nq, rfl, ⟨(fun h => by cases h), fun ⟨q, hq, _⟩ => by rw [HPB.out] at hq; cases hq⟩, rfl⟩
  | some p =>
   obtain ⟨_, hpn, _⟩ := HPP.out p hp; have hpt := (HPR.out p hp).1.1; rw [hp] at c15; unfold tgtP at c15; rw [<- hpn] at c17; have hd : decide ((0 : Int) < p.tgt) = true := decide_eq_true (by omega)
   have HPB := Hd hp; clear hp hpn; by_cases h1 : seq = p.seq
   · have h1b : (seq == p.seq) = true := by simpa using h1
     have H1 := Hd h1; clear h1; by_cases h2 : tgt = p.tgt
     · have h2b : (tgt == p.tgt) = true := by simpa using h2
       have H2 := Hd h2; clear h2; go_wp2_with fail
       go_quiet (fail); go_wp2; go_meet
       case rel => exact ⟨_, nq, rfl, ⟨fun _ => ⟨p, HPB.out, H1.out.symm, H2.out.symm⟩, fun _ => rfl⟩, rfl⟩
     · have h2b : (tgt == p.tgt) = false := by simpa using h2
       have H2 := Hd h2; clear h2; go_wp2_with fail
       go_quiet (fail); go_wp2; go_meet
       case rel => exact ⟨_, nq, rfl, ⟨(fun h => by cases h), fun ⟨q, hq, _, e⟩ => by rw [HPB.out] at hq; cases hq; exact absurd e.symm H2.out⟩, rfl⟩
   · have h1b : (seq == p.seq) = false := by simpa using h1
     have H1 := Hd h1; clear h1; go_wp2_with fail
     go_quiet (fail); go_wp2; go_meet
     case rel => exact ⟨_, nq, rfl, ⟨(fun h => by cases h), fun ⟨q, hq, e, _⟩ => by rw [HPB.out] at hq; cases hq; exact absurd e.symm H1.out⟩, rfl⟩
 case rest =>
 obtain ⟨bc, nq1, rfl, hbc, rfl⟩ := hcut; have HBC := Hd hbc; clear hbc c15 c17 x3 x4; go_upto_if 30 with (fail); go_cut [] (fun wx => ∃ f1, RSt Bo B b w f wx f1 x1 ps /\ wx.heap[w.heap.size]? = some (.cells #[.int .i64 kind, .int .i64 frm, .int .i64 inc, .int .i64 seq, .int .i64 tgt, .slice ma mn mc] 33 (0, 0)))
 case first =>
  cases bc with
  | true =>
   obtain ⟨p, hp, e1, e2⟩ := HBC.out.1 rfl; have hS2 := HS1.out.drewN nq1; have c18 := hS2.at_.blk.cell (i := 18) (by omega)
   have f18 := hS2.at_.blk.free 18; have hS3 := hS2.cell (hS2.at_.setAcked true) (by omega) (fun k hk => by simp [Value.ownBlock] at hk)
   have hx2 : { x with probe := x.probe.map fun p => { p with acked := true } } = x1 := by
    rw [<- HXX.out, hp, ackProbe_yes (by rw [HMS.out]; exact e1) (by rw [HMT.out]; exact e2)]; rfl
   rw [hx2] at hS3
   have hxb : ((w1.drewN nq1).setCell ⟨b, 18, none⟩ (.bool true)).heap[w.heap.size]? = some (.cells #[.int .i64 kind, .int .i64 frm, .int .i64 inc, .int .i64 seq, .int .i64 tgt, .slice ma mn mc] 33 (0, 0)) := by
    rw [Kj _ _ _ _ _ (by omega)]; exact HX1.out
   have HS3 := Hd hS3; have HXB := Hd hxb; clear hp e1 e2 hS2 hS3 hx2 hxb; go_wp2; go_meet
   case rel => exact ⟨_, HS3.out, HXB.out⟩
  | false =>
   have hx2 : x = x1 := by
    rw [<- HXX.out]; cases hp : x.probe with
    | none => rw [ackProbe_none, <- hp]
    | some p =>
     rw [ackProbe_no (fun e => by
      have := HBC.out.2 ⟨p, hp, by rw [<- HMS.out]; exact e.1, by rw [<- HMT.out]; exact e.2⟩
      cases this), <- hp]
   have HS3 := Hd (hx2 ▸ HS1.out.drewN nq1); clear hx2; go_wp2; go_meet
   case rel => exact ⟨f, HS3.out, HX1.out⟩
 case rest =>
 obtain ⟨f1, hS, hxb⟩ := hcut; have hS4 := hS.below ((Below.refl _ wc).alloc (Nat.le_refl _) (.cells #[.int .i64 0, .int .i64 0, .int .i64 0, .int .i64 0, .int .i64 0] 147)); have hsz := hS.chg.size; have hbc := hS.at_.blk.lt; obtain ⟨ra, rc, e20⟩ := Kg hS.at_.rel; obtain ⟨ln, hln⟩ : ∃ ln, x1.relays.length = ln := ⟨_, rfl⟩; have hrow := hS4.at_.rel; rw [e20, hln] at hrow; rw [hln] at e20; have hl4 : ln <= 4 := by rw [<- hln]; exact HOK1.out.rlen
 have hnD : ¬ RHas b f1 wc.heap.size := fun hk => by
  rcases hk with hk | hk
  · have := (hS.at_.foot_lt hk).2; omega
  · obtain ⟨cs, fr, hg⟩ := hS.at_.ds_type hk
    have := Kb hg; omega
 have hoD : (f1 24).ownBlock ≠ some wc.heap.size := fun e => by have := (hS.out.lt _ e).2; omega
 obtain ⟨w4, hw4⟩ : ∃ w4, wc.alloc (.cells #[.int .i64 0, .int .i64 0, .int .i64 0, .int .i64 0, .int .i64 0] 147) = w4 := ⟨_, rfl⟩; have hd4 : w4.heap[wc.heap.size]? = some (.cells #[.int .i64 0, .int .i64 0, .int .i64 0, .int .i64 0, .int .i64 0] 147 (0, 0)) := by rw [<- hw4]; exact Kc wc _
 have hx4 : w4.heap[w.heap.size]? = some (.cells #[.int .i64 kind, .int .i64 frm, .int .i64 inc, .int .i64 seq, .int .i64 tgt, .slice ma mn mc] 33 (0, 0)) := by rw [<- hw4]; exact Kp _ hxb
 have hs4 : w4.heap.size = wc.heap.size + 1 := by rw [<- hw4]; simp
 rw [hw4] at hS4 hrow; have hxl := Kb hxb; have HS4 := Hd hS4; have HROW := Hd hrow; have HLN := Hd hln; have HND := Hd hnD; have HOD := Hd hoD; have HD4 := Hd hd4; have HX4 := Hd hx4; have HSZ4 := Hd hs4; have HW4 := Hd hw4; have E20 := Hd e20; clear hS hS4 hrow hln hnD hoD hd4 hx4 hs4 hw4 e20 hxb; go_wp2_with fail
 rw [HW4.out]
 go_loopw [4, 6] (fun s4 s6 wr => ∃ (i : Nat) (q : List Rel) (dn : Rel), i <= ln /\ s6 = .int .i64 (i : Nat) /\ q = (x1.relays.take i).filter (fun r => !rhit m r) /\ q.length <= i /\ Met m x1.relays i dn /\ wr.ownsRow w4.heap.size 147 5 s4 q.length (Za q) /\
   wr.heap[wc.heap.size]? = some (.cells #[.int .i64 dn.seq, .int .i64 dn.tgt, .int .i64 dn.orig, .int .i64 dn.oseq, .int .i64 dn.ends] 147 (0, 0)) /\ Chg (fun k _ => k = wc.heap.size) w4 wr) (fun _ s6 _ => 20 - (intOf s6).toNat)
 case atStart => exact ⟨0, [], rel0, Nat.zero_le _, rfl, rfl, Nat.le_refl _, .inl ⟨rfl, fun r hr => by simp at hr⟩, World.ownsRow_nil _ _ _ _, HD4.out, Chg.refl _ _⟩
 case round =>
  obtain ⟨i, q, dn, hiq, rfl, hqe, hqi, hmet, hrw, hdn, hch⟩ := hrel; obtain ⟨qa, qc, rfl⟩ := Kg hrw; obtain ⟨mm, hmm⟩ : ∃ mm, q.length = mm := ⟨_, rfl⟩; rw [hmm] at hrw hqi ⊢; have hSr := HS4.out.local_ hch hsz HND.out HOD.out; have c20 : wr.cell? ⟨b, 20, none⟩ = some (.slice ra ln rc) := by rw [<- E20.out]; exact hSr.at_.blk.cell (by omega)
  have f20 := hSr.at_.blk.free 20; have hxr := hch.kept _ _ HX4.out (by omega)
  have y3 := Ka hxr 3; have y4 := Ka hxr 4; simp only [List.getElem?_toArray, List.getElem?_cons_succ, List.getElem?_cons_zero] at y3 y4; have hszr := hch.size; have HQE := Hd hqe; have HRW := Hd hrw; have HMT' := Hd hmet; have HDN := Hd hdn; have HCH := Hd hch; have HSR := Hd hSr; have HM := Hd hmm; clear hqe hrw hmet hdn hch hSr hmm hxr; by_cases hil : i < ln
  · obtain ⟨u, hu⟩ : ∃ u, x1.relays[i]? = some u := ⟨_, List.getElem?_eq_getElem (by have := HLN.out; omega)⟩
    have hrr := HSR.out.at_.rel; rw [E20.out, HLN.out] at hrr; obtain ⟨g, rfl, hg, u0, u1, u2, u3, u4⟩ := rel_at hrr hu; have hsn := filter_snoc (fun r => !rhit m r) x1.relays hu
    rw [<- HQE.out] at hsn; have HSN := Hd hsn; have HU := Hd hu; have hwn := Kc wr (.cells #[.int .i64 u.seq, .int .i64 u.tgt, .int .i64 u.orig, .int .i64 u.oseq, .int .i64 u.ends] 147); have hrh : rhit m u = (u.seq == seq && u.tgt == tgt) := by unfold rhit; rw [HMS.out, HMT.out]
    have HRH := Hd hrh; clear hrr hu hsn hrh; obtain ⟨useq, utgt, uorig, uoseq, uends⟩ := u; simp only at u0 u1 u2 u3 u4 hwn; obtain ⟨w5, hw5⟩ : ∃ w5, wr.alloc (.cells #[.int .i64 useq, .int .i64 utgt, .int .i64 uorig, .int .i64 uoseq, .int .i64 uends] 147) = w5 := ⟨_, rfl⟩; have hr5 : w5.heap[wr.heap.size]? = some (.cells #[.int .i64 useq, .int .i64 utgt, .int .i64 uorig, .int .i64 uoseq, .int .i64 uends] 147 (0, 0)) := by rw [<- hw5]; exact Kc wr _
    have hd5 : w5.heap[wc.heap.size]? = some (.cells #[.int .i64 dn.seq, .int .i64 dn.tgt, .int .i64 dn.orig, .int .i64 dn.oseq, .int .i64 dn.ends] 147 (0, 0)) := by rw [<- hw5]; exact Kp _ HDN.out
    have hrw5 : w5.ownsRow w4.heap.size 147 5 (.slice qa mm qc) mm (Za q) := by rw [<- hw5]; exact HRW.out.alloc _
    have hch5 : Chg (fun k _ => k = wc.heap.size) w4 w5 := by rw [<- hw5]; exact HCH.out.alloc _
    have hs5 : w5.heap.size = wr.heap.size + 1 := by rw [<- hw5]; simp
    have z0 := Ka hr5 0; have z1 := Ka hr5 1; have z2 := Ka hr5 2; have z3 := Ka hr5 3; have z4 := Ka hr5 4; simp only [List.getElem?_toArray, List.getElem?_cons_succ, List.getElem?_cons_zero] at z0 z1 z2 z3 z4; have hxl5 : w5.cell? ⟨w.heap.size, 3, none⟩ = some (.int .i64 seq) := by rw [<- hw5, World.cell?_alloc_lt _ _ _ (World.block_lt_of_cell? _ _ y3)]; exact y3
    have hxl6 : w5.cell? ⟨w.heap.size, 4, none⟩ = some (.int .i64 tgt) := by rw [<- hw5, World.cell?_alloc_lt _ _ _ (World.block_lt_of_cell? _ _ y4)]; exact y4
    have dd0 := Ka hd5 0; have dd1 := Ka hd5 1; have dd2 := Ka hd5 2; have dd3 := Ka hd5 3; have dd4 := Ka hd5 4; simp only [List.getElem?_toArray, List.getElem?_cons_succ, List.getElem?_cons_zero] at dd0 dd1 dd2 dd3 dd4; have fd := Kr hd5; have HW5 := Hd hw5; have HR5 := Hd hr5; have HD5 := Hd hd5; have HRW5 := Hd hrw5; have HCH5 := Hd hch5; have HS5 := Hd hs5; clear hwn hw5 hr5 hd5 hrw5 hch5 hs5; by_cases hhit : useq = seq /\ utgt = tgt
    · obtain ⟨hq1, hq2⟩ := hhit
      have q1b : (useq == seq) = true := by simpa using hq1
      have q2b : (utgt == tgt) = true := by simpa using hq2
      have hrt : rhit m ⟨useq, utgt, uorig, uoseq, uends⟩ = true := by rw [HRH.out]; simp only [q1b, q2b, Bool.and_self]
      obtain ⟨h5a, h5b⟩ := five_set HD5.out (.int .i64 useq) (.int .i64 utgt) (.int .i64 uorig) (.int .i64 uoseq) (.int .i64 uends); have hrw6 := Kq HRW5.out h5b (fun k o e hk => by have := (HRW5.out.lt k e).1; have := HSZ4.out; omega)
      have hsn2 := HSN.out; simp only [hrt, Bool.not_true, Bool.false_eq_true, if_false, List.append_nil] at hsn2; have HSN2 := Hd hsn2; have HRT := Hd hrt; have H5A := Hd h5a; have H5B := Hd h5b; have HRW6 := Hd hrw6; clear hq1 hq2 hrt h5a h5b hrw6 hsn2; go_upto_region 9 with (fail); rw [HW5.out]; go_wp2; go_roundw
      case rel => exact ⟨i + 1, q, ⟨useq, utgt, uorig, uoseq, uends⟩, by omega, by go_num, HSN2.out.symm, by rw [HM.out]; omega, Met.hit HU.out HRT.out, by rw [HM.out]; exact HRW6.out, H5A.out, HCH5.out.trans H5B.out⟩
      case measure => simp [intOf]; omega
    · have hrt : rhit m ⟨useq, utgt, uorig, uoseq, uends⟩ = false := by
       rw [HRH.out]; rw [Bool.and_eq_false_iff, beq_eq_false_iff_ne, beq_eq_false_iff_ne]; by_cases e : useq = seq
       · exact .inr (fun e2 => hhit ⟨e, e2⟩)
       · exact .inl e
      have hways : (useq == seq) = false \/ (useq == seq) = true /\ (utgt == tgt) = false := by
       by_cases e : useq = seq
       · exact .inr ⟨by simpa using e, by simpa using fun e2 => hhit ⟨e, e2⟩⟩
       · exact .inl (by simpa using e)
      have hsn2 := HSN.out; simp only [hrt, Bool.not_false, if_true] at hsn2; have HSN2 := Hd hsn2; have HRT := Hd hrt; have hrw6 : (w5.alloc (.cells #[.int .i64 useq, .int .i64 utgt, .int .i64 uorig, .int .i64 uoseq, .int .i64 uends] 147)).ownsRow w4.heap.size 147 5 (.slice qa mm qc) mm (Za q) := HRW5.out.alloc _; have HRW6 := Hd hrw6; have HNEW : Hid (Ki (w5.alloc (.cells #[.int .i64 useq, .int .i64 utgt, .int .i64 uorig, .int .i64 uoseq, .int .i64 uends] 147)) (some ⟨w5.heap.size, 0, none⟩) [.int .i64 useq, .int .i64 utgt, .int .i64 uorig, .int .i64 uoseq, .int .i64 uends]) := Jx w5 [.int .i64 useq, .int .i64 utgt, .int .i64 uorig, .int .i64 uoseq, .int .i64 uends] 147; have k3 : mm + 1 <= maxLen := by unfold maxLen; omega
      have K3 := Hd k3; have hw45 : w4.heap.size <= w5.heap.size := by have := HS5.out; omega
      clear hhit hrt hsn2 hrw6 k3; rcases hways with h1 | ⟨h1, h2⟩
      all_goals
       go_upto_region 9 with (fail); rw [HW5.out]; go_wp2_with (at_builtin; go_loud (refine Km _ rfl _ _ 91 rfl w4.heap.size 147 i0 _ 5 40 Tryz.underlying91 hi hz0 hz1 hz2 rfl (by decide) (.slice qa mm qc) mm _ rfl HRW6.out (some ⟨w5.heap.size, 0, none⟩) 1 1 _ rfl rfl HNEW.out (by simp [Value.oneCell']) K3.out (by omega) (by simp; omega) ?_))
       intro a7 c7 w7 hl7 hto7; have hb7 : Below w4.heap.size w5 w7 := ((Below.refl _ w5).alloc hw45 _).grown hto7.grown (by simp; omega) (fun j hj => (HRW5.out.lt j hj).1)
       have hch7 : Chg (fun k _ => k = wc.heap.size) w4 w7 := ⟨hb7.os.trans HCH5.out.os, hb7.tape.trans HCH5.out.tape, hb7.output.trans HCH5.out.output, Nat.le_trans HCH5.out.size hb7.size, fun k o hk hs => (hb7.block k (Kb hk)).trans (HCH5.out.kept k o hk hs)⟩
       have hd7 := (hb7.block _ (by have := HSZ4.out; omega)).trans HD5.out
       have HL7 := Hd hl7; have HCH7 := Hd hch7; have HD7 := Hd hd7; clear hl7 hto7 hb7 hch7 hd7; go_wp2; go_roundw
       case rel => exact ⟨i + 1, q ++ [⟨useq, utgt, uorig, uoseq, uends⟩], dn, by omega, by go_num, HSN2.out.symm, by rw [List.length_append, HM.out]; show mm + 1 <= _; omega, HMT'.out.miss HU.out HRT.out, by rw [List.length_append, HM.out, relCells_snoc]; exact HL7.out, HD7.out, HCH7.out⟩
       case measure => simp [intOf]; omega
  · have hall : x1.relays.take i = x1.relays := List.take_of_length_le (by have := HLN.out; omega)
    have hq := HQE.out; rw [hall] at hq; have hsr6 := HSR.out.cell (HSR.out.at_.setRelays (l := q) (by rw [HM.out]; exact Jl HRW.out (by have := HSZ4.out; omega))) (by omega) (fun k hk _ => by have := (HRW.out.lt k hk).1; have := HSZ4.out; omega)
    have hd6 : (wr.setCell ⟨b, 20, none⟩ (.slice qa mm qc)).heap[wc.heap.size]? = some (.cells #[.int .i64 dn.seq, .int .i64 dn.tgt, .int .i64 dn.orig, .int .i64 dn.oseq, .int .i64 dn.ends] 147 (0, 0)) := by
     rw [Kj _ _ _ _ _ (by omega)]; exact HDN.out
    obtain ⟨w6, hw6⟩ : ∃ w6, wr.setCell ⟨b, 20, none⟩ (.slice qa mm qc) = w6 := ⟨_, rfl⟩; rw [hw6] at hd6 hsr6; have z0 := Ka hd6 0; have z1 := Ka hd6 1; have z2 := Ka hd6 2; have z3 := Ka hd6 3; simp only [List.getElem?_toArray, List.getElem?_cons_succ, List.getElem?_cons_zero] at z0 z1 z2 z3; have hmet := HMT'.out; unfold Met at hmet; rw [hall] at hmet; have HW6 := Hd hw6; have HSR6 := Hd hsr6; have HQ := Hd hq; clear hall hq hsr6 hd6 hw6 y3 y4
    have hxa : x.acked m = match x1.relays.find? (fun r => r.seq == m.seq && r.tgt == m.tgt) with
      | none => ([], x1)
      | some r => ([(r.orig, ({ x1 with relays := x1.relays.filter (fun r => !(r.seq == m.seq)) } : Nd).msg ⟨2, 0, 0, r.oseq, r.tgt, []⟩)], ({ x1 with relays := x1.relays.filter (fun r => !(r.seq == m.seq)) } : Nd).sent ⟨2, 0, 0, r.oseq, r.tgt, []⟩) := by
     rw [<- HXX.out]; rfl
    rcases hmet with ⟨rfl, hno⟩ | ⟨hin, hh⟩
    · obtain ⟨h1, h2⟩ := relays_none hno
      rw [h1] at hxa; have hq2 : { x1 with relays := q } = x1 := by rw [HQ.out, h2]
      have HXA := Hd hxa; have HQ2 := Hd hq2; unfold rel0 at z0 z1 z2 z3; simp only at z0 z1 z2 z3; clear hxa hno h1 h2 hq2; go_upto_region 13 with (fail); rw [HW6.out]; go_wp2
      ((try simp only [Exit.inBlock, Exit.then]); first | refine bodyPost_ret (results_none rfl _ _ _) rfl ?_ | refine bodyPost_end (results_none rfl _ _ _) rfl ?_)
      refine ⟨rfl, upd f1 20 (.slice qa mm qc), ?_⟩; rw [HMM.out, HXA.out, List.append_nil, <- HQ2.out]; exact HSR6.out
    · obtain ⟨h1, h2⟩ := relays_some HOK1.out.rnd hin hh
      have hro := HOK1.out.rok dn hin; rw [h1] at hxa; simp only at hxa; rw [<- h2, <- HQ.out] at hxa; have hok2 : Ok { x1 with relays := q } := HOK1.out.relaysOf (by rw [HQ.out]; exact List.filter_sublist)
      have HXA := Hd hxa; have HOK2 := Hd hok2; have hds : decide ((0 : Int) < dn.seq) = true := decide_eq_true (by omega)
      have hos := hro.2.2.2.1; clear hxa hin hh h1 h2 hro hok2; obtain ⟨dseq, dtgt, dorig, doseq, dends⟩ := dn; simp only at z0 z1 z2 z3 hds hos HXA; go_upto_region 13 with (fail); rw [HW6.out]; go_wp2_with fail
      refine (rsend_any HSR6.out.at_ HSR6.out.out HOK2.out (by have := HSR6.out.chg.size; omega) (by omega) dorig 2 doseq dtgt hos [] none 0 0 rfl (by omega) (fun j' k' h' => by simp at h') (fun k' h' => by simp at h')).mono ?_
      rintro e w8 ⟨rfl, f8, hS8⟩; have HS8 := Hd (HSR6.out.trans hS8); clear hS8; go_wp2
      ((try simp only [Exit.inBlock, Exit.then]); first | refine bodyPost_ret (results_none rfl _ _ _) rfl ?_ | refine bodyPost_end (results_none rfl _ _ _) rfl ?_)
      refine ⟨rfl, f8, ?_⟩; rw [HMM.out, HXA.out]; exact HS8.out
