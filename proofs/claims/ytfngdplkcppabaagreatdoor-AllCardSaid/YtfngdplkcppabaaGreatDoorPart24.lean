/-
  Texts of the proof: RfTick, RfNew. No condition.
-/
import Derived.Test.YtfngdplkcppabaaGreatDoorPart01
import Derived.Test.YtfngdplkcppabaaGreatDoorPart23
set_option linter.all false
set_option maxRecDepth 100000
set_option maxHeartbeats 4000000
namespace Go.Proofs.YtfngdplkcppabaaGreatDoor
open Go.RowKit
theorem rwaits_len {x : Nd} (h : Ok x) : x.waits.1.length <= 3 := by
 have hc := (cfg_bounds' h.cfg).2.2.2.2.1; unfold Nd.waits; cases x.probe with
 | none => exact Nat.zero_le _
 | some p =>
  simp only
  split
  · exact Nat.le_trans (askAll_len _ _ _ _) (by omega)
  · exact Nat.zero_le _
theorem rwaits_none {x : Nd} (h : x.probe = none) : x.waits = ([], x) := by unfold Nd.waits; rw [h]
theorem foldl_ds (l : List Mem) : ∀ y : Nd, (l.foldl hearDead y).ds = y.ds := by
 induction l with
 | nil => intro y; rfl
 | cons m l ih => intro y; rw [List.foldl_cons, ih]; exact (same_hear _ _).ds
theorem waits_ds (z : Nd) : z.waits.2.ds = z.ds := by
 unfold Nd.waits; cases z.probe with
 | none => rfl
 | some p =>
  simp only
  have h1 : ∀ y : Nd, (y.endProbe p).ds = y.ds := fun y => by
   unfold Nd.endProbe
   split
   · rfl
   · simp only
     split
     · rfl
     · split
       · exact (same_hear _ _).ds
       · rfl
  rw [h1]
  split
  · obtain ⟨k, q, e⟩ := raskAll_shape p z.c.prox.toNat (z.helpers p) z
    rw [e]
  · rfl
theorem rtick_any {B b : Nat} {w : World} {f : Nat -> Value} {x : Nd} (h : RfAt w B b f x) (ho : Ok x) {C : Int} (hbd : Bd C x) (hC : C <= 3000000000) (hdl : x.ds.length <= 1000000) (hB : B <= w.heap.size) :
  Calls Tryz.prog 42 #[.pointer (some ⟨b, 0, none⟩)] w fun e w' => ∃ v, e = .returned v /\ RGives B b w f x.tick v w' := by
 obtain ⟨oa, on, oc, e24⟩ := h.o24; have c24 : w.cell? ⟨b, 24, none⟩ = some (.slice oa on oc) := by rw [<- e24]; exact h.blk.cell (by omega)
 have f24 := h.blk.free 24; have c8 : w.cell? ⟨b, 8, none⟩ = some (.int .i64 x.clock) := by rw [<- h.n8]; exact h.blk.cell (by omega)
 have f8 := h.blk.free 8; have hbl := h.blk.lt; have hcl := hbd.clock; have wc1 : IntKind.i64.wrap (x.clock + 1) = x.clock + 1 := IntWalk.i64_in _ (by omega)
 have hS1 := h.noOut; have hS2 := hS1.cell (hS1.at_.setClock (x.clock + 1)) (by omega) (fun k hk => by simp [Value.ownBlock] at hk)
 obtain ⟨w2, hw2⟩ : ∃ w2, (w.setCell ⟨b, 24, none⟩ (.slice none 0 0)).setCell ⟨b, 8, none⟩ (.int .i64 (x.clock + 1)) = w2 := ⟨_, rfl⟩; obtain ⟨f2, hf2⟩ : ∃ f2, upd (upd f 24 (.slice none 0 0)) 8 (.int .i64 (x.clock + 1)) = f2 := ⟨_, rfl⟩; rw [hw2, hf2] at hS2; have hsz2 : w2.heap.size = w.heap.size := by rw [<- hw2]; simp
 obtain ⟨ra, rc, e20⟩ := Kg hS2.at_.rel; obtain ⟨rn, hrn⟩ : ∃ rn, x.relays.length = rn := ⟨_, rfl⟩; have e20' : f2 20 = .slice ra rn rc := by rw [e20]; show Value.slice ra x.relays.length rc = _; rw [hrn]
 have hrow := hS2.at_.rel; rw [e20', show ({ x with clock := x.clock + 1 } : Nd).relays = x.relays from rfl, hrn] at hrow; have hrl : rn <= 4 := by rw [<- hrn]; exact ho.rlen
 have d20 : w2.cell? ⟨b, 20, none⟩ = some (.slice ra rn rc) := by rw [<- e20']; exact hS2.at_.blk.cell (by omega)
 have d8 : w2.cell? ⟨b, 8, none⟩ = some (.int .i64 (x.clock + 1)) := by rw [show Value.int .i64 (x.clock + 1) = f2 8 from hS2.at_.n8.symm]; exact hS2.at_.blk.cell (by omega)
 obtain ⟨y, hy⟩ : ∃ y : Nd, { x with clock := x.clock + 1, relays := x.relays.filter (fun r => decide (x.clock + 1 < r.ends)) } = y := ⟨_, rfl⟩
 have hoky : Ok y := by
  rw [<- hy]
  have h1 : Ok { x with clock := x.clock + 1 } :=
   { ho with
     rok := fun r hr => by
      obtain ⟨a1, a2, a3, a4, a5⟩ := ho.rok r hr; exact ⟨a1, a2, a3, a4, a5.1, by show r.ends <= x.clock + 1 + 50; omega⟩
     prb := fun p hp => by
      obtain ⟨a1, a2, a3⟩ := ho.prb p hp; exact ⟨a1, a2, a3.1, by show p.start <= x.clock + 1; omega⟩
     due := fun m hm => by
      obtain ⟨a1, a2⟩ := ho.due m hm; exact ⟨a1, by show m.due <= x.clock + 1 + 500; omega⟩ }
  exact h1.relaysOf List.filter_sublist
 have hbdy : Bd (C + 1) y := by
  rw [<- hy]; have hb := hbd.mono (C := C + 1) (by omega)
  exact ⟨by show 0 <= x.clock + 1 /\ x.clock + 1 <= C + 1; omega, hb.seq, hb.dropped, hb.lost, hb.at_⟩
 obtain ⟨i0, hi, hz0, hz1, hz2⟩ := info_parts info_rel; have HS2 := Hd hS2; have HW2 := Hd hw2; have HROW := Hd hrow; have HRN := Hd hrn; have HE20 := Hd e20'; have HY := Hd hy; have HOKY := Hd hoky; have HBY := Hd hbdy; have HSZ2 := Hd hsz2; have hyd : y.ds = x.ds := by rw [<- hy]
 have hyk : y.clock = x.clock + 1 := by rw [<- hy]
 have HYD := Hd hyd; have HYK := Hd hyk; have hbl2 := hS2.at_.blk.lt; clear h ho hbd hS1 hS2 hw2 hf2 e24 e20 e20' hrow hrn hy hoky hbdy hsz2 hyd hyk; go_enter Tryz.func42, Tryz.ntmps42; go_wp2_with fail
 rw [HW2.out]; go_loopw [3, 4] (fun s3 s4 wr => ∃ (i : Nat) (q : List Rel), i <= rn /\ s4 = .int .i64 (i : Nat) /\ q = (x.relays.take i).filter (fun r => decide (x.clock + 1 < r.ends)) /\ q.length <= i /\ wr.ownsRow w2.heap.size 147 5 s3 q.length (Za q) /\ Below w2.heap.size w2 wr) (fun _ s4 _ => 20 - (intOf s4).toNat)
 case atStart => exact ⟨0, [], Nat.zero_le _, rfl, rfl, Nat.le_refl _, World.ownsRow_nil _ _ _ _, Below.refl _ _⟩
 case round =>
  obtain ⟨i, q, hiq, rfl, hqe, hqi, hrw, hb⟩ := hrel; obtain ⟨qa, qc, rfl⟩ := Kg hrw; obtain ⟨mm, hmm⟩ : ∃ mm, q.length = mm := ⟨_, rfl⟩; rw [hmm] at hrw hqi ⊢; have HQE := Hd hqe; have HRW := Hd hrw; have HB := Hd hb; have HM := Hd hmm; have hszr := hb.size; have r20 := (hb.cell (p := ⟨b, 20, none⟩) hbl2).trans d20; have r8 := (hb.cell (p := ⟨b, 8, none⟩) hbl2).trans d8; clear hqe hrw hb hmm; by_cases hil : i < rn
  · obtain ⟨u, hu⟩ : ∃ u, x.relays[i]? = some u := ⟨_, List.getElem?_eq_getElem (by have := HRN.out; omega)⟩
    obtain ⟨g, rfl, hg, u0, u1, u2, u3, u4⟩ := rel_at (Ks HROW.out HB.out) hu; have hsn := filter_snoc (fun r => decide (x.clock + 1 < r.ends)) x.relays hu
    rw [<- HQE.out] at hsn; have HSN := Hd hsn; clear hu hsn; obtain ⟨useq, utgt, uorig, uoseq, uends⟩ := u; simp only at u0 u1 u2 u3 u4; by_cases hgo : x.clock + 1 < uends
    · have hgb : decide (x.clock + 1 < uends) = true := by simpa using hgo
      have hsn2 := HSN.out; simp only [hgb, if_true] at hsn2; have HSN2 := Hd hsn2; have hrw6 : ∀ n, ((wr.alloc (.cells #[.int .i64 useq, .int .i64 utgt, .int .i64 uorig, .int .i64 uoseq, .int .i64 uends] 147)).drewN n).ownsRow w2.heap.size 147 5 (.slice qa mm qc) mm (Za q) := fun n => Je (HRW.out.alloc _) (fun _ _ => rfl)
      have HRW6 := Hd hrw6; have HNEW : Hid (∀ n, Ki ((wr.alloc (.cells #[.int .i64 useq, .int .i64 utgt, .int .i64 uorig, .int .i64 uoseq, .int .i64 uends] 147)).drewN n) (some ⟨wr.heap.size, 0, none⟩) [.int .i64 useq, .int .i64 utgt, .int .i64 uorig, .int .i64 uoseq, .int .i64 uends]) := Hd (fun _ => Jx wr [.int .i64 useq, .int .i64 utgt, .int .i64 uorig, .int .i64 uoseq, .int .i64 uends] 147)
      have k3 : mm + 1 <= maxLen := by unfold maxLen; omega
      have K3 := Hd k3; clear hsn2 hrw6 k3 hgo; go_upto_region 7 with (fail); go_quiet (fail); go_wp2_with (at_builtin; go_loud (refine Km _ rfl _ _ 91 rfl w2.heap.size 147 i0 _ 5 40 Tryz.underlying91 hi hz0 hz1 hz2 rfl (by decide) (.slice qa mm qc) mm _ rfl (HRW6.out _) (some ⟨wr.heap.size, 0, none⟩) 1 1 _ rfl rfl (HNEW.out _) (by simp [Value.oneCell']) K3.out (by omega) (by simp; omega) ?_))
      intro a7 c7 w7 hl7 hto7; have hb7 : Below w2.heap.size w2 w7 := (Below.drewR (HB.out.alloc hszr _) _).grown hto7.grown (by simp; omega) (fun j hj => (HRW.out.lt j hj).1)
      have HL7 := Hd hl7; have HB7 := Hd hb7; clear hl7 hto7 hb7; go_wp2; go_roundw
      case rel => exact ⟨i + 1, q ++ [⟨useq, utgt, uorig, uoseq, uends⟩], by omega, by go_num, HSN2.out.symm, by rw [List.length_append, HM.out]; show mm + 1 <= _; omega, by rw [List.length_append, HM.out, relCells_snoc]; exact HL7.out, HB7.out⟩
      case measure => simp [intOf]; omega
    · have hgb : decide (x.clock + 1 < uends) = false := by simpa using hgo
      have hsn2 := HSN.out; simp only [hgb, Bool.false_eq_true, if_false, List.append_nil] at hsn2; have HSN2 := Hd hsn2; clear hsn2 hgo; go_upto_region 7 with (fail); go_quiet (fail); go_wp2; go_roundw
      case rel => exact ⟨i + 1, q, by omega, by go_num, HSN2.out.symm, by rw [HM.out]; omega, by rw [HM.out]; exact Je HRW.out (fun _ _ => rfl), Below.drewR HB.out _⟩
      case measure => simp [intOf]; omega
  · have hall : x.relays.take i = x.relays := List.take_of_length_le (by have := HRN.out; omega)
    have hq := HQE.out; rw [hall] at hq; have hS3 := HS2.out.below HB.out; have f20r := hS3.at_.blk.free 20; have hS4 := hS3.cell (hS3.at_.setRelays (l := q) (by rw [HM.out]; exact Jl HRW.out (by have := HSZ2.out; omega))) (by omega) (fun k hk _ => by have := (HRW.out.lt k hk).1; have := HSZ2.out; omega)
    have hyq : ({ { x with clock := x.clock + 1 } with relays := q } : Nd) = y := by rw [hq]; exact HY.out
    rw [hyq] at hS4; obtain ⟨w4, hw4⟩ : ∃ w4, wr.setCell ⟨b, 20, none⟩ (.slice qa mm qc) = w4 := ⟨_, rfl⟩; rw [hw4] at hS4; have HS4 := Hd hS4; have HW4 := Hd hw4; clear hall hq hS3 hS4 hyq hw4 HS2 HROW HB HRW HQE; go_wp2_with fail
    rw [HW4.out]; go_loopw [5] (fun s5 wr => ∃ (j : Nat) (fz : Nat -> Value) (z : Nd), s5 = .int .i64 (j : Nat) /\ j <= 7 /\ RSt w.heap.size B b w f wr fz z [] /\ Dues y z j /\ Bd (C + 1 + j) z) (fun s5 _ => 20 - (intOf s5).toNat)
    case atStart => exact ⟨0, _, y, rfl, by omega, HS4.out, Dues.start HOKY.out, by simpa using HBY.out⟩
    case round =>
     obtain ⟨j, fz, z, rfl, hj7, hS, hD, hbz⟩ := hrel; obtain ⟨la, lc, e13⟩ := Kg hS.at_.oth; obtain ⟨ln, hln⟩ : ∃ ln, z.others.length = ln := ⟨_, rfl⟩; have hrz := hS.at_.oth; rw [e13, hln] at hrz; rw [hln] at e13; have e8 : wr.cell? ⟨b, 13, none⟩ = some (.slice la ln lc) := by rw [<- e13]; exact hS.at_.blk.cell (by omega)
     have hokz := hD.ok; have hl7 : ln <= 7 := by rw [<- hln]; exact hokz.len
     have hdc := hD.clock; obtain ⟨ck, hck⟩ : ∃ ck, y.clock = ck := ⟨_, rfl⟩; rw [hck] at hdc; have c8z : wr.cell? ⟨b, 8, none⟩ = some (.int .i64 ck) := by rw [<- hdc, <- hS.at_.n8]; exact hS.at_.blk.cell (by omega)
     have HSZ := Hd hS; have HD := Hd hD; have HBZ := Hd hbz; have HOKZ := Hd hokz; have HLNZ := Hd hln; have HRZ := Hd hrz; have HCK := Hd hck; have hblz := hS.at_.blk.lt; clear hS hD hbz hokz hln hrz e13 hdc hck r20 r8 c24 f24 c8 f8 d20 d8 wc1 HS4; by_cases hjl : j < ln
     · obtain ⟨u, hu⟩ : ∃ u, z.others[j]? = some u := ⟨_, List.getElem?_eq_getElem (by have := HLNZ.out; omega)⟩
       obtain ⟨g, rfl, hg, u0, u1, u2, u3⟩ := mr_at HRZ.out hu; obtain ⟨nd, hnd⟩ : ∃ nd, (nrm u).due = nd := ⟨_, rfl⟩; rw [hnd] at u3; have hku := HOKZ.out.key u (List.mem_of_getElem? hu); have HU := Hd hu; have HND := Hd hnd; have HKU := Hd hku; obtain ⟨w5, hw5⟩ : ∃ w5, wr.alloc (.cells #[.int .i64 u.k.id, .int .i64 u.k.inc, .int .i64 u.k.st, .int .i64 nd] 149) = w5 := ⟨_, rfl⟩; have hx5 : w5.heap[wr.heap.size]? = some (.cells #[.int .i64 u.k.id, .int .i64 u.k.inc, .int .i64 u.k.st, .int .i64 nd] 149 (0, 0)) := by rw [<- hw5]; exact Kc wr _
       have hb5 : Below wr.heap.size wr w5 := by rw [<- hw5]; exact (Below.refl _ _).alloc (Nat.le_refl _) _
       have z0 := Ka hx5 0; have z1 := Ka hx5 1; have z2 := Ka hx5 2; have z3 := Ka hx5 3; simp only [List.getElem?_toArray, List.getElem?_cons_succ, List.getElem?_cons_zero] at z0 z1 z2 z3; have c85 := (hb5.cell (p := ⟨b, 8, none⟩) hblz).trans c8z; have HW5 := Hd hw5; have HS5 := Hd (HSZ.out.below hb5); obtain ⟨⟨uid, uinc, ust⟩, udue⟩ := u; simp only at u0 u1 u2 z0 z1 z2; clear hu hnd hku hw5 hx5 hb5; by_cases h2 : ust = 2
       · have h2b : (ust == 2) = true := by simpa using h2
         have hnd2 : nd = udue := by rw [<- HND.out]; unfold nrm; simp only; rw [if_pos h2]
         by_cases hdu : nd <= ck
         · have hdb : decide (nd <= ck) = true := by simpa using hdu
           have hrd : rdue y.clock ⟨⟨uid, uinc, ust⟩, udue⟩ = true := by unfold rdue; rw [HCK.out]; simp only [h2b, Bool.true_and]; rw [<- hnd2]; exact hdb
           have hmore := HD.out.more HBY.out.clock.1 HU.out hrd; have hhd := fun n => rheard_any (HS5.out.drewN n).at_ (HS5.out.drewN n).out HOKZ.out HBZ.out (by omega) ⟨uid, uinc, 3⟩ ⟨HKU.out.1, HKU.out.2.1, by show (1 : Int) <= 3 /\ (3 : Int) <= 4; omega⟩
           have HMO := Hd hmore; have HHD := Hd hhd; clear hrd hmore hhd h2 hnd2 hdu; go_upto_region 14 with (fail); rw [HW5.out]; go_quiet (fail); go_wp2_with fail
           refine (HHD.out _).mono ?_; rintro e w6 ⟨rfl, f6, hS6⟩; have HS6 := Hd ((HS5.out.drewN _).trans hS6); clear hS6; go_wp2; go_roundw
           case rel => exact ⟨j + 1, f6, _, by go_num, by omega, HS6.out, HMO.out, (HBZ.out.hear _).mono (by omega)⟩
           case measure => simp [intOf]; omega
         · have hdb : decide (nd <= ck) = false := by simpa using hdu
           have hrd : rdue y.clock ⟨⟨uid, uinc, ust⟩, udue⟩ = false := by unfold rdue; rw [HCK.out]; simp only [h2b, Bool.true_and]; rw [<- hnd2]; exact hdb
           have HSK := Hd (HD.out.skip HU.out hrd); clear hrd h2 hnd2 hdu; go_upto_region 14 with (fail); rw [HW5.out]; go_quiet (fail); go_wp2; go_roundw
           case rel => exact ⟨j + 1, fz, z, by go_num, by omega, HS5.out.drewN _, HSK.out, HBZ.out.mono (by omega)⟩
           case measure => simp [intOf]; omega
       · have h2b : (ust == 2) = false := by simpa using h2
         have hrd : rdue y.clock ⟨⟨uid, uinc, ust⟩, udue⟩ = false := by unfold rdue; simp only [h2b, Bool.false_and]
         have HSK := Hd (HD.out.skip HU.out hrd); clear hrd h2; go_upto_region 14 with (fail); rw [HW5.out]; go_quiet (fail); go_wp2; go_roundw
         case rel => exact ⟨j + 1, fz, z, by go_num, by omega, HS5.out.drewN _, HSK.out, HBZ.out.mono (by omega)⟩
         case measure => simp [intOf]; omega
     · have hzc : z = x.clocked := by
        have hD := HD.out; rw [<- HY.out] at hD; exact hD.done (by have := HLNZ.out; omega)
       have hbz8 : Bd (C + 8) z := HBZ.out.mono (by omega)
       obtain ⟨tg, htg⟩ : ∃ tg, tgtP z.probe = tg := ⟨_, rfl⟩; have c15 : wr.cell? ⟨b, 15, none⟩ = some (.int .i64 tg) := by rw [<- htg, <- HSZ.out.at_.n15]; exact HSZ.out.at_.blk.cell (by omega)
       have HTG := Hd htg; have hpr := HOKZ.out.prb
       have hzd : z.ds.length <= 1000000 := by
        have e := HD.out.fold; have e2 : z.ds = y.ds := by rw [e]; exact foldl_ds _ _
        rw [e2, HYD.out]; exact hdl
       have HZC := Hd hzc; have HBZ8 := Hd hbz8; have HPR := Hd hpr; have HZD := Hd hzd; clear hzc hbz8 hpr hzd HD HBZ htg; go_upto_if 96 with (fail); go_cut [] (fun wx => ∃ f3, RSt w.heap.size B b w f wx f3 z.waits.2 z.waits.1)
       case first =>
        cases hp : z.probe with
        | none =>
         have ht0 : tg = 0 := by rw [<- HTG.out, hp]; rfl
         subst ht0; have HW := Hd (rwaits_none hp); clear hp; go_wp2; go_meet
         case rel => exact ⟨fz, by rw [HW.out]; exact HSZ.out⟩
        | some p =>
         have hpb : (0 : Int) < tg := by have := (HPR.out p hp).1.1; rw [<- HTG.out, hp]; show 0 < p.tgt; omega
         have HPB := Hd (rprobing_any HSZ.out.at_ HSZ.out.out HOKZ.out HBZ8.out (by omega) HZD.out (by have := HSZ.out.chg.size; omega) (by simp) p hp)
         clear hp; go_wp2_with fail
         refine HPB.out.mono ?_; rintro e w6 ⟨rfl, f6, hS6⟩; have HS6 := Hd (HSZ.out.trans hS6); clear hS6; go_wp2; go_meet
         case rel => exact ⟨f6, by have := HS6.out; rw [List.nil_append] at this; exact this⟩
       case rest =>
        obtain ⟨f3, hS3⟩ := hcut; have hgw := good_waits HOKZ.out HBZ8.out (by omega)
        have hwl := rwaits_len HOKZ.out; obtain ⟨r, hr⟩ : ∃ r, z.waits = r := ⟨_, rfl⟩; rw [hr] at hS3 hgw hwl; obtain ⟨rps, rn'⟩ := r; simp only at hS3 hwl; have hokr : Ok rn' := hgw.ok; have hbdr : Bd (C + 8 + 4) rn' := hgw.bd
        have htk : x.tick = if rn'.probe.isNone /\ rn'.self.st ≠ 4 then (rps ++ rn'.begins.1, rn'.begins.2) else (rps, rn') := by
         unfold Nd.tick; rw [<- HZC.out, hr]
        have hrd : rn'.ds.length <= 1000000 := by
         have e : rn' = z.waits.2 := by rw [hr]
         rw [e, waits_ds]; exact HZD.out
        have c15r : wc.cell? ⟨b, 15, none⟩ = some (.int .i64 (tgtP rn'.probe)) := by rw [<- hS3.at_.n15]; exact hS3.at_.blk.cell (by omega)
        have c12r : wc.cell? ⟨b, 12, none⟩ = some (.int .i64 rn'.self.st) := by rw [<- hS3.at_.s12]; exact hS3.at_.blk.cell (by omega)
        have hprr := hokr.prb; obtain ⟨pa, pn, pc, e24, c24⟩ := hS3.outCell; have HS3 := Hd hS3; have HOKR := Hd hokr; have HBDR := Hd hbdr; have HTK := Hd htk; have HRD := Hd hrd; have HPRR := Hd hprr; have E24 := Hd e24; have hszc : w.heap.size <= wc.heap.size := by have := hS3.chg.size; omega
        have hBc : B <= wc.heap.size := by omega
        clear hS3 hokr hbdr hgw htk hr hrd hprr e24; go_upto_region 18 with (fail); go_cut [111] (fun s111 wx => ∃ bc, s111 = .bool bc /\ (bc = true ↔ rn'.probe.isNone /\ rn'.self.st ≠ 4) /\ wx = wc)
        case first =>
         cases hp : rn'.probe with
         | none =>
          rw [hp] at c15r; unfold tgtP at c15r; by_cases h4 : rn'.self.st = 4
          · have h4b : (rn'.self.st != 4) = false := by simpa using h4
            have H4 := Hd h4; have HPN := Hd hp; clear hp h4; go_wp2; go_meet
            case rel => exact ⟨_, rfl, ⟨(fun h => by cases h), fun h => absurd H4.out h.2⟩, rfl⟩
          · have h4b : (rn'.self.st != 4) = true := by simpa using h4
            have H4 := Hd h4; have HPN := Hd hp; clear hp h4; go_wp2; go_meet
            case rel => exact ⟨_, rfl, ⟨fun _ => ⟨by rw [HPN.out]; rfl, H4.out⟩, fun _ => rfl⟩, rfl⟩
         | some p =>
          have hpt := (HPRR.out p hp).1.1; rw [hp] at c15r; unfold tgtP at c15r; have hpb : (p.tgt == 0) = false := by simp; omega
          have HPN := Hd hp; clear hp; go_wp2; go_meet
          case rel => exact ⟨_, rfl, ⟨(fun h => by cases h), fun h => by rw [HPN.out] at h; simp at h⟩, rfl⟩
        case rest =>
        obtain ⟨bc, rfl, hbc, hwx⟩ := hcut; subst hwx; have HBC := Hd hbc; clear hbc c15r c12r c15; cases bc with
        | true =>
         have hte := HTK.out; rw [if_pos (HBC.out.1 rfl)] at hte; have HTE := Hd hte; clear hte; go_wp2_with fail
         refine (rbegin_any HS3.out.at_ HS3.out.out HOKR.out HBDR.out (by omega) HRD.out hBc hszc (by omega)).mono ?_
         rintro e w6 ⟨rfl, f6, hS6⟩; have hS7 := HS3.out.trans hS6; obtain ⟨oa7, on7, oc7, e7, c7⟩ := hS7.outCell; have HS7 := Hd hS7; have E7 := Hd e7; clear hS6 hS7 e7 c24; go_wp2; go_ret
         refine ⟨_, rfl, ?_⟩; rw [HTE.out]; exact RGives.of HS7.out E7.out
        | false =>
         have hte := HTK.out; rw [if_neg (fun h => by have := HBC.out.2 h; cases this)] at hte
         have HTE := Hd hte; clear hte; go_wp2; go_ret
         refine ⟨_, rfl, ?_⟩; rw [HTE.out]; exact RGives.of HS3.out E24.out
def newF (c : Cfg) (dv : Value) : List Value := [.int .i64 c.self, .int .i64 c.period, .int .i64 c.wait, .int .i64 c.susp, .int .i64 c.prox, .int .i64 c.sends, dv, .int .i64 0, .int .i64 0, .int .i64 0, .int .i64 c.self, .int .i64 1, .int .i64 1, .slice none 0 0, .slice none 0 0, .int .i64 0, .int .i64 0, .int .i64 0, .bool false, .slice none 0 0, .slice none 0 0, .int .i64 0, .slice none 0 0, .int .i64 0, .slice none 0 0]
theorem rfnew_at {w : World} {B : Nat} (hB : B <= w.heap.size) (c : Cfg) {ds : List Int} {da : Option Addr} {n dc : Nat} (hn : ds.length = n) (hi : IntIn w da ds) (hf : ∀ v ∈ ds, fits v) :
  RfAt (w.alloc (.cells (newF c (.slice da n dc)).toArray 93)) B w.heap.size (fun i => (newF c (.slice da n dc)).getD i undef) (Nd.new c ds) where
 blk := ⟨_, Kc w _, Nat.le_refl 25, fun i hi => by
  have : i < (newF c (.slice da n dc)).length := hi
  simp [List.getD, this]⟩
 lo := hB
 c0 := rfl
 c1 := rfl
 c2 := rfl
 c3 := rfl
 c4 := rfl
 c5 := rfl
 ds := ⟨da, dc, by show Value.slice da n dc = Value.slice da ds.length dc; rw [hn], hi.keep (n := n) (c := dc) (fun k hk => by
  cases da with
  | none => simp [Value.ownBlock] at hk
  | some p =>
   simp only [Value.ownBlock, Option.some.injEq] at hk; obtain ⟨cs, fr, hg⟩ := hi.2 p rfl; rw [<- hk]; exact Below.heap_alloc _ _ _ (Kb hg))⟩
 df := hf
 n7 := rfl
 n8 := rfl
 n9 := rfl
 s10 := rfl
 s11 := rfl
 s12 := rfl
 oth := World.ownsRow_nil _ _ _ _
 pas := World.ownsRow_nil _ _ _ _
 n15 := rfl
 prb := ⟨0, 0, false, rfl, rfl, rfl, fun p hp => by cases hp⟩
 que := World.ownsRow_nil _ _ _ _
 rel := World.ownsRow_nil _ _ _ _
 n21 := rfl
 evs := World.ownsRow_nil _ _ _ _
 n23 := rfl
 o24 := ⟨none, 0, 0, rfl⟩
def cfgVals (c : Cfg) : Value := .agg #[.int .i64 c.self, .int .i64 c.period, .int .i64 c.wait, .int .i64 c.susp, .int .i64 c.prox, .int .i64 c.sends]
def RNew (c : Cfg) (ds : List Int) (dv : Value) (w : World) (e : Ending) (w' : World) : Prop :=
 Below w.heap.size w w' /\ ((cfgB c = false /\ e = .returned (.tuple #[.pointer none, .int .i64 1])) \/
  (cfgB c = true /\ ∃ b f, e = .returned (.tuple #[.pointer (some ⟨b, 0, none⟩), .int .i64 0]) /\ RfAt w' w.heap.size b f (Nd.new c ds) /\ f 6 = dv /\ ∀ k, RFoot b f k -> w.heap.size <= k))
theorem rnew_any (c : Cfg) (ds : List Int) (da : Option Addr) (n dc : Nat) (w : World) (hn : ds.length = n) (hi : IntIn w da ds) (hf : ∀ v ∈ ds, fits v) (hc : fits c.period) :
  Calls Tryz.prog 34 #[cfgVals c, .slice da n dc] w (RNew c ds (.slice da n dc) w) := by
 obtain ⟨self, per, wt, su, px, se⟩ := c; unfold fits at hc; simp only at hc; obtain ⟨w1, hw1⟩ : ∃ w1, w.alloc (.cells #[.int .i64 self, .int .i64 per, .int .i64 wt, .int .i64 su, .int .i64 px, .int .i64 se] 35) = w1 := ⟨_, rfl⟩; have hb1 : Below w.heap.size w w1 := by rw [<- hw1]; exact (Below.refl _ _).alloc (Nat.le_refl _) _
 have hx1 : w1.heap[w.heap.size]? = some (.cells #[.int .i64 self, .int .i64 per, .int .i64 wt, .int .i64 su, .int .i64 px, .int .i64 se] 35 (0, 0)) := by rw [<- hw1]; exact Kc w _
 have x0 := Ka hx1 0; have x1 := Ka hx1 1; have x2 := Ka hx1 2; have x3 := Ka hx1 3; have x4 := Ka hx1 4; have x5 := Ka hx1 5; simp only [List.getElem?_toArray, List.getElem?_cons_succ, List.getElem?_cons_zero] at x0 x1 x2 x3 x4 x5
 have hi1 : IntIn w1 da ds := hi.keep (n := n) (c := dc) (fun k hk => by
  cases da with
  | none => simp [Value.ownBlock] at hk
  | some p =>
   simp only [Value.ownBlock, Option.some.injEq] at hk; obtain ⟨cs, fr, hg⟩ := hi.2 p rfl; rw [<- hk]; exact hb1.block _ (Kb hg))
 have hnew := rfnew_at (w := w1) (B := w.heap.size) hb1.size ⟨self, per, wt, su, px, se⟩ (n := n) (dc := dc) hn hi1 hf; have hid := rid_any self w1; have HB1 := Hd hb1; have HW1 := Hd hw1; have HNEW := Hd hnew; have HID := Hd hid; have hs1 : w.heap.size <= w1.heap.size := hb1.size; clear hb1 hw1 hi hi1 hn hf hnew hid hx1; obtain ⟨okb, hok⟩ : ∃ okb, Kl self 1 250 = okb := ⟨_, rfl⟩; rw [hok] at HID; have HOK := Hd hok; clear hok; unfold cfgVals; simp only; go_enter Tryz.func34, Tryz.ntmps34; go_wp2_with fail
 rw [HW1.out]; refine HID.out.mono ?_; rintro e w2 ⟨rfl, rfl⟩; go_upto_region 2 with (fail); go_cut [44] (fun s44 wx => ∃ bc, s44 = .bool bc /\ (bc = false ↔ okb = true /\ 4 <= per /\ per <= 50 /\ 1 <= wt /\ wt <= per - 2 /\ 1 <= su /\ su <= 500) /\ wx = w1)
 case first =>
  cases okb with
  | false =>
   go_wp2; go_meet
   case rel => exact ⟨_, rfl, by simp, rfl⟩
  | true =>
   by_cases h2 : per < 4
   · go_wp2
     go_meet
     case rel => exact ⟨_, rfl, by simp <;> omega, rfl⟩
   · by_cases h3 : 50 < per
     · go_wp2
       go_meet
       case rel => exact ⟨_, rfl, by simp <;> omega, rfl⟩
     · by_cases h4 : wt < 1
       · go_wp2
         go_meet
         case rel => exact ⟨_, rfl, by simp <;> omega, rfl⟩
       · by_cases h5 : per - 2 < wt
         · go_wp2
           go_meet
           case rel => exact ⟨_, rfl, by simp <;> omega, rfl⟩
         · by_cases h6 : su < 1
           · go_wp2
             go_meet
             case rel => exact ⟨_, rfl, by simp <;> omega, rfl⟩
           · by_cases h7 : 500 < su
             · go_wp2
               go_meet
               case rel => exact ⟨_, rfl, by simp <;> omega, rfl⟩
             · go_wp2
               go_meet
               case rel => exact ⟨_, rfl, by simp <;> omega, rfl⟩
 case rest =>
 obtain ⟨bc, rfl, hbc, hwx⟩ := hcut; subst hwx; have HBC := Hd hbc; clear hbc; cases bc with
 | true =>
  have hcf : cfgB ⟨self, per, wt, su, px, se⟩ = false := by
   cases hc : cfgB ⟨self, per, wt, su, px, se⟩ with
   | false => rfl
   | true =>
    have hb := cfg_bounds' hc; simp only at hb; have := HBC.out.2 ⟨by rw [<- HOK.out]; unfold Kl; simp; omega, by omega, by omega, by omega, by omega, by omega, by omega⟩
    cases this
  have HCF := Hd hcf; clear hcf; go_wp2; go_ret2
  exact ⟨HB1.out, .inl ⟨HCF.out, rfl⟩⟩
 | false =>
  have h1 := HBC.out.1 rfl; have H1 := Hd h1; clear h1 HBC; go_upto_region 4 with (fail); go_cut [62] (fun s62 wx => ∃ bc, s62 = .bool bc /\ (bc = false ↔ 0 <= px /\ px <= 3 /\ 1 <= se /\ se <= 8) /\ wx = wc)
  case first =>
   by_cases g1 : px < 0
   · go_wp2
     go_meet
     case rel => exact ⟨_, rfl, by simp <;> omega, rfl⟩
   · by_cases g2 : 3 < px
     · go_wp2
       go_meet
       case rel => exact ⟨_, rfl, by simp <;> omega, rfl⟩
     · by_cases g3 : se < 1
       · go_wp2
         go_meet
         case rel => exact ⟨_, rfl, by simp <;> omega, rfl⟩
       · by_cases g4 : 8 < se
         · go_wp2
           go_meet
           case rel => exact ⟨_, rfl, by simp <;> omega, rfl⟩
         · go_wp2
           go_meet
           case rel => exact ⟨_, rfl, by simp <;> omega, rfl⟩
  case rest =>
  obtain ⟨bc, rfl, hbc, hwx⟩ := hcut; subst hwx; have HBC := Hd hbc; clear hbc; cases bc with
  | true =>
   have hcf : cfgB ⟨self, per, wt, su, px, se⟩ = false := by
    cases hc : cfgB ⟨self, per, wt, su, px, se⟩ with
    | false => rfl
    | true =>
     have hb := cfg_bounds' hc; simp only at hb; have := HBC.out.2 ⟨by omega, by omega, by omega, by omega⟩
     cases this
   have HCF := Hd hcf; clear hcf; go_wp2; go_ret2
   exact ⟨HB1.out, .inl ⟨HCF.out, rfl⟩⟩
  | false =>
   have h1 := H1.out; have h2 := HBC.out.1 rfl
   have hcf : cfgB ⟨self, per, wt, su, px, se⟩ = true := by
    have hs : Kl self 1 250 = true := by rw [HOK.out]; exact h1.1
    unfold Kl at hs; simp only [Bool.and_eq_true, decide_eq_true_eq] at hs; unfold cfgB Kl; simp only [Bool.and_eq_true, decide_eq_true_eq]; omega
   have HCF := Hd hcf; clear h1 h2 hcf; go_wp2; go_ret2
   refine ⟨HB1.out.alloc hs1 _, .inr ⟨HCF.out, _, _, rfl, HNEW.out, rfl, fun k hk => ?_⟩⟩
   rcases hk with rfl | hk | hk | hk | hk | hk
   · exact hs1
   all_goals simp [newF, List.getD, Value.ownBlock] at hk
