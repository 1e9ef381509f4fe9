/-
  Texts of the proof: RfAsk, RfProb. No condition.
-/
import Derived.Test.YtfngdplkcppabaaGreatDoorPart01
import Derived.Test.YtfngdplkcppabaaGreatDoorPart20
set_option linter.all false
set_option maxRecDepth 100000
set_option maxHeartbeats 4000000
namespace Go.Proofs.YtfngdplkcppabaaGreatDoor
open Go.RowKit
theorem ints_one (l : List Int) : ∀ v ∈ l.map (Value.int .i64), v.oneCell' = true := by
 intro v hv; obtain ⟨k, _, rfl⟩ := List.mem_map.1 hv
 rfl
theorem rsent_low {y : Nd} (seq tgt : Int) : y.sent ⟨3, 0, 0, seq, tgt, []⟩ = { y with queue := y.take.queue } := by unfold Nd.sent; rw [if_pos (show (3 : Int) < 4 by decide)]; rfl
theorem raskAll_cons {p : Prb} {n : Nat} {L : List Int} {y : Nd} {d : Nat} {k : Nat} (hL : L ≠ []) (hd : (y.draw L.length).1 = (d : Int)) (hk : (y.draw L.length).2 = { y with at_ := k }) :
  Nd.askAll p (n + 1) L y = ((L.getD d 0, ({ y with at_ := k } : Nd).msg ⟨3, 0, 0, p.seq, p.tgt, []⟩) :: (Nd.askAll p n (L.eraseIdx d) (({ y with at_ := k } : Nd).sent ⟨3, 0, 0, p.seq, p.tgt, []⟩)).1, (Nd.askAll p n (L.eraseIdx d) (({ y with at_ := k } : Nd).sent ⟨3, 0, 0, p.seq, p.tgt, []⟩)).2) := by
 rw [Nd.askAll, if_neg hL]; simp only [hd, hk, Int.toNat_natCast]
theorem raskAll_nil (p : Prb) (n : Nat) (y : Nd) : Nd.askAll p n [] y = ([], y) := by cases n <;> simp [Nd.askAll]
theorem ints_len (l : List Int) : (l.map (Value.int .i64)).length = l.length * 1 := by simp
theorem helpers_snoc {x : Nd} {p : Prb} {i : Nat} {m : Mem} (h : x.others[i]? = some m) :
  ((x.others.take (i + 1)).filter (fun m => here m && m.k.id != p.tgt)).map (·.k.id) = ((x.others.take i).filter (fun m => here m && m.k.id != p.tgt)).map (·.k.id) ++ if (here m && m.k.id != p.tgt) then [m.k.id] else [] := by
 rw [filter_snoc _ _ h, List.map_append]
 congr 1
 split <;> rfl
theorem rask_any {Bo B b : Nat} {w : World} {f : Nat -> Value} {x : Nd} {ps : List Pk} (h : RfAt w B b f x) (hout : OutR w Bo (f 24) ps) (ho : Ok x) {C : Int} (hb : Bd C x) (hC : C <= 4000000000) (hdl : x.ds.length <= 1000000) (hBo : Bo <= w.heap.size) (hps : ps.length < 900) (p : Prb) (hp : x.probe = some p) :
  Calls Tryz.prog 108 #[.pointer (some ⟨b, 0, none⟩)] w fun e w' => e = .returned (.tuple #[]) /\ ∃ f', RSt Bo B b w f w' f' (Nd.askAll p x.c.prox.toNat (x.helpers p) x).2 (ps ++ (Nd.askAll p x.c.prox.toNat (x.helpers p) x).1) := by
 have hS := RSt.refl h hout; obtain ⟨a, c, e13⟩ := Kg h.oth; obtain ⟨ln, hln⟩ : ∃ ln, x.others.length = ln := ⟨_, rfl⟩; rw [hln] at e13; have c13 : w.cell? ⟨b, 13, none⟩ = some (.slice a ln c) := by rw [<- e13]; exact h.blk.cell (by omega)
 have c15 : w.cell? ⟨b, 15, none⟩ = some (.int .i64 p.tgt) := by
  have := h.n15; rw [hp] at this; rw [show Value.int .i64 p.tgt = f 15 from this.symm]; exact h.blk.cell (by omega)
 have hrow := h.oth; rw [e13, hln] at hrow; have hl7 : ln <= 7 := by rw [<- hln]; exact ho.len
 have hbl := h.blk.lt; have HS := Hd hS; have HROW := Hd hrow; have HLN := Hd hln; have HO := Hd ho; have HBD := Hd hb; have HP := Hd hp; obtain ⟨i0, hi, hz0, hz1, hz2⟩ := info_parts info_int'; clear h hout hS hrow hln ho hb hp e13; go_enter Tryz.func108, Tryz.ntmps108; go_wp2_with fail
 go_loopw [2, 3] (fun s2 s3 wr => ∃ (i : Nat) (q : List Int), i <= ln /\ s3 = .int .i64 (i : Nat) /\ q = ((x.others.take i).filter (fun m => here m && m.k.id != p.tgt)).map (·.k.id) /\ q.length <= i /\ wr.ownsRow w.heap.size 3 1 s2 q.length (q.map (Value.int .i64)) /\ Below w.heap.size w wr) (fun _ s3 _ => 20 - (intOf s3).toNat)
 case atStart => exact ⟨0, [], Nat.zero_le _, rfl, rfl, Nat.le_refl _, World.ownsRow_nil _ _ _ _, Below.refl _ _⟩
 case round =>
  obtain ⟨i, q, hiq, rfl, hqe, hqi, hrow, hb⟩ := hrel; obtain ⟨ra, rc, rfl⟩ := Kg hrow; obtain ⟨m, hm⟩ : ∃ m, q.length = m := ⟨_, rfl⟩; rw [hm] at hrow hqi ⊢; have HQE := Hd hqe; have HR := Hd hrow; have HB := Hd hb; have HM := Hd hm; have hsz := hb.size; have c13r := (hb.cell (p := ⟨b, 13, none⟩) hbl).trans c13; have c15r := (hb.cell (p := ⟨b, 15, none⟩) hbl).trans c15; clear hqe hrow hb hm; by_cases hil : i < ln
  · obtain ⟨u, hu⟩ : ∃ u, x.others[i]? = some u := ⟨_, List.getElem?_eq_getElem (by have := HLN.out; omega)⟩
    obtain ⟨g, rfl, hg, u0, u1, u2, u3⟩ := mr_at (Ks HROW.out HB.out) hu; have hsn := helpers_snoc (p := p) hu; rw [<- HQE.out] at hsn; have HSN := Hd hsn; have hco : ∀ o, (wr.alloc o).cell? ⟨b, 15, none⟩ = some (.int .i64 p.tgt) := fun o => by rw [World.cell?_alloc_lt _ _ _ (World.block_lt_of_cell? _ _ c15r)]; exact c15r
    clear hu hsn
    have hways : (decide (u.k.st <= 2) = true /\ (u.k.id != p.tgt) = true) \/ (decide (u.k.st <= 2) = true /\ (u.k.id != p.tgt) = false) \/ decide (u.k.st <= 2) = false := by
     cases decide (u.k.st <= 2) <;> cases (u.k.id != p.tgt) <;> simp
    obtain ⟨⟨uid, uinc, ust⟩, udue⟩ := u; simp only at u0 u1 u2 hways; rcases hways with ⟨h1, h2⟩ | ⟨h1, h2⟩ | h1
    · have hrw : ∀ n, (((wr.alloc (.cells #[.int .i64 uid, .int .i64 uinc, .int .i64 ust] 58)).alloc (.cells #[.int .i64 uid] 3)).drewN n).ownsRow w.heap.size 3 1 (.slice ra m rc) m (q.map (Value.int .i64)) := fun n => Je ((HR.out.alloc _).alloc _) (fun _ _ => rfl)
      have hnew : ∀ n, Ki (((wr.alloc (.cells #[.int .i64 uid, .int .i64 uinc, .int .i64 ust] 58)).alloc (.cells #[.int .i64 uid] 3)).drewN n) (some ⟨wr.heap.size + 1, 0, none⟩) [.int .i64 uid] := fun n => by
       have h2 := Jx (wr.alloc (.cells #[.int .i64 uid, .int .i64 uinc, .int .i64 ust] 58)) [.int .i64 uid] 3; rw [World.size_alloc] at h2; exact h2
      have HRW := Hd hrw; have HNEW := Hd hnew; have k3 : m + 1 <= maxLen := by unfold maxLen; omega
      have K3 := Hd k3; have hsn2 := HSN.out; simp only [here, h1, h2, Bool.and_self, if_true] at hsn2; have HSN2 := Hd hsn2; clear hrw hnew k3 hsn2; go_wp2_with fail
      go_quiet (fail); go_wp2_with (at_builtin; go_loud (refine Km _ rfl _ _ 24 rfl w.heap.size 3 i0 _ 1 8 Tryz.underlying24 hi hz0 hz1 hz2 rfl (by decide) (.slice ra m rc) m _ rfl (HRW.out _) (some ⟨wr.heap.size + 1, 0, none⟩) 1 1 _ rfl rfl (HNEW.out _) (by simp [Value.oneCell']) K3.out (by omega) (by simp; omega) ?_))
      intro a1 c1 w1 hl1 hto1; have hb1 : Below w.heap.size w w1 := (Below.drewR ((HB.out.alloc hsz _).alloc (by simp; omega) _) _).grown hto1.grown (by simp; omega) (fun j hj => (HR.out.lt j hj).1)
      have HL1 := Hd hl1; have HB1 := Hd hb1; clear hl1 hto1 hb1; go_wp2; go_roundw
      case rel => exact ⟨i + 1, q ++ [uid], by omega, by go_num, HSN2.out.symm, by rw [List.length_append, HM.out]; show m + 1 <= _; omega, by rw [List.map_append, List.length_append, HM.out]; exact HL1.out, HB1.out⟩
      case measure => simp [intOf]; omega
    all_goals
     have hsn2 := HSN.out; simp only [here, h1, Bool.false_and, Bool.true_and, if_false, Bool.false_eq_true, List.append_nil] at hsn2
     try simp only [h2, Bool.false_eq_true, if_false, List.append_nil] at hsn2
     have HSN2 := Hd hsn2; clear hsn2; go_wp2_with fail
     go_quiet (fail); go_wp2; go_roundw
     case rel => exact ⟨i + 1, q, by omega, by go_num, HSN2.out.symm, by rw [HM.out]; omega, by rw [HM.out]; exact Je (HR.out.alloc _) (fun _ _ => rfl), Below.drewR (HB.out.alloc hsz _) _⟩
     case measure => simp [intOf]; omega
  · have hq0 : q = x.helpers p := by rw [HQE.out, List.take_of_length_le (by have := HLN.out; omega)]; rfl
    have hS1 := HS.out.below HB.out; have hm7 : m <= 7 := by omega
    have HQ0 := Hd hq0; have HS1 := Hd hS1; clear hq0 hS1 HQE HS HROW c13 c15; go_wp2_with fail
    go_loopw [2, 5] (fun s2 s5 wr => ∃ (j : Nat) (L : List Int) (k : Nat) (qq : List Upd) (fj : Nat -> Value) (psj : List Pk), s5 = .int .i64 (j : Nat) /\ L.length + j = m /\ (k : Int) <= C + j /\ wr.ownsRow w.heap.size 3 1 s2 L.length (L.map (Value.int .i64)) /\ Ok { x with at_ := k, queue := qq } /\
      RSt Bo B b w f wr fj { x with at_ := k, queue := qq } psj /\ psj ++ (Nd.askAll p (x.c.prox.toNat - j) L { x with at_ := k, queue := qq }).1 = ps ++ (Nd.askAll p x.c.prox.toNat (x.helpers p) x).1 /\ (Nd.askAll p (x.c.prox.toNat - j) L { x with at_ := k, queue := qq }).2 = (Nd.askAll p x.c.prox.toNat (x.helpers p) x).2 /\ psj.length <= ps.length + j)
     (fun _ s5 _ => 10 - (intOf s5).toNat)
    case atStart => exact ⟨0, q, x.at_, x.queue, f, ps, rfl, HM.out, by have := HBD.out.at_; omega, by rw [HM.out]; exact HR.out, HO.out, HS1.out, by rw [HQ0.out]; rfl, by rw [HQ0.out]; rfl, by omega⟩
    case round =>
     clear HS1 HR HB c13r c15r hsz; obtain ⟨j, L, k, qq, fj, psj, rfl, hLj, hkj, hrow, hok, hS, hq1, hq2, hpl⟩ := hrel; obtain ⟨la, lc, rfl⟩ := Kg hrow; obtain ⟨n, hn⟩ : ∃ n, L.length = n := ⟨_, rfl⟩; rw [hn] at hrow hLj ⊢; have c4 : wr.cell? ⟨b, 4, none⟩ = some (.int .i64 x.c.prox) := by rw [show Value.int .i64 x.c.prox = fj 4 from hS.at_.c4.symm]; exact hS.at_.blk.cell (by omega)
     have hszr : w.heap.size <= wr.heap.size := hS.chg.size; have HOKJ := Hd hok; have HSJ := Hd hS; have HQ1 := Hd hq1; have HQ2 := Hd hq2; have HROWJ := Hd hrow; have HN := Hd hn; clear hok hS hq1 hq2 hrow hn; by_cases hgo : (j : Int) < x.c.prox /\ 0 < n
     · obtain ⟨hjp, hn0⟩ := hgo
       have hjb : decide ((j : Int) < x.c.prox) = true := by simpa using hjp
       have HJP := Hd hjp; have hLne : L ≠ [] := fun e => by have := HN.out; rw [e] at this; simp at this; omega
       obtain ⟨y, hy⟩ : ∃ y : Nd, { x with at_ := k, queue := qq } = y := ⟨_, rfl⟩; have hyd : y.ds = x.ds := by rw [<- hy]
       have hbdy : Bd (C + 7) y := by
        have hb := HBD.out.mono (C := C + 7) (by omega)
        rw [<- hy]; exact ⟨hb.clock, hb.seq, hb.dropped, hb.lost, by show (k : Int) <= C + 7; omega⟩
       obtain ⟨hd0, hd1⟩ := draw_range y (n := (L.length : Int)) (by have := HN.out; omega)
       obtain ⟨k', hk'⟩ := draw_eq y (L.length : Int); obtain ⟨d, hd⟩ : ∃ d : Nat, (y.draw (L.length : Int)).1 = (d : Int) := ⟨((y.draw (L.length : Int)).1).toNat, by omega⟩
       have hdn : d < n := by have := HN.out; omega
       have hsj := HSJ.out; rw [hy] at hsj; have hcon := rdraw_any hsj.at_ hsj.out hbdy (by omega) (by rw [hyd]; exact hdl) (L.length : Int) (by have := HN.out; omega)
       rw [hd, hk', HN.out] at hcon
       have hk1 : k' <= k + 1 := by
        have : k' = y.at_ \/ k' = y.at_ + 1 := by
         have e := hk'; unfold Nd.draw at e
         split at e
         · left; exact (congrArg Nd.at_ e).symm
         · right; exact (congrArg Nd.at_ e).symm
        have e2 : y.at_ = k := by rw [<- hy]
        omega
       have hask := raskAll_cons (p := p) (n := x.c.prox.toNat - (j + 1)) hLne hd hk'; have hpj : x.c.prox.toNat - j = x.c.prox.toNat - (j + 1) + 1 := by omega
       have HCON := Hd hcon; have HASK := Hd hask; have HY := Hd hy; have HSY := Hd hsj; have HPJ := Hd hpj; clear hcon hask hy hk' hd hpj hd0 hd1 hbdy hyd hsj hLne hjp; go_wp2_with fail
       refine HCON.out.mono ?_; rintro e w4 ⟨rfl, f4, hS4⟩; have hye : ({ y with at_ := k' } : Nd) = { x with at_ := k', queue := qq } := by rw [<- HY.out]
       have hrow4 := hS4.keepInt HSY.out.at_ HROWJ.out; rw [hye] at hS4; have hS4' := HSJ.out.trans hS4; obtain ⟨vd, hvd⟩ : ∃ vd, L.getD d 0 = vd := ⟨_, rfl⟩; have hdL : d < L.length := by rw [HN.out]; exact hdn
       obtain ⟨b5, o5, e5, hb5, hc5⟩ := Ki.row hrow4 d (.int .i64 vd) (by rw [<- hvd, List.getElem?_map, List.getElem?_eq_getElem hdL, List.getD_eq_getElem?_getD, List.getElem?_eq_getElem hdL]; rfl)
       subst e5
       have g15 : w4.cell? ⟨b, 15, none⟩ = some (.int .i64 p.tgt) := by
        have := hS4'.at_.n15; rw [show ({ x with at_ := k', queue := qq } : Nd).probe = some p from HP.out] at this; rw [show Value.int .i64 p.tgt = f4 15 from this.symm]; exact hS4'.at_.blk.cell (by omega)
       have g17 : w4.cell? ⟨b, 17, none⟩ = some (.int .i64 p.seq) := by
        obtain ⟨_, sq, _, _, e17, _, hp'⟩ := hS4'.at_.prb; rw [(hp' p HP.out).2.1, <- e17]; exact hS4'.at_.blk.cell (by omega)
       have hok4 : Ok { x with at_ := k', queue := qq } := { HOKJ.out with }; have hsz4 : wr.heap.size <= w4.heap.size := hS4.chg.size
       have hpsq : 0 <= p.seq /\ p.seq <= 4294967295 := by
        have h1 := (HO.out.prb p HP.out).2.1; have h2 := HBD.out.seq; omega
       have HVD := Hd hvd; have HS4 := Hd hS4'; have HROW4 := Hd hrow4; have HOK4 := Hd hok4; clear hS4 hS4' hye hrow4 hok4 hvd hdL c4; go_upto_region 11 with (fail)
       (refine Jj 14 (by kernel_rfl) (by kernel_rfl) ?_; simp only [List.take_succ_cons, List.take_zero, List.drop_succ_cons, List.drop_zero])
       iterate 14 still_step
       refine wpStill_nil ?_; go_wp2_with fail
       refine (rsend_any (HS4.out.drewN 1).at_ (HS4.out.drewN 1).out HOK4.out (show Bo <= w4.heap.size by omega) (by omega) vd 3 p.seq p.tgt hpsq [] none 0 0 rfl (by omega) (fun j' k' h' => by simp at h') (fun k' h' => by simp at h')).mono ?_
       rintro e w5 ⟨rfl, f5, hS5⟩; rw [rsent_low] at hS5; have hrow5 := hS5.keepInt (HS4.out.drewN 1).at_ (w := w4.drew) (Je HROW4.out (fun _ _ => rfl))
       have hS5' := (HS4.out.drewN 1).trans hS5; have hsz5 : w4.heap.size <= w5.heap.size := hS5.chg.size
       have hoff : o5 = 0 := by
        rcases hrow5.2 with ⟨e1, _⟩ | ⟨g', cap, cur0, e1, _⟩
        · simp at e1
        · simp only [Value.slice.injEq, Option.some.injEq, Addr.mk.injEq] at e1; exact e1.1.2.1
       subst hoff
       have hlc : n <= lc := by
        rcases hrow5.2 with ⟨e1, _⟩ | ⟨g', cap, cur0, e1, _, _, hnc, _⟩
        · simp at e1
        · simp only [Value.slice.injEq] at e1; rw [e1.2.2]; exact hnc
       have hspl : L.map (Value.int .i64) = (L.take d).map (Value.int .i64) ++ (L.drop d).map (Value.int .i64) := by rw [<- List.map_append, List.take_append_drop]
       have hspl2 : L.map (Value.int .i64) = (L.take (d + 1)).map (Value.int .i64) ++ (L.drop (d + 1)).map (Value.int .i64) := by rw [<- List.map_append, List.take_append_drop]
       have hl1 : ((L.take d).map (Value.int .i64)).length = d * 1 := by rw [ints_len, List.length_take]; have := HN.out; omega
       have hl2 : ((L.take (d + 1)).map (Value.int .i64)).length = (d + 1) * 1 := by rw [ints_len, List.length_take]; have := HN.out; omega
       have hl3 : ((L.drop (d + 1)).map (Value.int .i64)).length = (n - (d + 1)) * 1 := by rw [ints_len, List.length_drop]; have := HN.out; omega
       have hsrc1 : Ki w5 (some ⟨b5, 0, none⟩) ((L.take d).map (Value.int .i64)) := Ki.part (xs := []) (zs := (L.drop d).map (Value.int .i64)) (by rw [List.nil_append, <- hspl]; exact hrow5) rfl
       have hsrc3 : Ki w5 (some ⟨b5, d + 1, none⟩) ((L.drop (d + 1)).map (Value.int .i64)) := by
        have h3 := Ki.part (off := d + 1) (xs := (L.take (d + 1)).map (Value.int .i64)) (ys := (L.drop (d + 1)).map (Value.int .i64)) (zs := []) (by rw [List.append_nil, <- hspl2]; exact hrow5) (by rw [hl2, Nat.mul_one])
        exact h3
       have hler : (L.eraseIdx d).length = d + (n - (d + 1)) := by rw [List.length_eraseIdx, if_pos (by have := HN.out; omega)]; have := HN.out; omega
       have w1b : IntKind.i64.wrap ((d : Int) + 1) = (d : Int) + 1 := IntWalk.i64_in _ (by omega)
       have hok5 : Ok { x with at_ := k', queue := ({ x with at_ := k', queue := qq } : Nd).take.queue } := by
        have := HOK4.out.sent ⟨3, 0, 0, p.seq, p.tgt, []⟩; rw [rsent_low] at this; exact this
       have k3 : 0 + d <= maxLen := by unfold maxLen; omega
       have k5 : d + (n - (d + 1)) <= maxLen := by unfold maxLen; omega
       have K3' := Hd k3; have K5' := Hd k5; have HL1 := Hd hl1; have HL3 := Hd hl3; have HSRC1 := Hd hsrc1; have HSRC3 := Hd hsrc3; have HLER := Hd hler; have HS5 := Hd hS5'; have HOK5 := Hd hok5; clear hS5 hS5' hrow5 hspl hspl2 hl1 hl2 hl3 hsrc1 hsrc3 hler hok5 k3 k5 g15 g17 hc5; go_wp2_with (at_builtin; go_loud (refine Km _ rfl _ _ 24 rfl w5.heap.size 3 i0 _ 1 8 Tryz.underlying24 hi hz0 hz1 hz2 rfl (by decide) (.slice none 0 0) 0 [] rfl (World.ownsRow_nil _ _ _ _) (some ⟨b5, 0, none⟩) d lc _ rfl HL1.out HSRC1.out (ints_one _) K3'.out (by omega) (Nat.le_refl _) ?_))
       intro a6 c6 w6 hl6 hto6; have hb6 : Below w5.heap.size w5 w6 := Below.grown (Below.refl _ _) hto6.grown (Nat.le_refl _) (fun j hj => by simp [Value.ownBlock] at hj)
       have hsrc : Ki w6 (if lc = d + 1 then some ⟨b5, 0, none⟩ else some ⟨b5, d + 1, none⟩) ((L.drop (d + 1)).map (Value.int .i64)) := by
        by_cases hck : lc = d + 1
        · have hd : L.drop (d + 1) = [] := List.drop_eq_nil_of_le (by have := HN.out; omega)
          rw [hd]; intro j v hj
          simp at hj
        · rw [if_neg hck]; exact HSRC3.out.below hb6
       have HSRC' := Hd hsrc; have HL6 := Hd hl6; have HB6 := Hd hb6; have hsz6 := hb6.size; clear hl6 hto6 hb6 hsrc; go_wp2_with (at_builtin; go_loud (refine Km _ rfl _ _ 24 rfl w5.heap.size 3 i0 _ 1 8 Tryz.underlying24 hi hz0 hz1 hz2 rfl (by decide) (.slice a6 d c6) d _ rfl HL6.out (if lc = d + 1 then some ⟨b5, 0, none⟩ else some ⟨b5, d + 1, none⟩) (n - (d + 1)) (lc - (d + 1)) _ rfl HL3.out HSRC'.out (ints_one _) K5'.out (by omega) (by omega) ?_))
       all_goals
        intro a7 c7 w7 hl7 hto7; have hb7 : Below w5.heap.size w5 w7 := HB6.out.grown hto7.grown (by omega) (fun j hj => (HL6.out.lt j hj).1)
        have HL7 := Hd hl7; have HB7 := Hd hb7; clear hl7 hto7 hb7; go_wp2; go_roundw
        case rel =>
         have hye : ({ y with at_ := k' } : Nd) = { x with at_ := k', queue := qq } := by rw [<- HY.out]
         have ha := HASK.out; rw [hye, rsent_low, HVD.out] at ha; have h1 := HQ1.out; have h2 := HQ2.out; rw [HPJ.out, HY.out, ha] at h1 h2; refine ⟨j + 1, L.eraseIdx d, k', ({ x with at_ := k', queue := qq } : Nd).take.queue, f5, psj ++ [(vd, ({ x with at_ := k', queue := qq } : Nd).msg ⟨3, 0, 0, p.seq, p.tgt, []⟩)], by go_num, by rw [HLER.out]; omega, by omega, ?_, HOK5.out, HS5.out.below HB7.out, ?_, h2, by simp; omega⟩
         · have h7 := Jl HL7.out (show w.heap.size <= w5.heap.size by omega)
           rw [HLER.out, List.eraseIdx_eq_take_drop_succ, List.map_append, List.map_take, List.map_drop]; exact h7
         · rw [List.append_assoc]; exact h1
        case measure => simp [intOf]; omega
     · have hend : Nd.askAll p (x.c.prox.toNat - j) L { x with at_ := k, queue := qq } = ([], { x with at_ := k, queue := qq }) := by
        by_cases hp0 : x.c.prox.toNat - j = 0
        · rw [hp0]; rfl
        · have hL0 : L = [] := List.eq_nil_of_length_eq_zero (by have := HN.out; omega)
          rw [hL0]; exact raskAll_nil _ _ _
       have h1 := HQ1.out; have h2 := HQ2.out; rw [hend] at h1 h2; simp only [List.append_nil] at h1 h2; have H1 := Hd h1; have H2 := Hd h2; clear h1 h2 hend
       have hways : (decide ((j : Int) < x.c.prox) = true /\ n = 0) \/ decide ((j : Int) < x.c.prox) = false := by
        by_cases h : (j : Int) < x.c.prox
        · exact .inl ⟨by simpa using h, by omega⟩
        · exact .inr (by simpa using h)
       clear hgo; rcases hways with ⟨h1, rfl⟩ | h1
       all_goals
        go_wp2
        ((try simp only [Exit.inBlock, Exit.then]); first | refine bodyPost_ret (results_none rfl _ _ _) rfl ?_ | refine bodyPost_end (results_none rfl _ _ _) rfl ?_)
        exact ⟨rfl, fj, by rw [<- H1.out, <- H2.out]; exact HSJ.out⟩
theorem raskAll_shape (p : Prb) : ∀ (n : Nat) (l : List Int) (x : Nd), ∃ k q, (Nd.askAll p n l x).2 = { x with at_ := k, queue := q } := by
 intro n
 induction n with
 | zero => intro l x; exact ⟨x.at_, x.queue, rfl⟩
 | succ n ih =>
  intro l x; by_cases hl : l = []
  · rw [hl, raskAll_nil]; exact ⟨x.at_, x.queue, rfl⟩
  · rw [Nd.askAll, if_neg hl]
    obtain ⟨k0, e0⟩ := draw_eq x (l.length : Int); obtain ⟨k, q, e⟩ := ih (l.eraseIdx (x.draw l.length).1.toNat) ((x.draw l.length).2.sent ⟨3, 0, 0, p.seq, p.tgt, []⟩); refine ⟨k, q, ?_⟩
    show (Nd.askAll p n _ _).2 = _
    rw [e, e0, rsent_low]
theorem rprobing_any {Bo B b : Nat} {w : World} {f : Nat -> Value} {x : Nd} {ps : List Pk} (h : RfAt w B b f x) (hout : OutR w Bo (f 24) ps) (ho : Ok x) {C : Int} (hbd : Bd C x) (hC : C <= 3999990000) (hdl : x.ds.length <= 1000000) (hBo : Bo <= w.heap.size) (hps : ps.length < 900) (p : Prb) (hp : x.probe = some p) :
  Calls Tryz.prog 72 #[.pointer (some ⟨b, 0, none⟩)] w fun e w' => e = .returned (.tuple #[]) /\ ∃ f', RSt Bo B b w f w' f' x.waits.2 (ps ++ x.waits.1) := by
 have hcl := hbd.clock; have hpr := ho.prb p hp; obtain ⟨age, hage⟩ : ∃ age, x.clock - p.start = age := ⟨_, rfl⟩; have wa : IntKind.i64.wrap (x.clock - p.start) = age := by rw [IntWalk.i64_in _ (by omega)]; exact hage
 obtain ⟨r, hr⟩ : ∃ r, (if age = x.c.wait /\ p.acked = false then Nd.askAll p x.c.prox.toNat (x.helpers p) x else ([], x)) = r := ⟨_, rfl⟩; have hwt : x.waits = (r.1, r.2.endProbe p) := by unfold Nd.waits; rw [hp]; simp only; rw [hage, hr]
 obtain ⟨s, n, ac, e16, e17, e18, hpp⟩ := h.prb; obtain ⟨rfl, rfl, rfl⟩ := hpp p hp; have c8 : w.cell? ⟨b, 8, none⟩ = some (.int .i64 x.clock) := by rw [<- h.n8]; exact h.blk.cell (by omega)
 have c16 : w.cell? ⟨b, 16, none⟩ = some (.int .i64 p.start) := by rw [<- e16]; exact h.blk.cell (by omega)
 have c18 : w.cell? ⟨b, 18, none⟩ = some (.bool p.acked) := by rw [<- e18]; exact h.blk.cell (by omega)
 have c2 : w.cell? ⟨b, 2, none⟩ = some (.int .i64 x.c.wait) := by rw [<- h.c2]; exact h.blk.cell (by omega)
 have HS := Hd (RSt.refl h hout); have HR := Hd hr; have HWT := Hd hwt; have HAGE := Hd hage; have HP := Hd hp; have HO := Hd ho; have HBD := Hd hbd; clear h hout ho hbd hr hwt hage hp hpp e16 e17 e18; go_enter Tryz.func72, Tryz.ntmps72; go_upto_region 0 with (fail); go_quiet (fail); go_upto_region 1 with (fail); go_cut [28] (fun s28 wx => ∃ bc n, s28 = .bool bc /\ (bc = true ↔ age = x.c.wait /\ p.acked = false) /\ wx = w.drewN n)
 case first =>
  by_cases e1 : age = x.c.wait
  · have e1b : (age == x.c.wait) = true := by simpa using e1
    have HE := Hd e1; clear e1; go_wp2; go_meet
    case rel => exact ⟨_, nq, rfl, by have := HE.out; simp [this], rfl⟩
  · have e1b : (age == x.c.wait) = false := by simpa using e1
    have HE := Hd e1; clear e1; go_wp2; go_meet
    case rel => exact ⟨_, nq, rfl, by have := HE.out; simp [this], rfl⟩
 case rest =>
 obtain ⟨bc, nq1, rfl, hbc, rfl⟩ := hcut; have HBC := Hd hbc; clear hbc c8 c16 c18 c2; go_upto_if 28 with (fail); go_cut [] (fun wx => ∃ k q f1, r.2 = { x with at_ := k, queue := q } /\ Ok r.2 /\ Bd (C + 10) r.2 /\ RSt Bo B b w f wx f1 r.2 (ps ++ r.1))
 case first =>
  cases bc with
  | true =>
   obtain ⟨e1, e2⟩ := HBC.out.1 rfl; have hra : r = Nd.askAll p x.c.prox.toNat (x.helpers p) x := by rw [<- HR.out, if_pos ⟨e1, e2⟩]
   have HRA := Hd hra; clear hra e1 e2; go_wp2_with (go_at_call 108; refine (rask_any (HS.out.drewN nq1).at_ (HS.out.drewN nq1).out HO.out HBD.out (by omega) hdl hBo hps p HP.out).mono ?_; rintro e w3 ⟨rfl, f3, hS3⟩; have HS3 := Hd ((HS.out.drewN nq1).trans hS3); clear hS3)
   go_meet
   case rel =>
    obtain ⟨k, q, e⟩ := raskAll_shape p x.c.prox.toNat (x.helpers p) x; have hg := good_askAll p ⟨hpr.1, by omega, by have := HBD.out.seq; omega⟩ x.c.prox.toNat (x.helpers p) HO.out HBD.out (fun i hi => HO.out.ids_ok (helpers_in hi))
    have hc3 := (cfg_bounds' HO.out.cfg).2.2.2.2.1; rw [HRA.out]; exact ⟨k, q, f3, e, hg.ok, hg.bd.mono (by omega), HS3.out⟩
  | false =>
   have hn : ¬ (age = x.c.wait /\ p.acked = false) := fun e => by have := HBC.out.2 e; cases this
   have hra : r = ([], x) := by rw [<- HR.out, if_neg hn]
   have HRA := Hd hra; clear hn hra; go_wp2; go_meet
   case rel => exact ⟨x.at_, x.queue, f, by rw [HRA.out], by rw [HRA.out]; exact HO.out, by rw [HRA.out]; exact HBD.out.mono (by omega), by rw [HRA.out, List.append_nil]; exact HS.out.drewN nq1⟩
 case rest =>
  obtain ⟨k, q, f1, hr2, hok, hbdy, hS⟩ := hcut; obtain ⟨y, hy⟩ : ∃ y : Nd, r.2 = y := ⟨_, rfl⟩; rw [hy] at hr2 hok hbdy hS; have hyc : y.c = x.c := by rw [hr2]
  have hyp : y.probe = some p := by rw [hr2]; exact HP.out
  have hyk : y.clock = x.clock := by rw [hr2]
  have hwt2 : x.waits = (r.1, y.endProbe p) := by rw [HWT.out, hy]
  have n1 : wc.cell? ⟨b, 1, none⟩ = some (.int .i64 x.c.period) := by rw [<- hyc, <- hS.at_.c1]; exact hS.at_.blk.cell (by omega)
  have n15 : wc.cell? ⟨b, 15, none⟩ = some (.int .i64 p.tgt) := by
   have := hS.at_.n15; rw [hyp] at this; rw [show Value.int .i64 p.tgt = f1 15 from this.symm]; exact hS.at_.blk.cell (by omega)
  have nf15 := hS.at_.blk.free 15; obtain ⟨s', n', ac', _, _, e18, hpp⟩ := hS.at_.prb; have e18' : f1 18 = .bool p.acked := by rw [e18, (hpp p hyp).2.2]
  have HYC := Hd hyc; have HYK := Hd hyk; have HWT2 := Hd hwt2; have HOKY := Hd hok; have HBY := Hd hbdy; have HSY := Hd hS; have HE18 := Hd e18'; clear hy hr2 hok hbdy hS hyc hyp hyk hwt2 e18 e18' hpp HBC; have hle := HAGE.out; by_cases hper : age < x.c.period
  · have hend : y.endProbe p = y := by
     unfold Nd.endProbe; rw [HYK.out, HYC.out, if_pos (by omega)]
    have HEND := Hd hend; clear hend hle; go_wp2
    ((try simp only [Exit.inBlock, Exit.then]); first | refine bodyPost_ret (results_none rfl _ _ _) rfl ?_ | refine bodyPost_end (results_none rfl _ _ _) rfl ?_)
    exact ⟨rfl, f1, by rw [HWT2.out, HEND.out]; exact HSY.out⟩
  · obtain ⟨z, hz⟩ : ∃ z : Nd, { y with probe := none } = z := ⟨_, rfl⟩
    have hend : y.endProbe p = match Jo z.others p.tgt with | none => z | some m => if p.acked = false /\ m.k.st = 1 then z.hear ⟨m.k.id, m.k.inc, 2⟩ else z := by
     unfold Nd.endProbe; rw [if_neg (by rw [HYK.out, HYC.out]; omega), <- hz]
     rfl
    have hokz : Ok z := by rw [<- hz]; exact HOKY.out.probeOf (fun q hq => by cases hq)
    have hbz : Bd (C + 10) z := by rw [<- hz]; have := HBY.out; exact ⟨this.clock, this.seq, this.dropped, this.lost, this.at_⟩
    have hS6 := HSY.out.cell (HSY.out.at_.setProbe none 0 rfl (fun s n a _ _ _ p hp => by cases hp)) (by omega) (fun k hk => by simp [Value.ownBlock] at hk)
    rw [hz] at hS6; obtain ⟨w6, hw6⟩ : ∃ w6, wc.setCell ⟨b, 15, none⟩ (.int .i64 0) = w6 := ⟨_, rfl⟩; rw [hw6] at hS6; have e18 : upd f1 15 (.int .i64 0) 18 = .bool p.acked := HE18.out; obtain ⟨f6, hf6⟩ : ∃ f6, upd f1 15 (.int .i64 0) = f6 := ⟨_, rfl⟩; rw [hf6] at hS6 e18; have d18 : w6.cell? ⟨b, 18, none⟩ = some (.bool p.acked) := by rw [<- e18]; exact hS6.at_.blk.cell (by omega)
    obtain ⟨oa, oc, e13⟩ := Kg hS6.at_.oth; obtain ⟨ln, hln⟩ : ∃ ln, z.others.length = ln := ⟨_, rfl⟩; have hrow := hS6.at_.oth; rw [e13] at hrow; rw [hln] at e13; have d13 : w6.cell? ⟨b, 13, none⟩ = some (.slice oa ln oc) := by rw [<- e13]; exact hS6.at_.blk.cell (by omega)
    have hl7 : ln <= 7 := by rw [<- hln]; exact hokz.len
    have hfind := rfind_any hS6.at_ hokz.rise (by have := hokz.len; omega) p.tgt
    have HROW := Hd hrow; have HLN := Hd hln; have HEND := Hd hend; have HOKZ := Hd hokz; have HBZ := Hd hbz; have HW6 := Hd hw6; have HS6 := Hd hS6; clear hz hend hokz hbz hS6 hw6 e18 hf6 e13 hrow hln hle HE18 HSY; cases hf : Jo z.others p.tgt with
    | none =>
     have hE : y.endProbe p = z := by rw [HEND.out, hf]
     have HE := Hd hE; rw [thereM_none hf] at hfind; have HF := Hd hfind; clear hE hf hfind; cases hack : p.acked with
     | true =>
      rw [hack] at d18; clear hack; go_wp2_with (go_at_call 106; rw [HW6.out]; refine HF.out.mono ?_; rintro e w7 ⟨rfl, n7, rfl⟩)
      ((try simp only [Exit.inBlock, Exit.then]); first | refine bodyPost_ret (results_none rfl _ _ _) rfl ?_ | refine bodyPost_end (results_none rfl _ _ _) rfl ?_)
      exact ⟨rfl, f6, by rw [HWT2.out, HE.out]; exact HS6.out.drewN n7⟩
     | false =>
      rw [hack] at d18; clear hack; go_wp2_with (go_at_call 106; rw [HW6.out]; refine HF.out.mono ?_; rintro e w7 ⟨rfl, n7, rfl⟩)
      ((try simp only [Exit.inBlock, Exit.then]); first | refine bodyPost_ret (results_none rfl _ _ _) rfl ?_ | refine bodyPost_end (results_none rfl _ _ _) rfl ?_)
      exact ⟨rfl, f6, by rw [HWT2.out, HE.out]; exact HS6.out.drewN n7⟩
    | some m =>
     obtain ⟨hmm, hmi⟩ := Zd hf; have hkm := HOKZ.out.key m hmm; have hat := findM_at HOKZ.out.rise hf; rw [thereM_some hf] at hfind; obtain ⟨pp, hpp⟩ : ∃ pp, posM p.tgt z.others = pp := ⟨_, rfl⟩; rw [hpp] at hfind hat; have hpl : pp < ln := by rw [<- HLN.out]; exact (List.getElem?_eq_some_iff.1 hat).1
     obtain ⟨g, rfl, hg, m0, m1, m2, _⟩ := mr_at HROW.out hat; have hE : y.endProbe p = if p.acked = false /\ m.k.st = 1 then z.hear ⟨p.tgt, m.k.inc, 2⟩ else z := by rw [HEND.out, hf]; simp only [hmi]
     have HE := Hd hE; have HF := Hd hfind; have hk2 : Jp ⟨p.tgt, m.k.inc, 2⟩ := ⟨hpr.1, hkm.2.1, by show (1 : Int) <= 2 /\ (2 : Int) <= 4; omega⟩
     have HK2 := Hd hk2; clear hE hf hfind hmm hmi hkm hat hpp hk2; cases hack : p.acked with
     | true =>
      rw [hack] at d18 HE; clear hack; go_wp2_with (go_at_call 106; rw [HW6.out]; refine HF.out.mono ?_; rintro e w7 ⟨rfl, n7, rfl⟩)
      ((try simp only [Exit.inBlock, Exit.then]); first | refine bodyPost_ret (results_none rfl _ _ _) rfl ?_ | refine bodyPost_end (results_none rfl _ _ _) rfl ?_)
      exact ⟨rfl, f6, by rw [HWT2.out, HE.out, if_neg (by simp)]; exact HS6.out.drewN n7⟩
     | false =>
      rw [hack] at d18 HE; clear hack; by_cases h1 : m.k.st = 1
      · have hE2 : y.endProbe p = z.hear ⟨p.tgt, m.k.inc, 2⟩ := by rw [HE.out, if_pos ⟨rfl, h1⟩]
        have HE2 := Hd hE2; have h1b : (m.k.st == 1) = true := by simpa using h1
        obtain ⟨⟨mid, minc, mst⟩, mdue⟩ := m; simp only at m0 m1 m2 h1b HE2 HK2; clear hE2 h1 HE
        go_wp2_with (first
         | (go_at_call 106; rw [HW6.out]; refine HF.out.mono ?_; rintro e w7 ⟨rfl, n7, rfl⟩)
         | (go_at_call 71; refine (rheard_any (HS6.out.drewN n7).at_ (HS6.out.drewN n7).out HOKZ.out HBZ.out (by omega) ⟨p.tgt, minc, 2⟩ HK2.out).mono ?_; rintro e w8 ⟨rfl, f8, hS8⟩; have HS8 := Hd hS8; clear hS8))
        ((try simp only [Exit.inBlock, Exit.then]); first | refine bodyPost_ret (results_none rfl _ _ _) rfl ?_ | refine bodyPost_end (results_none rfl _ _ _) rfl ?_)
        exact ⟨rfl, f8, by rw [HWT2.out, HE2.out]; exact (HS6.out.drewN n7).trans HS8.out⟩
      · have hE2 : y.endProbe p = z := by rw [HE.out, if_neg (fun e => h1 e.2)]
        have HE2 := Hd hE2; have h1b : (m.k.st == 1) = false := by simpa using h1
        obtain ⟨⟨mid, minc, mst⟩, mdue⟩ := m; simp only at m0 m1 m2 h1b HE2; clear hE2 h1 HE; go_wp2_with (go_at_call 106; rw [HW6.out]; refine HF.out.mono ?_; rintro e w7 ⟨rfl, n7, rfl⟩)
        ((try simp only [Exit.inBlock, Exit.then]); first | refine bodyPost_ret (results_none rfl _ _ _) rfl ?_ | refine bodyPost_end (results_none rfl _ _ _) rfl ?_)
        exact ⟨rfl, f6, by rw [HWT2.out, HE2.out]; exact HS6.out.drewN n7⟩
