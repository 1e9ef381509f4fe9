/-
  gossipkeep.Rising. THE WALK.
-/
import Derived.Test.YtfngdplkcppabaaGreatPart28
set_option linter.all false
namespace Go.Proofs.YtfngdplkcppabaaGreat
open Go.RowKit

theorem below_dr {B n : Nat} {w w' : World} (h : Below B w w') : Below B w (w'.drewN n) := ⟨h.os, h.tape, h.output, h.size, h.block⟩
theorem below_dd {w w1 w2 : World} {n : Nat} (h : Below w.heap.size w w1) (k : Below (w1.drewN n).drew.heap.size (w1.drewN n).drew w2) : Below w.heap.size w w2 := by
  have h' : Below w.heap.size w (w1.drewN n).drew := ⟨h.os, h.tape, h.output, h.size, h.block⟩
  exact h'.trans (k.mono h'.size)
theorem below_d {w w1 w2 : World} (h : Below w.heap.size w w1) (k : Below w1.drew.heap.size w1.drew w2) : Below w.heap.size w w2 := by
  have h' : Below w.heap.size w w1.drew := ⟨h.os, h.tape, h.output, h.size, h.block⟩
  exact h'.trans (k.mono h'.size)

set_option maxRecDepth 100000 in
set_option maxHeartbeats 8000000 in
theorem rising_any (c : Int) (hc : -9223372036854775808 ≤ c ∧ c ≤ 9223372036854775807) (ds : List Int) (hfit : ∀ v ∈ ds, fitsI v) (da : Option Addr) (dn dc : Nat) (w : World) (hdn : ds.length = dn) (hl : dn ≤ 9223372036854775807) (hd : CellsAt w da (ds.map (Value.int .i64)))
    (l : List RM) (la : Option Addr) (ln lc : Nat) (hll : l.length = ln) (_hln : ln ≤ 9223372036854775807) (hla : RawsAt w la l) (hls : ∀ q ∈ l, q.Fit w) :
    Calls Tryz.prog 7 #[.int .i64 c, .slice da dn dc, .slice la ln lc] w fun e w' => e = .returned (.bool true) ∧ Below w.heap.size w w' := by
  have hmade := made_any 2 (by omega) c hc ds hfit da dn dc w hdn hl hd
  have HM := Lib.hid hmade
  have HLA := Lib.hid hla
  have HLS := Lib.hid hls
  have HLL := Lib.hid hll
  clear hmade hd hdn hfit hla hls hll
  go_enter Tryz.func7, Tryz.ntmps7
  go_wp2_with fail
  refine HM.out.mono ?_
  rintro e w1 ⟨v, L, rfl, hNs, hMid, hb1⟩
  have hLl : L.length = 2 := by rw [← hMid.len, List.length_map]
  obtain ⟨rg, cp, rfl⟩ := hNs.sl (by omega)
  rw [hLl] at hNs ⊢
  obtain ⟨q, hq⟩ : ∃ q, L[0]? = some q := ⟨L[0], List.getElem?_eq_getElem (by omega)⟩
  have cq := hNs.cell hq
  have cb := hNs.box hq
  have hqa := hNs.bxs.at_ q (List.mem_of_getElem? hq)
  have hinv := binv_made hMid (by omega) (x_at hq)
  obtain ⟨ov, hnode⟩ := hqa.node
  have hsee := see_any hinv.ok q.a ov w1 hnode
  have HSEE := Lib.hid hsee
  have HQA := Lib.hid hqa
  have HINV := Lib.hid hinv
  have HB1 := Lib.hid hb1
  have hsz1 := hb1.size
  clear hNs hMid hb1 hq hqa hinv hnode hsee hLl
  go_wp2_with fail
  refine HSEE.out.mono ?_
  rintro e w2 ⟨v, rfl, hrow2, hb2⟩
  obtain ⟨va, vc, rfl⟩ := ownsRow_sl hrow2
  have hba : Below w2.heap.size w2 (w2.alloc (.cells (stCells q.x va vc) 46)) := (Below.refl _ _).alloc (Nat.le_refl _) _
  have hsz2 := hb2.size
  have HREL := Lib.hid (show BdRel w q.g w2.heap.size 0 1 (w2.alloc (.cells (stCells q.x va vc) 46)) from
    ⟨⟨q, va, vc, (HQA.out.below hb2).below hba, rfl, by simpa using HINV.out, heap_alloc_eq w2 _, own_below (own_under hrow2 hba) (by omega)⟩, by omega, (HB1.out.trans (hb2.mono hsz1)).trans (hba.mono (by omega))⟩)
  clear hrow2 hb2 hba cq cb
  unfold seeV
  unfold stCells at HREL
  go_wp2_with fail
  go_loopw [10] (fun s10 wr => ∃ i : Nat, i ≤ ln ∧ i ≤ 40 ∧ s10 = .int .i64 (i : Nat) ∧ BdRel w q.g w2.heap.size i 1 wr) (fun s10 _ => 100 - (intOf s10).toNat)
  case atStart => exact ⟨0, Nat.zero_le _, Nat.zero_le _, rfl, HREL.out⟩
  case round =>
    clear HREL HSEE HQA HINV HB1
    obtain ⟨i, hil, hi60, rfl, hR⟩ := hrel
    obtain ⟨⟨q1, va1, vc1, hq1, hg1, hv1, hA1, hrow1⟩, hlo, hbw⟩ := hR
    have hszw := hbw.size
    by_cases hin : i < ln
    · by_cases hi6 : i < 40
      · obtain ⟨rm, hrm⟩ : ∃ rm, l[i]? = some rm := ⟨_, List.getElem?_eq_getElem (by have := HLL.out; omega)⟩
        obtain ⟨lb, lo, rfl, hlb, hlc⟩ := HLA.out i rm hrm
        obtain ⟨hul, hka, hfit⟩ := HLS.out rm (List.mem_of_getElem? hrm)
        have r0 := (hbw.cell (p := ⟨lb, lo + i * 6 + 0, none⟩) hlb).trans (hlc 0 _ rfl)
        have r1 := (hbw.cell (p := ⟨lb, lo + i * 6 + 1, none⟩) hlb).trans (hlc 1 _ rfl)
        have r2 := (hbw.cell (p := ⟨lb, lo + i * 6 + 2, none⟩) hlb).trans (hlc 2 _ rfl)
        have r3 := (hbw.cell (p := ⟨lb, lo + i * 6 + 3, none⟩) hlb).trans (hlc 3 _ rfl)
        have r4 := (hbw.cell (p := ⟨lb, lo + i * 6 + 4, none⟩) hlb).trans (hlc 4 _ rfl)
        have r5 := (hbw.cell (p := ⟨lb, lo + i * 6 + 5, none⟩) hlb).trans (hlc 5 _ rfl)
        rw [Nat.add_zero] at r0
        obtain ⟨un, hun⟩ : ∃ un, rm.m.ups.length = un := ⟨_, rfl⟩
        rw [hun] at r5 hul
        have hkm := kmsg_any rm.m rm.a un rm.cap wr hun (by unfold maxLen at hul; omega) (fun j u hj => by
          obtain ⟨b, off, e, hb, c0, c1, c2⟩ := hka j u hj
          exact ⟨b, off, e, by omega, by rw [hbw.cell hb]; exact c0, by rw [hbw.cell hb]; exact c1, by rw [hbw.cell hb]; exact c2⟩) hfit
        have hwh := keep_whole rm.m
        have HKM := Lib.hid hkm
        have HWH := Lib.hid hwh
        have HQ1 := Lib.hid hq1
        have HG1 := Lib.hid hg1
        have HV1 := Lib.hid hv1
        have HA1 := Lib.hid hA1
        have HROW1 := Lib.hid hrow1
        have HBW := Lib.hid hbw
        have hltA := heap_lt hA1
        clear hq1 hg1 hv1 hA1 hrow1 hbw hrm hlc hka hfit hkm hwh hun hlb
        go_wp2_with fail
        refine HKM.out.mono ?_
        rintro e w3 ⟨v, rfl, hrow3, hb3⟩
        obtain ⟨ma, mc, rfl⟩ := ownsRow_sl hrow3
        obtain ⟨⟨mk, mf, mi, ms, mt, mu⟩, hm⟩ : ∃ m, keepMsg rm.m = m := ⟨_, rfl⟩
        have hwh := HWH.out
        rw [hm] at hwh hrow3 ⊢
        obtain ⟨mn, hmn⟩ : ∃ mn, mu.length = mn := ⟨_, rfl⟩
        simp only at hrow3
        rw [hmn] at hrow3 ⊢
        have hmn8 : mn ≤ 8 := by have := whole_len hwh; simp only at this; omega
        have hmf : 1 ≤ mf ∧ mf ≤ 250 := (mok_of hwh).frm
        have HWM := Lib.hid hwh
        have HMN := Lib.hid hmn
        have HROW3 := Lib.hid hrow3
        have HB3 := Lib.hid hb3
        have hsz3 := hb3.size
        clear hm hwh hmn hrow3 hb3 HKM HWH r0 r1 r2 r3 r4 r5
        unfold M.agg
        simp only
        have hd40 : decide ((i : Int) < 40) = true := by simp; omega
        try rw [hd40]
        have HI6 := Lib.hid hi6
        clear hi6 hd40
        go_upto_if 54 with (fail)
        obtain ⟨w4, hw4⟩ : ∃ w4, w3.alloc (.cells #[.int .i64 mk, .int .i64 mf, .int .i64 mi, .int .i64 ms, .int .i64 mt, .slice ma mn mc] 29) = w4 := ⟨_, rfl⟩
        rw [hw4]
        have hb4 : Below wr.heap.size wr w4 := by rw [← hw4]; exact HB3.out.alloc HB3.out.size _
        have hx4 : w4.heap[w3.heap.size]? = some (.cells #[.int .i64 mk, .int .i64 mf, .int .i64 mi, .int .i64 ms, .int .i64 mt, .slice ma mn mc] 29 (0, 0)) := by rw [← hw4]; exact heap_alloc_eq w3 _
        have hrow4 : w4.ownsRow wr.heap.size 31 3 (.slice ma mn mc) mn (keyCells mu) := by rw [← hw4]; exact HROW3.out.alloc _
        have y4 := cells_at hx4 1
        simp only [List.getElem?_toArray, List.getElem?_cons_succ, List.getElem?_cons_zero] at y4
        have z4 := unfrozen hx4 1
        have HB4 := Lib.hid hb4
        have HX4 := Lib.hid hx4
        have HROW4 := Lib.hid hrow4
        clear hw4 hb4 hx4 hrow4 HROW3 HB3
        go_cut [] (fun wx => wx.heap[w3.heap.size]? = some (.cells #[.int .i64 mk, .int .i64 (if mf = 1 then 2 else mf), .int .i64 mi, .int .i64 ms, .int .i64 mt, .slice ma mn mc] 29 (0, 0)) ∧ wx.ownsRow wr.heap.size 31 3 (.slice ma mn mc) mn (keyCells mu) ∧ Below wr.heap.size wr wx)
        case first =>
          by_cases hf1 : mf = 1
          · have hfb : (mf == 1) = true := by simpa using hf1
            have HF1 := Lib.hid hf1
            clear hf1
            go_wp2
            go_meet
            case rel =>
              rw [if_pos HF1.out]
              refine ⟨heap_setCell_eq HX4.out, ?_, HB4.out.setCell (by show wr.heap.size ≤ w3.heap.size; omega) _⟩
              refine own_chg HROW4.out ((Chg.refl (fun k _ => k = w3.heap.size) w4).setCell _ (fun _ _ => rfl)) (fun g o hg e => ?_)
              subst e
              obtain ⟨_, cur, hgc⟩ := ownsRow_blk HROW4.out hg
              rw [HX4.out] at hgc
              simp only [Option.some.injEq, Obj.cells.injEq] at hgc
              exact absurd hgc.2.1 (by decide)
          · have hfb : (mf == 1) = false := by simpa using hf1
            have HF1 := Lib.hid hf1
            clear hf1
            go_wp2
            go_meet
            case rel => exact ⟨by rw [if_neg HF1.out]; exact HX4.out, HROW4.out, HB4.out⟩
        case rest =>
          obtain ⟨hx5, hrow5, hb5⟩ := hcut
          obtain ⟨mf', hmf'⟩ : ∃ mf', (if mf = 1 then 2 else mf) = mf' := ⟨_, rfl⟩
          rw [hmf'] at hx5
          have hrf : riseFrm mf = 2 + mf' % 7 := by rw [← hmf']; rfl
          have hmf2 : 2 ≤ mf' ∧ mf' ≤ 250 := by rw [← hmf']; split <;> omega
          have HRF := Lib.hid hrf
          have hszc := hb5.size
          clear y4 z4 HX4 HROW4 HB4 hmf' hrf
          go_wp2_with fail
          go_loopw [12] (fun s12 wx => ∃ k : Nat, k ≤ mn ∧ s12 = .int .i64 (k : Nat) ∧ wx.heap[w3.heap.size]? = some (.cells #[.int .i64 mk, .int .i64 mf', .int .i64 mi, .int .i64 ms, .int .i64 mt, .slice ma mn mc] 29 (0, 0)) ∧ wx.ownsRow wr.heap.size 31 3 (.slice ma mn mc) mn (keyCells (riseTo mu k)) ∧ Below wr.heap.size wr wx) (fun s12 _ => 20 - (intOf s12).toNat)
          case atStart => exact ⟨0, Nat.zero_le _, rfl, hx5, by simpa [riseTo] using hrow5, hb5⟩
          case round =>
            clear hx5 hrow5 hb5 hszc
            obtain ⟨k, hkn, rfl, hx, hrow, hb⟩ := hrel
            have d0 := cells_at hx 0
            have d1 := cells_at hx 1
            have d2 := cells_at hx 2
            have d3 := cells_at hx 3
            have d4 := cells_at hx 4
            have d5 := cells_at hx 5
            simp only [List.getElem?_toArray, List.getElem?_cons_succ, List.getElem?_cons_zero] at d0 d1 d2 d3 d4 d5
            have z1 := unfrozen hx 1
            have hszx := hb.size
            by_cases hkl : k < mn
            · obtain ⟨u, hu⟩ : ∃ u, mu[k]? = some u := ⟨_, List.getElem?_eq_getElem (by have := HMN.out; omega)⟩
              obtain ⟨hu1, hu2⟩ := riseTo_at hu
              have hid : 1 ≤ u.id ∧ u.id ≤ 250 := ((mok_of HWM.out).ups u (List.mem_of_getElem? hu)).1
              obtain ⟨b, off, rfl, hlt, c0, _, _⟩ := (keysAt_row hrow).2 k u hu1
              have hoff : off = 0 := by
                rcases hrow.2 with ⟨e1, _⟩ | ⟨g', cap, cur0, e1, _⟩
                · simp at e1
                · simp only [Value.slice.injEq, Option.some.injEq, Addr.mk.injEq] at e1; exact e1.1.2.1
              subst hoff
              obtain ⟨c0, hfz⟩ := own_id hrow hu1
              have r1 : u.id.tmod 9 = u.id % 9 := Int.tmod_eq_emod_of_nonneg (by omega)
              have w9 : IntKind.i64.wrap (1 + u.id % 9) = 1 + u.id % 9 := IntWalk.i64_in _ (by omega)
              have hr2 := own_setId hrow (by rw [riseTo_len]; exact HMN.out) hu1 (1 + u.id % 9)
              have hbm : b ≠ w3.heap.size := by
                rintro rfl
                obtain ⟨_, cur, hgc⟩ := ownsRow_blk hrow rfl
                rw [hx] at hgc
                simp only [Option.some.injEq, Obj.cells.injEq] at hgc
                exact absurd hgc.2.1 (by decide)
              have hbB := (hrow.lt b rfl).1
              have hx' : (wr.setCell ⟨b, k * 3, none⟩ (.int .i64 (1 + u.id % 9))).heap[w3.heap.size]? = _ := (heap_setCell_ne _ _ _ _ _ (fun e => hbm e.symm)).trans hx
              have hb' := hb.setCell (p := ⟨b, k * 3, none⟩) hbB (.int .i64 (1 + u.id % 9))
              rw [show ({ u with id := 1 + u.id % 9 } : K) = riseKey u from rfl, ← hu2] at hr2
              have HR2 := Lib.hid hr2
              have HX' := Lib.hid hx'
              have HB' := Lib.hid hb'
              clear hx hrow hb hu hu1 hu2 hr2 hx' hb' d1 z1
              go_upto_region 15 with (fail)
              (refine wp_tail 13 (by kernel_rfl) (by kernel_rfl) ?_; simp only [List.take_succ_cons, List.take_zero, List.drop_succ_cons, List.drop_zero])
              iterate 13 still_step
              refine wpStill_nil ?_
              go_wp2
              go_roundw
              case rel => exact ⟨k + 1, by omega, by go_num, HX'.out, HR2.out, HB'.out.drew⟩
              case measure => simp [intOf]; omega
            · have hke : k = mn := by omega
              have hre : riseTo mu k = mu.map riseKey := by rw [hke, ← HMN.out]; exact riseTo_end mu
              rw [hre] at hrow
              have r7 : mf'.tmod 7 = mf' % 7 := Int.tmod_eq_emod_of_nonneg (by omega)
              have w7 : IntKind.i64.wrap (2 + mf' % 7) = riseFrm mf := by rw [HRF.out]; exact IntWalk.i64_in _ (by omega)
              obtain ⟨wS, hwS⟩ : ∃ wS, wr.setCell ⟨w3.heap.size, 1, none⟩ (.int .i64 (riseFrm mf)) = wS := ⟨_, rfl⟩
              have hxS : wS.heap[w3.heap.size]? = some (.cells #[.int .i64 mk, .int .i64 (riseFrm mf), .int .i64 mi, .int .i64 ms, .int .i64 mt, .slice ma mn mc] 29 (0, 0)) := by rw [← hwS]; exact heap_setCell_eq hx
              have hrowS := own_chg hrow ((Chg.refl (fun k _ => k = w3.heap.size) wr).setCell (p := ⟨w3.heap.size, 1, none⟩) (.int .i64 (riseFrm mf)) (fun _ _ => rfl)) (fun g o hg e => by
                subst e
                obtain ⟨_, cur, hgc⟩ := ownsRow_blk hrow hg
                rw [hx] at hgc
                simp only [Option.some.injEq, Obj.cells.injEq] at hgc
                exact absurd hgc.2.1 (by decide))
              rw [hwS] at hrowS
              have hbS := hb.setCell (p := ⟨w3.heap.size, 1, none⟩) (by show _ ≤ w3.heap.size; omega) (.int .i64 (riseFrm mf))
              rw [hwS] at hbS
              obtain ⟨mx, hM⟩ : ∃ mx : M, (⟨mk, riseFrm mf, mi, ms, mt, mu.map riseKey⟩ : M) = mx := ⟨_, rfl⟩
              have hwM : wholeB mx = true := by rw [← hM]; exact rise_whole HWM.out
              have hMu : mx.ups = mu.map riseKey := by rw [← hM]
              have hMf : mx.frm ≠ 1 := by rw [← hM]; have := riseFrm_bd mf; show riseFrm mf ≠ 1; omega
              have henc := encode_yes mx ma mn mc wS (by rw [hMu, List.length_map]; exact HMN.out) (by rw [hMu]; exact (keysAt_row hrowS).2) hwM
              rw [← hM] at henc
              simp only at henc
              have HENC := Lib.hid henc
              have HWS := Lib.hid hwS
              have HXS := Lib.hid hxS
              have HROWS := Lib.hid hrowS
              have HBS := Lib.hid hbS
              have HMM := Lib.hid hM
              have HWHM := Lib.hid hwM
              have HMU := Lib.hid hMu
              have HMF := Lib.hid hMf
              have HB0 := Lib.hid hb
              have hszS := hbS.size
              clear hke hre hx hrow hb hwS hxS hrowS hbS hM hwM hMu hMf henc
              go_wp2_with fail
              rw [HWS.out]
              refine HENC.out.mono ?_
              rintro e w5 ⟨rfl, hb5⟩
              rw [HMM.out]
              have hB5 := HBS.out.trans (hb5.mono hszS)
              have hq5 := HQ1.out.below hB5
              have cb5 := cells_at hq5.box 0
              simp only [List.getElem?_toArray, List.getElem?_cons_zero, HG1.out] at cb5
              obtain ⟨ov5, hn5⟩ := hq5.node
              have hx5 := (hb5.block _ (heap_lt HXS.out)).trans HXS.out
              have hA5 := (hB5.block _ hltA).trans HA1.out
              have hr5 := own_under HROWS.out hb5
              have ha5 := own_under HROW1.out hB5
              have hmok := mok_of HWHM.out
              have hrec := receive_any HV1.out.ok HV1.out.bd (by omega) q1.a ov5 w5 hn5 (strOfNums (msgBytes mx)) (by have := bytes_size HWHM.out; unfold maxLen; omega) (fun m' hm' => by rw [decode_bytes HWHM.out] at hm'; cases hm'; exact hmok)
              rw [decode_bytes HWHM.out] at hrec
              obtain ⟨hv6, hv7, hup, hdrop, hheard⟩ := HV1.out.rise (by omega) HWHM.out HMF.out
              obtain ⟨x6, hx6⟩ : ∃ x6, (q1.x.receive (some mx)).2 = x6 := ⟨_, rfl⟩
              rw [hx6] at hv6 hv7 hup hdrop hheard
              have HREC := Lib.hid hrec
              have HX6 := Lib.hid hx6
              have HV6 := Lib.hid hv6
              have HV7 := Lib.hid hv7
              have HUP := Lib.hid hup
              have HDROP := Lib.hid hdrop
              have HHEARD := Lib.hid hheard
              have HQ5 := Lib.hid hq5
              have HN5 := Lib.hid hn5
              have HX5 := Lib.hid hx5
              have HA5 := Lib.hid hA5
              have HR5 := Lib.hid hr5
              have HAR5 := Lib.hid ha5
              have HB5 := Lib.hid (HBW.out.trans (hB5.mono hszw))
              have hsz5 := hB5.size
              clear hb5 hB5 hq5 hn5 hx5 hA5 hr5 ha5 hmok hrec hv6 hv7 hup hdrop hheard hx6 d1 d5 z1
              go_wp2_with fail
              refine HREC.out.mono ?_
              rintro e w6 ⟨v6, rfl, a6, hT6, hO6⟩
              rw [HX6.out] at hT6
              have hi6 := HI6.out
              have hd6 := HV6.out.ds
              obtain ⟨hq6, hb6⟩ := HQ5.out.turn (by omega) hT6
              have hx6 := hT6.keepT HN5.out HX5.out (by decide)
              have hA6 := hT6.keepT HN5.out HA5.out (by decide)
              have hr6 := hT6.keepRow HN5.out HR5.out (by decide)
              have har6 := hT6.keepRow HN5.out HAR5.out (by decide)
              have cb6 := cells_at hq6.box 0
              simp only [List.getElem?_toArray, List.getElem?_cons_zero, HG1.out] at cb6
              obtain ⟨ov6, hn6⟩ := hq6.node
              have HTK := Lib.hid (tick_any HV6.out.ok HV6.out.bd (by omega) (by omega) a6 ov6 w6 hn6)
              have HQ6 := Lib.hid hq6
              have HN6 := Lib.hid hn6
              have HXM6 := Lib.hid hx6
              have HA6 := Lib.hid hA6
              have HR6 := Lib.hid hr6
              have HAR6 := Lib.hid har6
              have HB6 := Lib.hid (HB5.out.trans hb6)
              have hsz6 : w5.heap.size ≤ w6.heap.size := hT6.chg.size
              clear hT6 hO6 hq6 hb6 hx6 hA6 hr6 har6 hn6 hi6 hd6 HREC
              go_wp2_with fail
              refine HTK.out.mono ?_
              rintro e w7 ⟨v7, rfl, a7, hT7, hO7⟩
              obtain ⟨x7, hx7⟩ : ∃ x7, x6.tick.2 = x7 := ⟨_, rfl⟩
              rw [hx7] at hT7
              have hv7 := HV7.out
              have hup := HUP.out
              have hdrop := HDROP.out
              have hheard := HHEARD.out
              rw [hx7] at hv7 hup hdrop hheard
              obtain ⟨hq7, hb7⟩ := HQ6.out.turn (by omega) hT7
              have hxm7 := hT7.keepT HN6.out HXM6.out (by decide)
              have hA7 := hT7.keepT HN6.out HA6.out (by decide)
              have hr7 := hT7.keepRow HN6.out HR6.out (by decide)
              have har7 := hT7.keepRow HN6.out HAR6.out (by decide)
              have cb7 := cells_at hq7.box 0
              simp only [List.getElem?_toArray, List.getElem?_cons_zero, HG1.out] at cb7
              obtain ⟨ov7, hn7⟩ := hq7.node
              have HSEE7 := Lib.hid (see_any hv7.ok a7 ov7 w7 hn7)
              have HQ7 := Lib.hid hq7
              have HXM7 := Lib.hid hxm7
              have HA7 := Lib.hid hA7
              have HR7 := Lib.hid hr7
              have HAR7 := Lib.hid har7
              have HB7 := Lib.hid (HB6.out.trans hb7)
              have hsz7 : w6.heap.size ≤ w7.heap.size := hT7.chg.size
              have hself : q1.x.self.inc ≤ x7.self.inc := hup.self
              have holen : q1.x.others.length ≤ x7.others.length := hup.len
              have hol7 : x7.others.length ≤ 7 := hv7.ok.len
              have HUP7 := Lib.hid hup
              have HV77 := Lib.hid hv7
              have HDR7 := Lib.hid hdrop
              have HHE7 := Lib.hid hheard
              clear hT7 hO7 hx7 hv7 hup hdrop hheard hq7 hb7 hxm7 hA7 hr7 har7 hn7 HUP HDROP HHEARD HV7 cb6
              go_wp2_with fail
              refine HSEE7.out.mono ?_
              rintro e w8 ⟨v, rfl, hrow8, hb8⟩
              obtain ⟨vb, vbc, rfl⟩ := ownsRow_sl hrow8
              have hb8a : ∀ o, Below w7.heap.size w7 (w8.alloc o) := fun o => hb8.alloc hb8.size o
              have aa : ∀ o (k : Nat), (w8.alloc o).cell? ⟨w2.heap.size, k, none⟩ = (#[.int .i64 q1.x.clock, .int .i64 q1.x.self.id, .int .i64 q1.x.self.inc, .int .i64 q1.x.self.st, .slice va1 q1.x.others.length vc1, .int .i64 (prbTgt q1.x.probe), .int .i64 (q1.x.queue.length : Nat), .int .i64 (q1.x.relays.length : Nat), .int .i64 q1.x.dropped, .int .i64 q1.x.lost] : Array Value)[k]? := fun o k => cells_at (((hb8a o).block _ (heap_lt HA7.out)).trans HA7.out) k
              have HB8 := Lib.hid hb8
              have HB8A := Lib.hid hb8a
              have HROW8 := Lib.hid hrow8
              have hsz8 := hb8.size
              clear hb8 hb8a hrow8
              unfold seeV
              rw [HDR7.out]
              go_upto_if 132 with (fail)
              obtain ⟨W, hW⟩ : ∃ W, (w8.alloc (.cells #[.int .i64 x7.clock, .int .i64 x7.self.id, .int .i64 x7.self.inc, .int .i64 x7.self.st, .slice vb x7.others.length vbc, .int .i64 (prbTgt x7.probe), .int .i64 (x7.queue.length : Nat), .int .i64 (x7.relays.length : Nat), .int .i64 q1.x.dropped, .int .i64 x7.lost] 46)) = W := ⟨_, rfl⟩
              rw [hW]
              have hbW : Below w7.heap.size w7 W := by rw [← hW]; exact HB8A.out _
              have hbW8 : Below w8.heap.size w8 W := by rw [← hW]; exact (Below.refl _ _).alloc (Nat.le_refl _) _
              have hxb : W.heap[w8.heap.size]? = some (.cells #[.int .i64 x7.clock, .int .i64 x7.self.id, .int .i64 x7.self.inc, .int .i64 x7.self.st, .slice vb x7.others.length vbc, .int .i64 (prbTgt x7.probe), .int .i64 (x7.queue.length : Nat), .int .i64 (x7.relays.length : Nat), .int .i64 q1.x.dropped, .int .i64 x7.lost] 46 (0, 0)) := by rw [← hW]; exact heap_alloc_eq w8 _
              have HQW := Lib.hid (HQ7.out.below hbW)
              have HXMW := Lib.hid ((hbW.block _ (heap_lt HXM7.out)).trans HXM7.out)
              have HAW := Lib.hid ((hbW.block _ (heap_lt HA7.out)).trans HA7.out)
              have HRW := Lib.hid (own_under HR7.out hbW)
              have HARW := Lib.hid (own_under HAR7.out hbW)
              have HBRW := Lib.hid (own_under HROW8.out hbW8)
              have HXB := Lib.hid hxb
              have HBB := Lib.hid (HB7.out.trans (hbW.mono (by omega)))
              have hszW := hbW.size
              clear hW hbW hbW8 hxb aa cb7 HB8 HB8A HROW8 HQ7 HXM7 HA7 HR7 HAR7 HB7 HTK HSEE7
              have hd1 : decide (x7.self.inc < q1.x.self.inc) = false := by simp; omega
              have hd2 : decide ((x7.others.length : Int) < (q1.x.others.length : Int)) = false := by simp; omega
              have hd3 : decide ((7 : Int) < (x7.others.length : Int)) = false := by simp; omega
              have hd4 : decide (x7.others.length < q1.x.others.length) = false := by simp; omega
              have hd5 : decide (7 < x7.others.length) = false := by simp; omega
              try rw [hd1]
              try rw [hd2]
              try rw [hd3]
              try rw [hd4]
              try rw [hd5]
              clear hd1 hd2 hd3 hd4 hd5
              try rw [Bool.or_false]
              try rw [Bool.or_false]
              try rw [Bool.or_false]
              go_wp2_with fail
              go_loopw [16] (fun s16 wx => ∃ j : Nat, j ≤ q1.x.others.length ∧ s16 = .int .i64 (j : Nat) ∧ Below W.heap.size W wx) (fun s16 _ => 20 - (intOf s16).toNat)
              case atStart => exact ⟨0, Nat.zero_le _, rfl, Below.refl _ _⟩
              case round =>
                obtain ⟨j, hj, rfl, hbx⟩ := hrel
                have ab : ∀ k : Nat, wr.cell? ⟨w8.heap.size, k, none⟩ = (#[.int .i64 x7.clock, .int .i64 x7.self.id, .int .i64 x7.self.inc, .int .i64 x7.self.st, .slice vb x7.others.length vbc, .int .i64 (prbTgt x7.probe), .int .i64 (x7.queue.length : Nat), .int .i64 (x7.relays.length : Nat), .int .i64 q1.x.dropped, .int .i64 x7.lost] : Array Value)[k]? := fun k => cells_at ((hbx.block _ (heap_lt HXB.out)).trans HXB.out) k
                have aa : ∀ k : Nat, wr.cell? ⟨w2.heap.size, k, none⟩ = (#[.int .i64 q1.x.clock, .int .i64 q1.x.self.id, .int .i64 q1.x.self.inc, .int .i64 q1.x.self.st, .slice va1 q1.x.others.length vc1, .int .i64 (prbTgt q1.x.probe), .int .i64 (q1.x.queue.length : Nat), .int .i64 (q1.x.relays.length : Nat), .int .i64 q1.x.dropped, .int .i64 q1.x.lost] : Array Value)[k]? := fun k => cells_at ((hbx.block _ (heap_lt HAW.out)).trans HAW.out) k
                have am : ∀ k : Nat, wr.cell? ⟨w3.heap.size, k, none⟩ = (#[.int .i64 mk, .int .i64 (riseFrm mf), .int .i64 mi, .int .i64 ms, .int .i64 mt, .slice ma mn mc] : Array Value)[k]? := fun k => cells_at ((hbx.block _ (heap_lt HXMW.out)).trans HXMW.out) k
                have HBX := Lib.hid hbx
                have hszx' := hbx.size
                clear hbx
                by_cases hjl : j < q1.x.others.length
                · obtain ⟨m, hm⟩ : ∃ m, q1.x.others[j]? = some m := ⟨_, List.getElem?_eq_getElem hjl⟩
                  have HM' := Lib.hid hm
                  clear hm
                  go_wp2_with fail
                  clear aa ab am
                  go_loopw [17, 18] (fun s17 s18 wx => ∃ (t : Nat) (bb : Bool), t ≤ x7.others.length ∧ s17 = .bool bb ∧ s18 = .int .i64 (t : Nat) ∧ (bb = false → ∀ i' < t, ∀ m', x7.others[i']? = some m' → m'.k.id ≠ m.k.id) ∧ Below W.heap.size W wx) (fun _ s18 _ => 20 - (intOf s18).toNat)
                  case atStart => exact ⟨0, false, Nat.zero_le _, rfl, rfl, fun _ i' hi' => by omega, HBX.out⟩
                  case round =>
                    obtain ⟨t, bb', ht, rfl, rfl, hno, hbx⟩ := hrel
                    have ab : ∀ k : Nat, wr.cell? ⟨w8.heap.size, k, none⟩ = (#[.int .i64 x7.clock, .int .i64 x7.self.id, .int .i64 x7.self.inc, .int .i64 x7.self.st, .slice vb x7.others.length vbc, .int .i64 (prbTgt x7.probe), .int .i64 (x7.queue.length : Nat), .int .i64 (x7.relays.length : Nat), .int .i64 q1.x.dropped, .int .i64 x7.lost] : Array Value)[k]? := fun k => cells_at ((hbx.block _ (heap_lt HXB.out)).trans HXB.out) k
                    have aa : ∀ k : Nat, wr.cell? ⟨w2.heap.size, k, none⟩ = (#[.int .i64 q1.x.clock, .int .i64 q1.x.self.id, .int .i64 q1.x.self.inc, .int .i64 q1.x.self.st, .slice va1 q1.x.others.length vc1, .int .i64 (prbTgt q1.x.probe), .int .i64 (q1.x.queue.length : Nat), .int .i64 (q1.x.relays.length : Nat), .int .i64 q1.x.dropped, .int .i64 q1.x.lost] : Array Value)[k]? := fun k => cells_at ((hbx.block _ (heap_lt HAW.out)).trans HAW.out) k
                    have am : ∀ k : Nat, wr.cell? ⟨w3.heap.size, k, none⟩ = (#[.int .i64 mk, .int .i64 (riseFrm mf), .int .i64 mi, .int .i64 ms, .int .i64 mt, .slice ma mn mc] : Array Value)[k]? := fun k => cells_at ((hbx.block _ (heap_lt HXMW.out)).trans HXMW.out) k
                    have hszy := hbx.size
                    by_cases htl : t < x7.others.length
                    · obtain ⟨m', hm'⟩ : ∃ m', x7.others[t]? = some m' := ⟨_, List.getElem?_eq_getElem htl⟩
                      have HT := Lib.hid hm'
                      clear hm'
                      obtain ⟨ba, oa, rfl, hla, a0, a1, a2⟩ := (keysAt_row (own_under HARW.out hbx)).2 j m.k (by rw [List.getElem?_map, HM'.out]; rfl)
                      obtain ⟨bb, ob, rfl, hlb', b0, b1, b2⟩ := (keysAt_row (own_under HBRW.out hbx)).2 t m'.k (by rw [List.getElem?_map, HT.out]; rfl)
                      have HBX' := Lib.hid hbx
                      have HNO := Lib.hid hno
                      clear hbx hno
                      by_cases hid : m'.k.id = m.k.id
                      · have hb : (m'.k.id == m.k.id) = true := by simpa using hid
                        have hl : lessK m'.k m.k = false := by
                          obtain ⟨m'', h1, h2, h3⟩ := HUP7.out.oth m (List.mem_of_getElem? HM'.out)
                          rw [rise_inj HV77.out.ok.rise (List.mem_of_getElem? HT.out) h1 (by omega)]; exact h3
                        clear hid
                        go_upto_region 32 with (fail)
                        go_quiet (fail)
                        go_upto_region 33 with (fail)
                        (refine wp_tail 10 (by kernel_rfl) (by kernel_rfl) ?_; simp only [List.take_succ_cons, List.take_zero, List.drop_succ_cons, List.drop_zero])
                        iterate 10 still_step
                        refine wpStill_nil ?_
                        go_wp2_with fail
                        refine (kgreater_any m.k m'.k _).mono ?_
                        rintro e wz ⟨rfl, hbz⟩
                        have HZ := Lib.hid (below_dd HBX'.out hbz)
                        rw [hl]
                        clear hbz
                        go_wp2
                        go_roundw
                        case rel =>
                          refine ⟨t + 1, true, by omega, rfl, by go_num, (fun h => Bool.noConfusion h), ?_⟩
                          exact HZ.out
                        case measure => simp [intOf]; omega
                      · have hb : (m'.k.id == m.k.id) = false := by simpa using hid
                        have HID := Lib.hid hid
                        clear hid
                        go_upto_region 32 with (fail)
                        go_quiet (fail)
                        go_wp2
                        go_roundw
                        case rel =>
                          refine ⟨t + 1, bb', by omega, rfl, by go_num, fun h i' hi' m3 h3 => ?_, below_dr HBX'.out⟩
                          rcases Nat.lt_or_ge i' t with h' | h'
                          · exact HNO.out h i' h' m3 h3
                          · have : i' = t := by omega
                            subst this
                            rw [HT.out] at h3; cases h3; exact HID.out
                        case measure => simp [intOf]; omega
                    · have hbt : bb' = true := by
                        cases bb' with
                        | true => rfl
                        | false =>
                          obtain ⟨m'', h1, h2, _⟩ := HUP7.out.oth m (List.mem_of_getElem? HM'.out)
                          obtain ⟨i', h3⟩ := List.getElem?_of_mem h1
                          have hlt := (List.getElem?_eq_some_iff.1 h3).1
                          exact absurd h2 (hno rfl i' (by omega) m'' h3)
                      subst hbt
                      have HBX' := Lib.hid hbx
                      clear hbx hno
                      go_wp2
                      go_roundw
                      case rel => exact ⟨j + 1, by omega, by go_num, HBX'.out⟩
                      case measure => simp [intOf]; omega
                · clear hj
                  go_wp2_with fail
                  go_loopw [20] (fun s20 wx => ∃ j : Nat, j ≤ mn ∧ s20 = .int .i64 (j : Nat) ∧ Below W.heap.size W wx) (fun s20 _ => 20 - (intOf s20).toNat)
                  case atStart => exact ⟨0, Nat.zero_le _, rfl, HBX.out⟩
                  case round =>
                    clear aa ab am hjl HBX hszx'
                    obtain ⟨j, hj, rfl, hbx⟩ := hrel
                    have ab : ∀ k : Nat, wr.cell? ⟨w8.heap.size, k, none⟩ = (#[.int .i64 x7.clock, .int .i64 x7.self.id, .int .i64 x7.self.inc, .int .i64 x7.self.st, .slice vb x7.others.length vbc, .int .i64 (prbTgt x7.probe), .int .i64 (x7.queue.length : Nat), .int .i64 (x7.relays.length : Nat), .int .i64 q1.x.dropped, .int .i64 x7.lost] : Array Value)[k]? := fun k => cells_at ((hbx.block _ (heap_lt HXB.out)).trans HXB.out) k
                    have aa : ∀ k : Nat, wr.cell? ⟨w2.heap.size, k, none⟩ = (#[.int .i64 q1.x.clock, .int .i64 q1.x.self.id, .int .i64 q1.x.self.inc, .int .i64 q1.x.self.st, .slice va1 q1.x.others.length vc1, .int .i64 (prbTgt q1.x.probe), .int .i64 (q1.x.queue.length : Nat), .int .i64 (q1.x.relays.length : Nat), .int .i64 q1.x.dropped, .int .i64 q1.x.lost] : Array Value)[k]? := fun k => cells_at ((hbx.block _ (heap_lt HAW.out)).trans HAW.out) k
                    have am : ∀ k : Nat, wr.cell? ⟨w3.heap.size, k, none⟩ = (#[.int .i64 mk, .int .i64 (riseFrm mf), .int .i64 mi, .int .i64 ms, .int .i64 mt, .slice ma mn mc] : Array Value)[k]? := fun k => cells_at ((hbx.block _ (heap_lt HXMW.out)).trans HXMW.out) k
                    have HBX := Lib.hid hbx
                    have hszx' := hbx.size
                    clear hbx
                    by_cases hjl : j < mn
                    · obtain ⟨u, hu⟩ : ∃ u, (mu.map riseKey)[j]? = some u := ⟨_, List.getElem?_eq_getElem (by rw [List.length_map, HMN.out]; exact hjl)⟩
                      have hmem : u ∈ mx.ups := by rw [HMU.out]; exact List.mem_of_getElem? hu
                      have HU := Lib.hid hu
                      have HMEM := Lib.hid hmem
                      clear hu hmem
                      go_wp2_with fail
                      clear aa ab am
                      go_loopw [21] (fun s21 wx => ∃ t : Nat, t ≤ x7.others.length ∧ s21 = .int .i64 (t : Nat) ∧ Below W.heap.size W wx) (fun s21 _ => 20 - (intOf s21).toNat)
                      case atStart => exact ⟨0, Nat.zero_le _, rfl, HBX.out⟩
                      case round =>
                        obtain ⟨t, ht, rfl, hbx⟩ := hrel
                        have ab : ∀ k : Nat, wr.cell? ⟨w8.heap.size, k, none⟩ = (#[.int .i64 x7.clock, .int .i64 x7.self.id, .int .i64 x7.self.inc, .int .i64 x7.self.st, .slice vb x7.others.length vbc, .int .i64 (prbTgt x7.probe), .int .i64 (x7.queue.length : Nat), .int .i64 (x7.relays.length : Nat), .int .i64 q1.x.dropped, .int .i64 x7.lost] : Array Value)[k]? := fun k => cells_at ((hbx.block _ (heap_lt HXB.out)).trans HXB.out) k
                        have aa : ∀ k : Nat, wr.cell? ⟨w2.heap.size, k, none⟩ = (#[.int .i64 q1.x.clock, .int .i64 q1.x.self.id, .int .i64 q1.x.self.inc, .int .i64 q1.x.self.st, .slice va1 q1.x.others.length vc1, .int .i64 (prbTgt q1.x.probe), .int .i64 (q1.x.queue.length : Nat), .int .i64 (q1.x.relays.length : Nat), .int .i64 q1.x.dropped, .int .i64 q1.x.lost] : Array Value)[k]? := fun k => cells_at ((hbx.block _ (heap_lt HAW.out)).trans HAW.out) k
                        have am : ∀ k : Nat, wr.cell? ⟨w3.heap.size, k, none⟩ = (#[.int .i64 mk, .int .i64 (riseFrm mf), .int .i64 mi, .int .i64 ms, .int .i64 mt, .slice ma mn mc] : Array Value)[k]? := fun k => cells_at ((hbx.block _ (heap_lt HXMW.out)).trans HXMW.out) k
                        have hszy := hbx.size
                        by_cases htl : t < x7.others.length
                        · obtain ⟨m', hm'⟩ : ∃ m', x7.others[t]? = some m' := ⟨_, List.getElem?_eq_getElem htl⟩
                          have HT := Lib.hid hm'
                          clear hm'
                          obtain ⟨bm, om, rfl, hlm, m0, m1, m2⟩ := (keysAt_row (own_under HRW.out hbx)).2 j u HU.out
                          obtain ⟨bb, ob, rfl, hlb', b0, b1, b2⟩ := (keysAt_row (own_under HBRW.out hbx)).2 t m'.k (by rw [List.getElem?_map, HT.out]; rfl)
                          have HBX' := Lib.hid hbx
                          clear hbx
                          go_upto_region 43 with (fail)
                          (refine wp_tail 10 (by kernel_rfl) (by kernel_rfl) ?_; simp only [List.take_succ_cons, List.take_zero, List.drop_succ_cons, List.drop_zero])
                          iterate 10 still_step
                          refine wpStill_nil ?_
                          go_wp2_with fail
                          refine (kgreater_any u m'.k _).mono ?_
                          rintro e wz ⟨rfl, hbz⟩
                          have hz := below_d HBX'.out hbz
                          clear aa ab am m0 m1 m2 b0 b1 b2 hlb' hlm
                          have ab : ∀ k : Nat, wz.cell? ⟨w8.heap.size, k, none⟩ = (#[.int .i64 x7.clock, .int .i64 x7.self.id, .int .i64 x7.self.inc, .int .i64 x7.self.st, .slice (some ⟨bb, ob, none⟩) x7.others.length vbc, .int .i64 (prbTgt x7.probe), .int .i64 (x7.queue.length : Nat), .int .i64 (x7.relays.length : Nat), .int .i64 q1.x.dropped, .int .i64 x7.lost] : Array Value)[k]? := fun k => cells_at ((hz.block _ (heap_lt HXB.out)).trans HXB.out) k
                          have aa : ∀ k : Nat, wz.cell? ⟨w2.heap.size, k, none⟩ = (#[.int .i64 q1.x.clock, .int .i64 q1.x.self.id, .int .i64 q1.x.self.inc, .int .i64 q1.x.self.st, .slice va1 q1.x.others.length vc1, .int .i64 (prbTgt q1.x.probe), .int .i64 (q1.x.queue.length : Nat), .int .i64 (q1.x.relays.length : Nat), .int .i64 q1.x.dropped, .int .i64 q1.x.lost] : Array Value)[k]? := fun k => cells_at ((hz.block _ (heap_lt HAW.out)).trans HAW.out) k
                          have am : ∀ k : Nat, wz.cell? ⟨w3.heap.size, k, none⟩ = (#[.int .i64 mk, .int .i64 (riseFrm mf), .int .i64 mi, .int .i64 ms, .int .i64 mt, .slice (some ⟨bm, om, none⟩) mn mc] : Array Value)[k]? := fun k => cells_at ((hz.block _ (heap_lt HXMW.out)).trans HXMW.out) k
                          obtain ⟨_, _, e1, hlm, m0, m1, m2⟩ := (keysAt_row (own_under HRW.out hz)).2 j u HU.out
                          cases e1
                          obtain ⟨_, _, e1, hlb', b0, b1, b2⟩ := (keysAt_row (own_under HBRW.out hz)).2 t m'.k (by rw [List.getElem?_map, HT.out]; rfl)
                          cases e1
                          have HZ := Lib.hid hz
                          clear hz hbz
                          obtain ⟨lk, hlk⟩ : ∃ lk, lessK m'.k u = lk := ⟨_, rfl⟩
                          rw [hlk]
                          have htest : (m'.k.id == u.id) = false ∨ ((m'.k.id == u.id) = true ∧ lk = false) := by
                            by_cases hid : m'.k.id = u.id
                            · exact .inr ⟨by simpa using hid, by rw [← hlk]; exact (HHE7.out u HMEM.out).out HV77.out.ok (List.mem_of_getElem? HT.out) hid⟩
                            · exact .inl (by simpa using hid)
                          clear hlk
                          rcases htest with hb | ⟨hb, rfl⟩
                          all_goals
                            go_upto_region 44 with (fail)
                            go_quiet (fail)
                            go_wp2
                            go_roundw
                            case rel => exact ⟨t + 1, by omega, by go_num, below_dr HZ.out⟩
                            case measure => simp [intOf]; omega
                        · have HBX' := Lib.hid hbx
                          clear hbx
                          go_wp2
                          go_roundw
                          case rel => exact ⟨j + 1, by omega, by go_num, HBX'.out⟩
                          case measure => simp [intOf]; omega
                    · have hA9 := (HBX.out.block _ (heap_lt HAW.out)).trans HAW.out
                      have sf := unfrozen hA9
                      have HA9 := Lib.hid hA9
                      have hi6 := HI6.out
                      clear hA9
                      go_wp2
                      go_roundw
                      case rel =>
                        refine ⟨i + 1, by omega, by omega, by go_num, ?_⟩
                        refine ten_set (R := fun V => BdRel w q.g w2.heap.size (i + 1) 1 V) HA9.out _ _ _ _ _ _ _ _ _ _ (fun V hV hC => ?_)
                        refine ⟨⟨⟨q1.g, a7, x7⟩, vb, vbc, (HQW.out.below HBX.out).other hC HA9.out (by decide) (by decide), HG1.out, HV77.out.mono (by omega), by unfold stCells; rw [HDR7.out]; exact hV, ?_⟩, hlo, ?_⟩
                        · refine own_below (own_chg (own_under HBRW.out HBX.out) hC (fun g o' hg e => ?_)) (by omega)
                          subst e
                          obtain ⟨_, cur, hgc⟩ := ownsRow_blk (own_under HBRW.out HBX.out) hg
                          have := HA9.out
                          rw [hgc] at this
                          simp only [Option.some.injEq, Obj.cells.injEq] at this
                          exact absurd this.2.1 (by decide)
                        · exact (HBB.out.trans (HBX.out.mono (by omega))).trans (hC.below (by omega) (fun k _ e => by omega))
                      case measure => simp [intOf]; omega
      · unfold stCells at hA1
        have sc := cells_at hA1
        have hl2 := hv1.len
        have HBE := Lib.hid hbw
        clear hq1 hg1 hv1 hA1 hrow1 hbw
        go_wp2
        go_ret
        exact ⟨by simp; omega, HBE.out⟩
    · unfold stCells at hA1
      have sc := cells_at hA1
      have hl2 := hv1.len
      have HBE := Lib.hid hbw
      clear hq1 hg1 hv1 hA1 hrow1 hbw
      go_wp2
      go_ret
      exact ⟨by simp; omega, HBE.out⟩
end Go.Proofs.YtfngdplkcppabaaGreat
