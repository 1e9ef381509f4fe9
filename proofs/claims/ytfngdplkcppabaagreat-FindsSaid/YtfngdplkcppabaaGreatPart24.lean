/-
  node.Tick.
  gossipkeep.Finds. THE WALK.
-/
import Derived.Test.YtfngdplkcppabaaGreatPart22
import Derived.Test.YtfngdplkcppabaaGreatPart23
import Derived.Test.YtfngdplkcppabaaGreatPart21
set_option linter.all false
namespace Go.Proofs.YtfngdplkcppabaaGreat
open Go.RowKit
open Go.Maps (Keyed)

theorem keyed_int : Keyed Tryz.prog 3 := Maps.int_keyed Tryz.underlying3
/-- The clock goes on. -/
theorem turned_clock {w : World} {a : Ad} {ov : Value} {x : Nd} (h : NodeAt w a ov x) (v : Int) : Turned ov w a x (w.setCell ⟨a.b, 13, none⟩ (.int .i64 v)) a { x with clock := v } := by
  refine ⟨?_, (Chg.refl _ _).setCell _ (fun _ _ => .inl rfl), fun _ => .inl, rfl⟩
  refine h.setNode (apart_of_chg ((Chg.refl _ _).setCell _ (fun _ _ => rfl))) ?_ ⟨rfl, rfl, rfl, rfl, rfl, rfl, rfl, rfl, rfl⟩
  exact (h.blk.set (i := 13) (by omega) (.int .i64 v)).congr (by (intro i hi; rcases i with _ | _ | _ | _ | _ | _ | _ | _ | _ | _ | _ | _ | _ | _ | _ | _ | _ | _ | _ | _ | _ | _ | _ | _ | _ | _ | _ | i <;> first | rfl | exact absurd hi (by omega)))
set_option maxRecDepth 100000 in
set_option maxHeartbeats 8000000 in
theorem tick_any {x : Nd} (ho : Ok x) {C : Int} (hbd : Bd C x) (hC : C ≤ 3999990000) (hdl : x.ds.length ≤ 1000000) (a : Ad) (ov : Value) (w : World) (h : NodeAt w a ov x) :
    Calls Tryz.prog 15 #[.pointer (some ⟨a.b, 0, none⟩)] w fun e w' => ∃ v, e = .returned v ∧ Gives w a x x.tick v w' := by
  have hcl := hbd.clock
  have wc : IntKind.i64.wrap (x.clock + 1) = x.clock + 1 := IntWalk.i64_in _ (by omega)
  obtain ⟨w1, hw1⟩ : ∃ w1, w.alloc (.cells #[.pointer (some ⟨a.b, 0, none⟩)] 38) = w1 := ⟨_, rfl⟩
  have hx1 : w1.heap[w.heap.size]? = some (.cells #[.pointer (some ⟨a.b, 0, none⟩)] 38 (0, 0)) := by rw [← hw1]; exact heap_alloc_eq w _
  have hs1 : w1.heap.size = w.heap.size + 1 := by rw [← hw1]; simp
  have hb1 : Below w.heap.size w w1 := by rw [← hw1]; exact (Below.refl _ _).alloc (Nat.le_refl _) _
  have hN1 := h.below hb1
  have T1 := turned_nil hN1
  have T2 := turned_clock T1.node (x.clock + 1)
  obtain ⟨w2, hw2⟩ : ∃ w2, (w1.setCell ⟨a.b, 20, none⟩ (.slice none 0 0)).setCell ⟨a.b, 13, none⟩ (.int .i64 (x.clock + 1)) = w2 := ⟨_, rfl⟩
  rw [hw2] at T2
  obtain ⟨y, hy⟩ : ∃ y : Nd, { x with clock := x.clock + 1 } = y := ⟨_, rfl⟩
  rw [hy] at T2
  have hyr : y.relays = x.relays := by rw [← hy]
  obtain ⟨D, hown, hD⟩ := T2.node.relays
  have hx2 : w2.heap[w.heap.size]? = some (.cells #[.pointer (some ⟨a.b, 0, none⟩)] 38 (0, 0)) := T2.chg.kept _ _ (T1.chg.kept _ _ hx1 (fun ho' => by have := h.owns_lt ho'; omega)) (fun ho' => by have := h.owns_lt ho'; omega)
  have bx := cells_at hx1 0
  simp only [List.getElem?_toArray, List.getElem?_cons_zero] at bx
  have c20 : w1.cell? ⟨a.b, 20, none⟩ = some ov := hN1.blk.cell (by omega)
  have f20 := hN1.blk.free 20
  have c13 : w1.cell? ⟨a.b, 13, none⟩ = some (.int .i64 x.clock) := hN1.blk.cell (by omega)
  have c17 : w1.cell? ⟨a.b, 17, none⟩ = some (.map (some a.br)) := hN1.blk.cell (by omega)
  have H := Lib.hid h
  have HO := Lib.hid ho
  have HBD := Lib.hid hbd
  have HDL := Lib.hid hdl
  have HT1 := Lib.hid T1
  have HT2 := Lib.hid T2
  have HX1 := Lib.hid hx1
  have HW1 := Lib.hid hw1
  have HW2 := Lib.hid hw2
  have HY := Lib.hid hy
  have HD := Lib.hid hD
  have HOWN := Lib.hid hown
  have HX2 := Lib.hid hx2
  have HYR := Lib.hid hyr
  have HB1 := Lib.hid hb1
  have f13 := hN1.blk.free 13
  have hnb : w.heap.size ≠ a.b := by have := h.blk.lt; omega
  have hbn : a.b ≠ w.heap.size := fun e => hnb e.symm
  rw [← hw1] at bx c20 f20 c13 c17 f13
  clear h ho hbd hdl T1 T2 hx1 hw1 hb1 hN1 hw2 hy hD hown hx2 hyr
  go_enter Tryz.func15, Tryz.ntmps15
  go_wp2_with (first
    | (at_range; rw [HW1.out, HW2.out]; refine wpList_range_own w2 rfl _ 75 rfl 3 91 keyed_int Tryz.underlying75 RV a.br (rPairs y.relays).length D rfl HOWN.out ?_; intro w3 hrg hg3 hs3)
    | go_in)
  go_frame
  have HRG := Lib.hid hrg
  have HG3 := Lib.hid hg3
  clear hrg hg3
  go_loopw [3] (fun _ wr => ∃ (D' : DataW Value) (left : Lit → Bool) (cnt : Nat), wr.ranges Tryz.prog 3 RV a.br w2.heap.size (rPairs y.relays).length D' left cnt ∧ MapIs D' (rPairs (relF (x.clock + 1) left x.relays)) ∧ w2.grownBy wr (some a.br))
    (fun _ wr => wr.rangeLeft a.br w2.heap.size)
  case atStart =>
    refine ⟨D, _, _, HRG.out, ?_, HG3.out.but _⟩
    rw [relF_start (fun r hr => (HD.out.has r.seq).2 (List.mem_map.2 ⟨(r.seq, r.v), List.mem_map.2 ⟨r, by rw [HYR.out]; exact hr, rfl⟩, rfl⟩))]
    have := HD.out
    rw [HYR.out] at this; exact this
  case round =>
    obtain ⟨D', left, cnt, hrg, hD', hgr⟩ := hrel
    have HRGR := Lib.hid hrg
    have HDR := Lib.hid hD'
    have HGR := Lib.hid hgr
    clear hrg hD' hgr
    go_wp2_with (first
      | (at_next; refine wpList_next_ranges _ rfl _ rfl 3 keyed_int RV (Value.int .i64) (fun v : Value => v) (fun key kl hkey => by obtain ⟨z, e, _⟩ := Maps.keyOf_int_inv Tryz.underlying3 hkey; exact ⟨z, e⟩) (fun v y _ => ⟨v, rfl⟩) a.br w2.heap.size (rPairs y.relays).length _ _ _ rfl HRGR.out ?_ ?_)
      | go_in)
    · intro _ hl0
      have hy := HY.out
      subst hy
      have hMap : MapAt Tryz.prog 3 wr a.br (rPairs (x.relays.filter (fun r => decide (x.clock + 1 < r.ends)))) := MapAt.of HRGR.out.owns (by have := HDR.out; rw [relF_end hl0] at this; exact this)
      have hch : Chg (fun j _ => j = a.br) w2 wr := (Chg.refl _ w2).grown HGR.out (fun k o e _ => by cases e; rfl)
      have hT3 : Turned (.slice none 0 0) w2 a { x with clock := x.clock + 1 } wr a x.ticked := ⟨HT2.out.node.setRelays (apart_of_chg hch) hMap, hch.mono (fun j _ _ e => by have e : j = a.br := e; subst e; exact .inr (.inr (.inr (.inr (.inr (.inl rfl)))))), fun _ => .inl, rfl⟩
      have hS3 : St w.heap.size w a x wr a x.ticked (.slice none 0 0) [] := ((Turned.below H.out HB1.out).then (HT1.out.then (HT2.out.then hT3))).st (OutRow.nil _ _)
      have hbx3 : wr.heap[w.heap.size]? = some (.cells #[.pointer (some ⟨a.b, 0, none⟩)] 38 (0, 0)) := (HGR.out.block _ (heap_lt HX2.out) (fun e => by
        obtain ⟨es, n, hb⟩ := HT2.out.node.relays.isMap
        have hx := HX2.out
        simp only [Option.some.injEq] at e
        rw [e, hb] at hx; cases hx)).trans HX2.out
      obtain ⟨hok3, hbd3⟩ := ticked_all HO.out HBD.out
      have e10 : wr.cell? ⟨a.b, 10, none⟩ = some (.map (some a.bo)) := hS3.node.blk.cell (by omega)
      have ebx := cells_at hbx3 0
      simp only [List.getElem?_toArray, List.getElem?_cons_zero] at ebx
      have HS3 := Lib.hid hS3
      have HBX3 := Lib.hid hbx3
      have HOK3 := Lib.hid hok3
      have HBD3 := Lib.hid hbd3
      obtain ⟨L0, hL0⟩ : ∃ L0, x.ticked.due = L0 := ⟨_, rfl⟩
      have hl7 : L0.length ≤ 7 := by rw [← hL0]; exact Nat.le_trans (List.length_filter_le _ _) hok3.len
      have HL0 := Lib.hid hL0
      have hlt3 := heap_lt hbx3
      clear hMap hch hT3 hS3 hbx3 hok3 hbd3 hL0 hl0 bx c20 f20 c13 c17 f13 HRGR HDR HGR HRG HG3 HOWN HD HYR HY hs3
      go_wp2_with fail
      refine (sortedN_any HOK3.out a (.slice none 0 0) wr HS3.out.node (dueB (x.clock + 1)) 30 #[.pointer (some ⟨w.heap.size, 0, none⟩)] eg_tick1 (fun m hm W' hW => tick1_any (a.mem m.k.id) w.heap.size a.b m (x.clock + 1) W' ((HS3.out.node.below hW).mems m hm) (by rw [cells_at ((hW.block _ (heap_lt HBX3.out)).trans HBX3.out)]; rfl) ((HS3.out.node.below hW).blk.cell (i := 13) (by omega)))).mono ?_
      rintro e w27 ⟨v27, rfl, hP27, hb27⟩
      obtain ⟨pa, pc, rfl⟩ : ∃ pa pc, v27 = .slice pa L0.length pc := by obtain ⟨pa, pc, e⟩ := hP27.sl; exact ⟨pa, pc, by rw [e, ← HL0.out]; rfl⟩
      have hP' : Ptrs w27 (.slice pa L0.length pc) a.mem x.ticked.due := hP27
      rw [HL0.out] at hP'
      have HP27 := Lib.hid hP'
      clear hP'
      have HB27 := Lib.hid hb27
      have hsz27 := hb27.size
      clear hP27 hb27
      have hS27 : St w.heap.size w a x w27 a x.ticked (.slice none 0 0) [] := HS3.out.trans (St.turned HS3.out.node HS3.out.out (Turned.below HS3.out.node HB27.out))
      have hbx27 := (HB27.out.block _ hlt3).trans HBX3.out
      have HS27 := Lib.hid hS27
      have HBX27 := Lib.hid hbx27
      clear hS27 hbx27
      go_wp2
      clear e10 ebx
      go_loopw [46] (fun s46 wr => ∃ (j : Nat) (a1 : Ad), j ≤ L0.length ∧ s46 = .int .i64 (j : Nat) ∧ a1.mem = a.mem ∧ St w.heap.size w a x wr a1 (x.ticked.dies (L0.take j)) (.slice none 0 0) [] ∧
          wr.heap[w.heap.size]? = some (.cells #[.pointer (some ⟨a.b, 0, none⟩)] 38 (0, 0)) ∧ Ptrs wr (.slice pa L0.length pc) a.mem L0)
        (fun s46 _ => 10 - (intOf s46).toNat)
      case atStart => exact ⟨0, a, Nat.zero_le _, rfl, rfl, HS27.out, HBX27.out, HP27.out⟩
      case round =>
        obtain ⟨j, a1, hj, rfl, ham, hS, hbxj, hPj⟩ := hrel
        have hbj : a1.b = a.b := hS.b
        have HSJ := Lib.hid hS
        have HBXJ := Lib.hid hbxj
        have HPJ := Lib.hid hPj
        have HAM := Lib.hid ham
        have HBJ := Lib.hid hbj
        have hLin : ∀ m ∈ L0, m ∈ x.ticked.others := fun m hm => by rw [← HL0.out] at hm; exact (List.mem_filter.1 hm).1
        have hall := dies_all HOK3.out HBD3.out (L0.take j) (fun m hm => hLin m (List.mem_of_mem_take hm))
        obtain ⟨hokj, hbdj, hdsj, hkeepj⟩ := hall
        have hlt3' : w.heap.size < wr.heap.size := heap_lt hbxj
        by_cases hlt : j < L0.length
        · obtain ⟨m, hm⟩ : ∃ m, L0[j]? = some m := ⟨L0[j], List.getElem?_eq_getElem hlt⟩
          have hmL : m ∈ L0 := List.mem_of_getElem? hm
          have hrise : Rise (ids L0) := by
            have := HOK3.out.rise
            rw [← HL0.out]
            exact this.sublist (List.filter_sublist.map _)
          have hnot : m.k.id ∉ ids (L0.take j) := fun hin => by
            obtain ⟨q, hq, e⟩ := mem_ids.1 hin
            obtain ⟨i, hi⟩ := List.mem_iff_getElem?.1 hq
            rw [List.getElem?_take] at hi
            split at hi
            · rename_i hij
              have hr : (ids L0).Pairwise (· < ·) := hrise
              rw [List.pairwise_iff_getElem] at hr
              obtain ⟨hi1, hi2⟩ := List.getElem?_eq_some_iff.1 hi
              obtain ⟨hj1, hj2⟩ := List.getElem?_eq_some_iff.1 hm
              have := hr i j (by simp [ids]; omega) (by simp [ids]; omega) hij
              simp only [ids, List.getElem_map, hi2, hj2] at this
              omega
            · cases hi
          have hmin := hkeepj m (hLin m hmL) hnot
          obtain ⟨g, rfl, hgl, hgc⟩ := hPj.cell hm
          have hmb := hS.node.mems m hmin
          rw [ham] at hmb
          have k0 := cells_at hmb 0
          have k1 := cells_at hmb 1
          have bxj := cells_at hbxj 0
          simp only [memCells, List.getElem?_toArray, List.getElem?_cons_succ, List.getElem?_cons_zero] at k0 k1 bxj
          have hdue := hear_due hokj hbdj (by have := List.length_take_le j L0; omega) a1 (.slice none 0 0) m hmin wr.drew (HSJ.out.drew).node
          rw [hbj] at hdue
          have HDUE := Lib.hid hdue
          have HM := Lib.hid hm
          clear hdue hm hmL hrise hnot hmin hmb hS hbxj hPj ham hbj hokj hbdj hdsj hkeepj hLin
          go_upto_region 11 with (fail)
          (refine wp_tail 12 (by kernel_rfl) (by kernel_rfl) ?_; simp only [List.take_succ_cons, List.take_zero, List.drop_succ_cons, List.drop_zero])
          iterate 12 still_step
          refine wpStill_nil ?_
          go_wp2_with fail
          refine HDUE.out.mono ?_
          rintro e w5 ⟨rfl, a2, hT5, ham2⟩
          have hS5 := HSJ.out.drew.trans (St.turned HSJ.out.drew.node HSJ.out.drew.out hT5)
          have hbx5 : w5.heap[w.heap.size]? = some (.cells #[.pointer (some ⟨a.b, 0, none⟩)] 38 (0, 0)) := hT5.chg.kept _ _ HBXJ.out (HSJ.out.drew.node.notTy HBXJ.out (by decide))
          have hP5 : Ptrs w5 (.slice (some ⟨g, 0, none⟩) L0.length pc) a.mem L0 := by
            obtain ⟨B, hr⟩ := HPJ.out
            refine ⟨B, own_heap hr (fun b hb => ?_)⟩
            obtain ⟨_, c, hc⟩ := ownsRow_blk hr hb
            rw [hc]
            exact hT5.chg.kept b _ hc (HSJ.out.drew.node.notTy hc (by decide))
          have HS5 := Lib.hid hS5
          have HBX5 := Lib.hid hbx5
          have HP5 := Lib.hid hP5
          have HAM2 := Lib.hid (ham2.trans HAM.out)
          clear hT5 ham2 hS5 hbx5 hP5
          go_wp2
          go_roundw
          case rel =>
            refine ⟨j + 1, a2, by omega, by go_num, HAM2.out, ?_, HBX5.out, HP5.out⟩
            have e : L0.take (j + 1) = L0.take j ++ [m] := by
              have hm' := List.getElem?_eq_some_iff.1 HM.out
              rw [List.take_succ_eq_append_getElem hlt, hm'.2]
            rw [e, dies_snoc]
            exact HS5.out
          case measure => simp [intOf]; omega
        · have hjl : j = L0.length := by omega
          have hx : x.ticked.dies (L0.take j) = x.clocked := by rw [hjl, List.take_length, clocked_dies, HL0.out]
          rw [hx] at hS hokj hbdj hdsj
          obtain ⟨z, hz⟩ : ∃ z, x.clocked = z := ⟨_, rfl⟩
          rw [hz] at hS hokj hbdj hdsj
          have hbz : Bd (C + 8) z := hbdj.mono (by have := List.length_take_le j L0; omega)
          have hzd : z.ds = x.ds := hdsj
          have hwait := wait_any hokj hbz (by omega) (by rw [hzd]; exact HDL.out) a1 (.slice none 0 0) w.heap.size [] wr hS.node hS.out (by omega) (by simp)
          rw [hbj] at hwait
          have bxj := cells_at hbxj 0
          simp only [List.getElem?_toArray, List.getElem?_cons_zero] at bxj
          have hgw := good_waits hokj hbz (by omega)
          have hwd : z.waits.2.ds = x.ds := (waits_ds z).trans hzd
          have htk : x.tick = if z.waits.2.probe.isNone ∧ z.waits.2.self.st ≠ 4 then (z.waits.1 ++ z.waits.2.begins.1, z.waits.2.begins.2) else z.waits := by rw [← hz]; rfl
          have hwl : z.waits.1.length ≤ 3 := waits_len hokj
          obtain ⟨v, hv⟩ : ∃ v, z.waits = v := ⟨_, rfl⟩
          rw [hv] at hwait hgw hwd htk hwl
          have HWAIT := Lib.hid hwait
          have HGW := Lib.hid hgw
          have HWD := Lib.hid hwd
          have HTK := Lib.hid htk
          have HSZ := Lib.hid hS
          clear hwait hgw hwd htk hv hz hzd hbz hS hokj hbdj hdsj hx hkeepj hLin hbxj hPj ham hbj
          go_wp2_with fail
          refine HWAIT.out.mono ?_
          rintro e w6 ⟨rfl, a6, ov6, hS6⟩
          have hbx6 : w6.heap[w.heap.size]? = some (.cells #[.pointer (some ⟨a.b, 0, none⟩)] 38 (0, 0)) := hS6.chg.kept _ _ HBXJ.out (fun e => by
            rcases e with e | ⟨_, c, f, e⟩
            · exact HSZ.out.node.notTy HBXJ.out (by decide) e
            · simp only [Obj.cells.injEq] at e; exact absurd e.2.1 (by decide))
          have hS6' : St w.heap.size w a x w6 a6 v.2 ov6 v.1 := HSZ.out.trans hS6
          have hb6 : a6.b = a.b := hS6'.b
          have c16 : w6.cell? ⟨a.b, 16, none⟩ = some (prbV a6 v.2.probe) := by rw [← hb6]; exact hS6'.node.blk.cell (by omega)
          have c9 : w6.cell? ⟨a.b, 9, none⟩ = some (.int .i64 v.2.self.st) := by rw [← hb6]; exact hS6'.node.blk.cell (by omega)
          have c20 : w6.cell? ⟨a.b, 20, none⟩ = some ov6 := by rw [← hb6]; exact hS6'.node.blk.cell (by omega)
          have bx6 := cells_at hbx6 0
          simp only [List.getElem?_toArray, List.getElem?_cons_zero] at bx6
          have HS6 := Lib.hid hS6'
          have HBX6 := Lib.hid hbx6
          have HB6 := Lib.hid hb6
          have hlt6 := heap_lt hbx6
          clear hS6 hS6' hbx6 hb6 bxj
          rcases Option.eq_none_or_eq_some v.2.probe with hp | ⟨p, hp⟩
          · rw [hp] at c16
            unfold prbV at c16
            by_cases hst : v.2.self.st = 4
            · have hE : x.tick = (v.1, v.2) := by rw [HTK.out, if_neg (fun e => e.2 hst)]
              have hstb : (v.2.self.st == 4) = true := by simpa using hst
              have HE := Lib.hid hE
              clear hE hp hst
              go_wp2
              go_ret
              rw [HE.out]
              exact ⟨_, rfl, Gives.of HS6.out⟩
            · have hE : x.tick = (v.1 ++ v.2.begins.1, v.2.begins.2) := by rw [HTK.out, if_pos ⟨by rw [hp]; rfl, hst⟩]
              have hstb : (v.2.self.st == 4) = false := by simpa using hst
              have HE := Lib.hid hE
              have hbeg := begin_any HGW.out.ok HGW.out.bd (by omega) (by rw [HWD.out]; exact HDL.out) a6 ov6 w.heap.size v.1 w6 HS6.out.node HS6.out.out (by omega) (by omega)
              rw [HB6.out] at hbeg
              have HBEG := Lib.hid hbeg
              clear hE hp hst hbeg
              go_wp2_with fail
              refine HBEG.out.mono ?_
              rintro e w7 ⟨rfl, a7, ov7, hS7⟩
              have hbx7 : w7.heap[w.heap.size]? = some (.cells #[.pointer (some ⟨a.b, 0, none⟩)] 38 (0, 0)) := hS7.chg.kept _ _ HBX6.out (fun e => by
                rcases e with e | ⟨_, c, f, e⟩
                · exact HS6.out.node.notTy HBX6.out (by decide) e
                · simp only [Obj.cells.injEq] at e; exact absurd e.2.1 (by decide))
              have hS7' := HS6.out.trans hS7
              have c27 : w7.cell? ⟨a.b, 20, none⟩ = some ov7 := by have := hS7'.b; rw [← this]; exact hS7'.node.blk.cell (by omega)
              have bx7 := cells_at hbx7 0
              simp only [List.getElem?_toArray, List.getElem?_cons_zero] at bx7
              have HS7 := Lib.hid hS7'
              clear hS7 hS7' hbx7 bx6 c16 c9 c20
              go_wp2
              go_ret
              rw [HE.out]
              exact ⟨_, rfl, Gives.of HS7.out⟩
          · have hE : x.tick = (v.1, v.2) := by rw [HTK.out, if_neg (fun e => by rw [hp] at e; simp at e)]
            rw [hp] at c16
            unfold prbV at c16
            have HE := Lib.hid hE
            clear hE hp
            go_wp2
            go_ret
            rw [HE.out]
            exact ⟨_, rfl, Gives.of HS6.out⟩
    · intro k c kl yy pl w4 cnt1 hkx hlx hR hat hrg1 hlt hg4 hs4 hen
      obtain ⟨k', ek, rfl, hwf⟩ := Maps.keyOf_int_inv Tryz.underlying3 hkx
      cases ek
      have hyy : yy = .held c := by
        have h1 : (some (yy, pl) : Option (DataW Value × List MemPlace)) = some (.held c, []) := hR.symm
        simp only [Option.some.injEq, Prod.mk.injEq] at h1
        exact h1.1
      subst hyy
      obtain ⟨q, hq, rfl, rfl⟩ := rel_of HDR.out hat
      have hqx : q ∈ x.relays := (List.mem_filter.1 hq).1
      have hgw4 : w2.grownBy w4 (some a.br) := HGR.out.andThen hg4 (fun j hj => by cases hj; exact Or.inl (Nat.le_refl _))
      have hbrb : (some a.br : Option Nat) ≠ some a.b := fun e => by
        obtain ⟨es, n, hb⟩ := HT2.out.node.relays.isMap
        obtain ⟨cs, h0⟩ := HT2.out.node.blk.block
        simp only [Option.some.injEq] at e
        rw [e, h0] at hb; cases hb
      have hbl4 := HT2.out.node.blk.grown hgw4 hbrb
      have hbx4 : w4.heap[w.heap.size]? = some (.cells #[.pointer (some ⟨a.b, 0, none⟩)] 38 (0, 0)) := (hgw4.block _ (heap_lt HX2.out) (fun e => by
        have hrl := HT2.out.node.relays.lt
        obtain ⟨es, n, hb⟩ := HT2.out.node.relays.isMap
        have hx := HX2.out
        simp only [Option.some.injEq] at e
        rw [e, hb] at hx; cases hx)).trans HX2.out
      have e13 : w4.cell? ⟨a.b, 13, none⟩ = some (.int .i64 (x.clock + 1)) := by rw [hbl4.cell (by omega)]; show some (Value.int .i64 y.clock) = _; rw [← HY.out]
      have e17 : w4.cell? ⟨a.b, 17, none⟩ = some (.map (some a.br)) := hbl4.cell (by omega)
      have ebx := cells_at hbx4 0
      simp only [List.getElem?_toArray, List.getElem?_cons_zero] at ebx
      have HBL4 := Lib.hid hbl4
      have HBX4 := Lib.hid hbx4
      have HGW4 := Lib.hid hgw4
      have hrg1r := hrg1
      have HRG1 := Lib.hid hrg1
      have HQ := Lib.hid hq
      have HQX := Lib.hid hqx
      have HWF := Lib.hid hwf
      have hsz24 := hgw4.size
      clear hbl4 hbx4 hgw4 hrg1 hq hqx hat hR hlx hkx hg4 hbrb bx c20 f20 c13 c17 f13
      have HS4N := Lib.hid hs4
      have hsz2 : w2.heap.size < w4.heap.size := hrg1r.lt
      have hab4 : a.b < w4.heap.size := by have := HT2.out.node.blk.lt; omega
      have hwx4 : w.heap.size < w4.heap.size := by have := heap_lt HX2.out; omega
      unfold Rel.v at hen ⊢
      clear hs4 hs3
      have finish : Hid (∀ W : World, w4.grownBy W none → w2.grownBy W (some a.br) ∧ W.ranges Tryz.prog 3 RV a.br w2.heap.size (rPairs y.relays).length D' (fun z => left z && !z.sameKey (.int .i64 q.seq)) cnt1) := Lib.hid (fun W hW => ⟨HGW4.out.andThen hW (fun j hj => by cases hj), HRG1.out.kept hW (by simp) (by simp)⟩)
      by_cases hends : q.ends ≤ x.clock + 1
      · have hendb : decide (q.ends ≤ x.clock + 1) = true := by simpa using hends
        have HEN := Lib.hid hends
        clear hends
        go_wp2
        obtain ⟨w5, hw5⟩ : ∃ w5, w4.alloc (.cells #[.int .i64 q.tgt, .int .i64 q.orig, .int .i64 q.oseq, .int .i64 q.ends] 91) = w5 := ⟨_, rfl⟩
        rw [hw5]
        have hg5 : w4.grownBy w5 none := by rw [← hw5]; exact World.grownBy_alloc w4 _ none
        have hx5 : w5.heap[w4.heap.size]? = some (.cells #[.int .i64 q.tgt, .int .i64 q.orig, .int .i64 q.oseq, .int .i64 q.ends] 91 (0, 0)) := by rw [← hw5]; exact heap_alloc_eq w4 _
        have k3 := cells_at hx5 3
        simp only [List.getElem?_toArray, List.getElem?_cons_succ, List.getElem?_cons_zero] at k3
        have f13 : w5.cell? ⟨a.b, 13, none⟩ = some (.int .i64 (x.clock + 1)) := by rw [← hw5, World.cell?_alloc_lt _ _ _ hab4]; exact e13
        have f17 : w5.cell? ⟨a.b, 17, none⟩ = some (.map (some a.br)) := by rw [← hw5, World.cell?_alloc_lt _ _ _ hab4]; exact e17
        have fbx : w5.cell? ⟨w.heap.size, 0, none⟩ = some (.pointer (some ⟨a.b, 0, none⟩)) := by rw [← hw5, World.cell?_alloc_lt _ _ _ hwx4]; exact ebx
        have HG5 := Lib.hid hg5
        clear hw5 hg5 hx5
        go_quiet (fail)
        have hfin := finish.out (w5.drewN nq) ⟨HG5.out.os, HG5.out.tape, HG5.out.output, HG5.out.size, HG5.out.block⟩
        have HFIN := Lib.hid hfin
        clear hfin
        go_wp2_with (first
          | (at_delete; refine wpList_delete_ranges _ rfl _ _ 75 3 rfl 91 keyed_int Tryz.underlying75 RV a.br w2.heap.size (rPairs y.relays).length _ _ _ rfl HFIN.out.2 _ _ rfl (Maps.keyOf_int_mk Tryz.underlying3 HWF.out) ?_; intro w6 cnt2 hrg2 hle hturn; go_frame)
          | go_in)
        rw [Maps.strike_twice] at hrg2
        go_roundw
        case rel =>
          refine ⟨_, _, cnt2, hrg2, ?_, HFIN.out.1.andThen hturn.grown (fun j hj => by cases hj; exact Or.inr rfl)⟩
          have h1 := HDR.out.del q.seq
          rw [rPairs_del, relF_struck HO.out.rnd HQX.out HEN.out] at h1
          exact h1
        case measure => rw [hrg2.left_eq, HRGR.out.left_eq]; omega
      · have hendb : decide (q.ends ≤ x.clock + 1) = false := by simpa using hends
        have HEN := Lib.hid hends
        clear hends
        go_wp2
        obtain ⟨w5, hw5⟩ : ∃ w5, w4.alloc (.cells #[.int .i64 q.tgt, .int .i64 q.orig, .int .i64 q.oseq, .int .i64 q.ends] 91) = w5 := ⟨_, rfl⟩
        rw [hw5]
        have hg5 : w4.grownBy w5 none := by rw [← hw5]; exact World.grownBy_alloc w4 _ none
        have hx5 : w5.heap[w4.heap.size]? = some (.cells #[.int .i64 q.tgt, .int .i64 q.orig, .int .i64 q.oseq, .int .i64 q.ends] 91 (0, 0)) := by rw [← hw5]; exact heap_alloc_eq w4 _
        have k3 := cells_at hx5 3
        simp only [List.getElem?_toArray, List.getElem?_cons_succ, List.getElem?_cons_zero] at k3
        have f13 : w5.cell? ⟨a.b, 13, none⟩ = some (.int .i64 (x.clock + 1)) := by rw [← hw5, World.cell?_alloc_lt _ _ _ hab4]; exact e13
        have fbx : w5.cell? ⟨w.heap.size, 0, none⟩ = some (.pointer (some ⟨a.b, 0, none⟩)) := by rw [← hw5, World.cell?_alloc_lt _ _ _ hwx4]; exact ebx
        have HG5 := Lib.hid hg5
        clear hw5 hg5 hx5
        go_quiet (fail)
        have hfin := finish.out (w5.drewN nq) ⟨HG5.out.os, HG5.out.tape, HG5.out.output, HG5.out.size, HG5.out.block⟩
        have HFIN := Lib.hid hfin
        clear hfin
        go_wp2
        go_roundw
        case rel =>
          refine ⟨D', _, cnt1, HFIN.out.2, ?_, HFIN.out.1⟩
          rw [← relF_stays HO.out.rnd HQX.out (by have := HEN.out; omega)]
          exact HDR.out
        case measure => rw [HFIN.out.2.left_eq, HRGR.out.left_eq]; exact hlt
end Go.Proofs.YtfngdplkcppabaaGreat
namespace Go.Proofs.YtfngdplkcppabaaGreat
open Go.RowKit

/-- The nodes, while the first one ticks and tells. -/
structure FindS (k : Nat) (g P S D C clk : Int) (ps : List Pk) (xs : List Nd) : Prop where
  len : xs.length = k
  first : ∃ x, xs[0]? = some x ∧ Sends g k P S D ps x ∧ x.clock = clk ∧ Bd C x ∧ x.ds.length ≤ 50
  oth : ∀ (a : Nat) x, xs[a]? = some x → 1 ≤ a → ((a : Int) + 1 ≠ g → Calm g k (a + 1) x) ∧ Bd C x
theorem FindS.mono {k : Nat} {g P S D C C' clk : Int} {ps : List Pk} {xs : List Nd} (h : FindS k g P S D C clk ps xs) (hC : C ≤ C') : FindS k g P S D C' clk ps xs := by
  obtain ⟨x, h1, h2, h3, h4, h5⟩ := h.first
  exact ⟨h.len, ⟨x, h1, h2, h3, h4.mono hC, h5⟩, fun a x hx ha => ⟨(h.oth a x hx ha).1, (h.oth a x hx ha).2.mono hC⟩⟩
theorem sends_ok {g n P S D : Int} {ps : List Pk} {x : Nd} (h : Sends g n P S D ps x) : Ok x := by
  rcases h with ⟨h, _⟩ | ⟨t, m, _, h, _⟩ <;> exact h.calm.ok
/-- Packets stay where they lie. -/
theorem OutRow.turned {w w' : World} {a a' : Ad} {x x' : Nd} {ov v v' : Value} {B : Nat} {ps : List Pk} (ho : OutRow w B v ps) (h0 : NodeAt w a ov x) (h : Turned v' w a x w' a' x') : OutRow w' B v ps :=
  own_chg ho h.chg (fun g o hg hk => by
    obtain ⟨_, c, hc⟩ := ownsRow_blk ho hg
    exact h0.notPk hc hk)
theorem OutRow.sl {w : World} {B : Nat} {v : Value} {ps : List Pk} (h : OutRow w B v ps) : ∃ a c, v = .slice a ps.length c := ownsRow_sl h
theorem flat_two (ps : List Pk) : ∀ (i : Nat) (p : Pk), ps[i]? = some p → ∀ j, j < 2 → (ps.flatMap pkCells)[i * 2 + j]? = (pkCells p)[j]? := by
  induction ps with
  | nil => intro i p h; simp at h
  | cons q r ih =>
    intro i p h j hj
    have hl : (pkCells q).length = 2 := rfl
    rw [List.flatMap_cons]
    cases i with
    | zero =>
      simp only [List.getElem?_cons_zero, Option.some.injEq] at h
      subst h
      rw [List.getElem?_append_left (by omega), Nat.zero_mul, Nat.zero_add]
    | succ i =>
      rw [List.getElem?_append_right (by omega), hl, show (i + 1) * 2 + j - 2 = i * 2 + j by omega]
      exact ih i p (by simpa using h) j hj
theorem OutRow.at_ {w : World} {B n c : Nat} {a : Option Addr} {ps : List Pk} (h : OutRow w B (.slice a n c) ps) {i : Nat} {p : Pk} (hi : ps[i]? = some p) :
    ∃ g, a = some ⟨g, 0, none⟩ ∧ w.cell? ⟨g, i * 2, none⟩ = some (.int .i64 p.1) ∧ w.cell? ⟨g, i * 2 + 1, none⟩ = some (.string (strOfNums (msgBytes p.2))) := by
  have hil := (List.getElem?_eq_some_iff.1 hi).1
  rcases h.2 with ⟨e, e'⟩ | ⟨g, cap, cur, e, hB, hg, h1, h2, h3, h4⟩
  · omega
  · simp only [Value.slice.injEq] at e
    obtain ⟨rfl, _, rfl⟩ := e
    have hget : ∀ (j : Nat) v, j < 2 → (pkCells p)[j]? = some v → cur[i * 2 + j]? = some v := fun j v hj hv => by
      have : (cur.toList.take (ps.length * 2))[i * 2 + j]? = some v := by
        rw [h4]
        exact (flat_two ps i p hi j hj).trans hv
      rw [List.getElem?_take, if_pos (by omega), Array.getElem?_toList] at this
      exact this
    exact ⟨g, rfl, by rw [cells_at hg]; exact hget 0 _ (by omega) rfl, by rw [cells_at hg]; exact hget 1 _ (by omega) rfl⟩
/-- While what came back is heard. -/
structure FindB (k : Nat) (g P S D C clk : Int) (x : Nd) (back : List Pk) (m : Nat) (ps : List Pk) (xs : List Nd) : Prop where
  len : xs.length = k
  first : xs[0]? = some (feed x (back.take m))
  ok : Ok (feed x (back.take m))
  bd : Bd C (feed x (back.take m))
  ds : (feed x (back.take m)).ds.length ≤ 50
  oth : ∀ (a : Nat) x, xs[a]? = some x → 1 ≤ a → ((a : Int) + 1 ≠ g → Calm g k (a + 1) x) ∧ Bd C x
  sends : Sends g k P S D ps (feed x back)
  clock : (feed x back).clock = clk
  whole : ∀ b ∈ back, wholeB b.2 = true
  one : back.length ≤ 1
theorem receive_ds (x : Nd) (o : Option M) : (x.receive o).2.ds = x.ds := by
  have hp : ∀ (x : Nd) m, (x.pinged m).2.ds = x.ds := fun x m => by
    unfold Nd.pinged; split
    · exact (sameQ_sent x _).ds
    · rfl
  unfold Nd.receive
  cases o with
  | none => rfl
  | some m =>
    simp only
    split
    · rfl
    · rw [← (same_heardAll x m).ds]
      generalize x.heardAll m = y
      unfold Nd.answer
      split
      · exact hp y m
      · split
        · unfold Nd.acked
          simp only
          split
          · rfl
          · exact (sameQ_sent _ _).ds
        · split
          · unfold Nd.asked
            split
            · exact hp y m
            · split
              · rfl
              · exact (sameQ_sent _ _).ds
          · split <;> rfl
theorem tick_ds {x : Nd} (h : Ok x) {B : Int} (hb : Bd B x) : x.tick.2.ds = x.ds := by
  obtain ⟨h1, h2⟩ := ticked_all h hb
  have h3 := (dies_all h1 h2 x.ticked.due (fun m hm => (List.mem_filter.1 hm).1)).2.2.1
  rw [← clocked_dies] at h3
  have hbg : ∀ y : Nd, y.begins.2.ds = y.ds := fun y => by
    have hn : y.newPass.ds = y.ds := by
      unfold Nd.newPass
      split
      · simp only
        have hm : ∀ (i : Nat) (l : List Int) (z : Nd), (Nd.mix i l z).2.ds = z.ds := by
          intro i
          induction i with
          | zero => intro l z; rfl
          | succ i ih =>
            intro l z
            unfold Nd.mix
            obtain ⟨k, e⟩ := draw_eq z ((i : Int) + 2)
            rw [ih, e]
        exact hm _ _ _
      · rfl
    unfold Nd.begins
    simp only
    split
    · exact hn
    · exact (sameQ_sent _ _).ds.trans hn
  unfold Nd.tick
  simp only
  split
  · rw [hbg, waits_ds, h3]; rfl
  · rw [waits_ds, h3]; rfl
section
variable {k : Nat} {g P S D C clk : Int} {ps : List Pk} {xs : List Nd}
theorem FindS.tick (h : FindS k g P S D C clk [] xs) (hC : C ≤ 3999990000) (hD : D = 1 + P * ((k : Int) - 1)) {x : Nd} (hx : xs[0]? = some x) :
    Ok x ∧ Bd C x ∧ x.ds.length ≤ 50 ∧ x.tick.1.length ≤ 4 ∧ FindS k g P S D (C + 20) (clk + 1) x.tick.1 (xs.set 0 x.tick.2) := by
  obtain ⟨x', h1, h2, h3, h4, h5⟩ := h.first
  obtain rfl := Option.some.inj (hx.symm.trans h1)
  obtain ⟨hf, hp⟩ := sends_done h2
  have hok := hf.calm.ok
  obtain ⟨t1, t2, t3, t4⟩ := tick_find hf hp (by have := h4.seq; omega) hD
  have hl : 0 < xs.length := (List.getElem?_eq_some_iff.1 hx).1
  refine ⟨hok, h4, h5, tick_len hok, by simp [h.len], ⟨x.tick.2, by rw [List.getElem?_set_self hl], t1, by omega, (good_tick hok h4 (by omega)).bd, by rw [tick_ds hok h4]; exact h5⟩, fun a y hy ha => ?_⟩
  rw [List.getElem?_set_ne (by omega)] at hy
  exact ⟨(h.oth a y hy ha).1, (h.oth a y hy ha).2.mono (by omega)⟩
theorem FindS.skip {q : Pk} (h : FindS k g P S D C clk (q :: ps) xs) (hq : q.1 = g ∨ q.1 < 1 ∨ (k : Int) < q.1) : FindS k g P S D C clk ps xs := by
  obtain ⟨x, h1, h2, h3⟩ := h.first
  exact ⟨h.len, ⟨x, h1, sends_skip h2 hq, h3⟩, h.oth⟩
theorem FindS.go {q : Pk} (h : FindS k g P S D C clk (q :: ps) xs) (hC : C ≤ 3999990000) (hg : q.1 ≠ g) (hr : 1 ≤ q.1 ∧ q.1 ≤ k) :
    ∃ (j : Nat) (x y : Nd), (j : Int) + 1 = q.1 ∧ 1 ≤ j ∧ j < k ∧ xs[0]? = some x ∧ xs[j]? = some y ∧ Ok y ∧ Bd C y ∧ wholeB q.2 = true ∧
      FindB k g P S D (C + 10) clk x (y.receive (some q.2)).1 0 ps (xs.set j (y.receive (some q.2)).2) := by
  obtain ⟨x, h1, h2, h3, h4, h5⟩ := h.first
  have hjl : (q.1 - 1).toNat < xs.length := by rw [h.len]; omega
  obtain ⟨y, hy⟩ : ∃ y, xs[(q.1 - 1).toNat]? = some y := ⟨_, List.getElem?_eq_getElem hjl⟩
  have hje : (((q.1 - 1).toNat : Nat) : Int) + 1 = q.1 := by omega
  have hne1 : q.1 ≠ 1 := by
    rcases h2 with ⟨_, _, h⟩ | ⟨t, m, e, _, _, _, _, _, _, h8, _⟩
    · rcases h q (by simp) with e | ⟨_, _, _, _, e⟩
      · exact absurd e hg
      · exact e
    · simp only [List.cons.injEq] at e
      obtain ⟨rfl, _⟩ := e
      exact h8
  obtain ⟨hca, hby⟩ := h.oth _ y hy (by omega)
  have hcalm := hca (by rw [hje]; exact hg)
  rw [hje] at hcalm
  obtain ⟨s1, s2, s3, s4, s5, s6⟩ := sends_go h2 hg hr hcalm (by have := hby.seq; omega)
  have hgr := good_receive hcalm.ok hby (by omega) (some q.2) (fun m hm => by cases hm; exact mok_of s2)
  refine ⟨_, x, y, hje, by omega, by omega, h1, hy, hcalm.ok, hby, s2, ?_⟩
  refine { len := by simp [h.len], first := by rw [List.getElem?_set_ne (by omega)]; exact h1, ok := sends_ok h2, bd := h4.mono (by omega), ds := h5, oth := fun a z hz ha => ?_, sends := s5, clock := s6.trans h3, whole := s4, one := receive_len _ _ }
  by_cases e : (q.1 - 1).toNat = a
  · subst e
    rw [List.getElem?_set_self hjl] at hz
    cases hz
    exact ⟨fun _ => by rw [hje]; exact s3, hgr.bd⟩
  · rw [List.getElem?_set_ne e] at hz
    exact ⟨(h.oth a z hz ha).1, (h.oth a z hz ha).2.mono (by omega)⟩
variable {x : Nd} {back : List Pk} {m : Nat}
theorem FindB.pass (h : FindB k g P S D C clk x back m ps xs) {b : Pk} (hb : back[m]? = some b) (h1 : b.1 ≠ 1) : FindB k g P S D C clk x back (m + 1) ps xs := by
  obtain ⟨hm, hb'⟩ := List.getElem?_eq_some_iff.1 hb
  have e : feed x (back.take (m + 1)) = feed x (back.take m) := by
    rw [List.take_succ_eq_append_getElem hm, hb', feed_snoc, if_neg h1]
  exact { h with first := by rw [e]; exact h.first, ok := by rw [e]; exact h.ok, bd := by rw [e]; exact h.bd, ds := by rw [e]; exact h.ds }
theorem FindB.hear (h : FindB k g P S D C clk x back m ps xs) (hC : C ≤ 3999990000) {b : Pk} (hb : back[m]? = some b) (h1 : b.1 = 1) :
    wholeB b.2 = true ∧ FindB k g P S D (C + 10) clk x back (m + 1) ps (xs.set 0 ((feed x (back.take m)).receive (some b.2)).2) := by
  obtain ⟨hm, hb'⟩ := List.getElem?_eq_some_iff.1 hb
  have hw := h.whole b (List.mem_of_getElem? hb)
  have e : feed x (back.take (m + 1)) = ((feed x (back.take m)).receive (some b.2)).2 := by
    rw [List.take_succ_eq_append_getElem hm, hb', feed_snoc, if_pos h1]
  have hg := good_receive h.ok h.bd (by omega) (some b.2) (fun m hm => by cases hm; exact mok_of hw)
  have hl : 0 < xs.length := (List.getElem?_eq_some_iff.1 h.first).1
  refine ⟨hw, { len := by simp [h.len], first := by rw [List.getElem?_set_self hl, e], ok := by rw [e]; exact hg.ok, bd := by rw [e]; exact hg.bd, ds := by rw [e, receive_ds]; exact h.ds, oth := fun a z hz ha => ?_, sends := h.sends, clock := h.clock, whole := h.whole, one := h.one }⟩
  rw [List.getElem?_set_ne (by omega)] at hz
  exact ⟨(h.oth a z hz ha).1, (h.oth a z hz ha).2.mono (by omega)⟩
theorem FindB.done (h : FindB k g P S D C clk x back m ps xs) (hm : back.length ≤ m) : FindS k g P S D C clk ps xs := by
  have e : back.take m = back := List.take_of_length_le hm
  have h1 := h.first
  have h2 := h.bd
  have h3 := h.ds
  rw [e] at h1 h2 h3
  exact ⟨h.len, ⟨_, h1, h.sends, h.clock, h2, h3⟩, h.oth⟩
end
end Go.Proofs.YtfngdplkcppabaaGreat
