/-
  node.begin: the next probe.
-/
import Derived.Test.YtfngdplkcppabaaGreatPart15
set_option linter.all false
namespace Go.Proofs.YtfngdplkcppabaaGreat
open Go.RowKit

theorem draw_pass (y : Nd) (L : List Int) (n : Int) : ({ y with pass := L } : Nd).draw n = ((y.draw n).1, { (y.draw n).2 with pass := L }) := by
  unfold Nd.draw
  simp only
  split <;> rfl
theorem ids_here_len (x : Nd) : ((x.others.filter here).map (·.k.id)).length = (x.others.filter here).length := by simp
/-- A row of ints of the call's own, as the pass. -/
theorem nums_of_row {w : World} {B n : Nat} {a : Option Addr} {c : Nat} {l : List Int} (h : w.ownsRow B 3 1 (.slice a n c) n (l.map (Value.int .i64))) : l.length = n ∧ NumsAt w a n c l ∧ (a = none → l = [] ∧ c = 0) := by
  have hl : l.length = n := by have := h.1; simpa using this
  rcases h.2 with ⟨e, e'⟩ | ⟨g, cap, cur, e, hB, hg, h1, h2, h3, h4⟩
  · simp only [Value.slice.injEq] at e
    obtain ⟨rfl, rfl, rfl⟩ := e
    exact ⟨hl, ⟨hl, Nat.le_refl _, fun p hp => by cases hp⟩, fun _ => ⟨List.eq_nil_of_length_eq_zero hl, rfl⟩⟩
  · simp only [Value.slice.injEq] at e
    obtain ⟨rfl, _, rfl⟩ := e
    refine ⟨hl, ⟨hl, h1, fun p hp => ?_⟩, fun e => by cases e⟩
    cases hp
    refine ⟨cur, hg, rfl, by simp only; omega, fun i v hi => ?_⟩
    have hil : i < n := by
      rcases Nat.lt_or_ge i n with h' | h'
      · exact h'
      · rw [List.getElem?_eq_none (by omega)] at hi; cases hi
    have : (cur.toList.take (n * 1))[i]? = some (.int .i64 v) := by rw [h4, List.getElem?_map, hi]; rfl
    rw [List.getElem?_take, if_pos (by omega), Array.getElem?_toList] at this
    simpa using this
theorem Ad.atPass_b (a : Ad) (pa : Option Addr) (pc : Nat) : (a.atPass pa pc).b = a.b := rfl

theorem set2_at {cur : Array Value} {po i j n : Nat} {L : List Int} (hs : po + n ≤ cur.size) (hL : L.length = n) (hc : ∀ (k : Nat) v, L[k]? = some v → cur[po + k]? = some (.int .i64 v)) (hi : i < n) (hj : j < n) :
    ∀ (k : Nat) v, (swapL L i j)[k]? = some v → ((cur.setIfInBounds (po + i) (.int .i64 (L.getD j 0))).setIfInBounds (po + j) (.int .i64 (L.getD i 0)))[po + k]? = some (.int .i64 v) := by
  intro k v hk
  unfold swapL at hk
  rw [List.getElem?_set, List.length_set] at hk
  rw [Array.getElem?_setIfInBounds, Array.size_setIfInBounds]
  by_cases e : j = k
  · subst e
    rw [if_pos rfl, if_pos (by omega)] at hk
    rw [if_pos rfl, if_pos (by omega)]
    simp only [Option.some.injEq] at hk
    rw [hk]
  · rw [if_neg e] at hk
    rw [if_neg (by omega)]
    rw [List.getElem?_set] at hk
    rw [Array.getElem?_setIfInBounds]
    by_cases e2 : i = k
    · subst e2
      rw [if_pos rfl, if_pos (by omega)] at hk
      rw [if_pos rfl, if_pos (by omega)]
      simp only [Option.some.injEq] at hk
      rw [hk]
    · rw [if_neg e2] at hk
      rw [if_neg (by omega)]
      exact hc k v hk
theorem nums_swap {w : World} {pb po n c i j : Nat} {L : List Int} (h : NumsAt w (some ⟨pb, po, none⟩) n c L) (hi : i < n) (hj : j < n) :
    NumsAt ((w.setCell ⟨pb, po + i, none⟩ (.int .i64 (L.getD j 0))).setCell ⟨pb, po + j, none⟩ (.int .i64 (L.getD i 0))) (some ⟨pb, po, none⟩) n c (swapL L i j) := by
  refine ⟨by rw [swapL_len]; exact h.1, h.2.1, fun p hp => ?_⟩
  cases hp
  obtain ⟨cur, hg, _, hs, hc⟩ := h.2.2 _ rfl
  have hcn := h.2.1
  simp only at hg hs hc
  exact ⟨_, heap_setCell_eq (heap_setCell_eq hg), rfl, by simpa using hs, set2_at (by omega) h.1 hc hi hj⟩
/-- The first is taken out. -/
theorem turned_cut {w : World} {a : Ad} {ov : Value} {x : Nd} {t : Int} {rest : List Int} {pb po : Nat} (h : NodeAt w a ov x) (hpa : a.pa = some ⟨pb, po, none⟩) (hpp : x.pass = t :: rest) {pa' : Option Addr} (hpa' : (if a.pc = 1 then some ⟨pb, po, none⟩ else some ⟨pb, po + 1, none⟩) = pa') :
    Turned ov w a x (w.setCell ⟨a.b, 15, none⟩ (.slice pa' rest.length (a.pc - 1))) (a.atPass pa' (a.pc - 1)) { x with pass := rest } := by
  have hc : Chg (fun j _ => j = a.b) w (w.setCell ⟨a.b, 15, none⟩ (.slice pa' rest.length (a.pc - 1))) := (Chg.refl _ w).setCell _ (fun _ _ => rfl)
  have hown : (Value.slice pa' rest.length (a.pc - 1)).ownBlock = some pb := by rw [← hpa']; split <;> rfl
  have hown0 : (Value.slice a.pa x.pass.length a.pc).ownBlock = some pb := by rw [hpa]; rfl
  obtain ⟨cs, hcs⟩ := h.blk.block
  have hn := h.pass
  rw [hpa, hpp] at hn
  obtain ⟨_, hlc, hr⟩ := hn
  obtain ⟨cur, hg, _, hoc, hv⟩ := hr _ rfl
  simp only at hg hoc hv
  simp only [List.length_cons] at hlc
  have hne : pb ≠ a.b := fun e => cells_ne hg hcs (by decide) e
  have hnum : NumsAt (w.setCell ⟨a.b, 15, none⟩ (.slice pa' rest.length (a.pc - 1))) pa' rest.length (a.pc - 1) rest := by
    refine ⟨rfl, by omega, fun p hp => ?_⟩
    subst hp
    by_cases e : a.pc = 1
    · rw [if_pos e] at hpa'
      cases hpa'
      have hr0 : rest = [] := List.eq_nil_of_length_eq_zero (by omega)
      subst hr0
      exact ⟨cur, (heap_setCell_ne _ _ _ _ _ hne).trans hg, rfl, by simp only; omega, fun i v hi => by simp at hi⟩
    · rw [if_neg e] at hpa'
      cases hpa'
      refine ⟨cur, (heap_setCell_ne _ _ _ _ _ hne).trans hg, rfl, by simp only; omega, fun i v hi => ?_⟩
      have := hv (i + 1) v (by simpa using hi)
      simp only
      rw [show po + 1 + i = po + (i + 1) by omega]; exact this
  refine ⟨h.setPass pa' (a.pc - 1) rest (fun k hk => .inl (by rw [hown0, ← hown]; exact hk)) (fun j hj hl => apart_of_chg hc j (fun e => hj (.inl e)) hl) ((h.blk.set (i := 15) (by omega) (.slice pa' rest.length (a.pc - 1))).congr (by (intro i hi; rcases i with _ | _ | _ | _ | _ | _ | _ | _ | _ | _ | _ | _ | _ | _ | _ | _ | _ | _ | _ | _ | _ | _ | _ | _ | _ | _ | _ | i <;> first | rfl | exact absurd hi (by omega)))) hnum (fun e => by rw [← hpa'] at e; split at e <;> cases e), hc.mono (fun _ _ _ e => .inl e), fun k hk => .inl ?_, rfl⟩
  rcases hk with e | e | e | e | e | e | e | e | e
  · exact .inl e
  · exact .inr (.inl e)
  · exact .inr (.inr (.inl e))
  · exact .inr (.inr (.inr (.inl e)))
  · exact .inr (.inr (.inr (.inr (.inl e))))
  · exact .inr (.inr (.inr (.inr (.inr (.inl e)))))
  · exact .inr (.inr (.inr (.inr (.inr (.inr (.inl e))))))
  · exact .inr (.inr (.inr (.inr (.inr (.inr (.inr (.inl (by rw [hown0, ← hown]; exact e))))))))
  · exact .inr (.inr (.inr (.inr (.inr (.inr (.inr (.inr e)))))))
theorem pass_cell {w : World} {a : Ad} {ov : Value} {x : Nd} {t : Int} {rest : List Int} {pb po : Nat} (h : NodeAt w a ov x) (hpa : a.pa = some ⟨pb, po, none⟩) (hpp : x.pass = t :: rest) : w.cell? ⟨pb, po, none⟩ = some (.int .i64 t) := by
  obtain ⟨cur, hg, _, _, hcs⟩ := h.pass.2.2 _ hpa
  rw [cells_at hg]
  have := hcs 0 t (by rw [hpp]; rfl)
  rwa [Nat.add_zero] at this
set_option maxRecDepth 100000 in
set_option maxHeartbeats 4000000 in
theorem begin_any {x : Nd} (ho : Ok x) {C : Int} (hbd : Bd C x) (hC : C ≤ 100000000000) (hdl : x.ds.length ≤ 1000000) (a : Ad) (ov : Value) (B : Nat) (ps : List Pk) (w : World) (h : NodeAt w a ov x) (hout : OutRow w B ov ps) (hB : B ≤ w.heap.size) (hps : ps.length < 1000) :
    Calls Tryz.prog 32 #[.pointer (some ⟨a.b, 0, none⟩)] w (Does B w a x ps x.begins) := by
  have c15 : w.cell? ⟨a.b, 15, none⟩ = some (.slice a.pa x.pass.length a.pc) := h.blk.cell (by omega)
  have c10 : w.cell? ⟨a.b, 10, none⟩ = some (.map (some a.bo)) := h.blk.cell (by omega)
  have H := Lib.hid h
  have HO := Lib.hid ho
  have HBD := Lib.hid hbd
  have HOUT := Lib.hid hout
  have HDL := Lib.hid hdl
  clear h ho hbd hout hdl
  go_enter Tryz.func32, Tryz.ntmps32
  go_upto_if 9 with (fail)
  go_cut [] (fun wx => ∃ a1, Turned ov w a x wx a1 x.newPass)
  case first =>
    by_cases hp : x.pass = []
    · obtain ⟨L0, hL0⟩ : ∃ L0, (x.others.filter here).map (·.k.id) = L0 := ⟨_, rfl⟩
      have hll : (x.others.filter here).length = L0.length := by rw [← hL0]; simp
      have hl7 : L0.length ≤ 7 := by rw [← hll]; exact Nat.le_trans (List.length_filter_le _ _) HO.out.len
      have hlm : (x.others.filter here).map (fun m => Value.int .i64 m.k.id) = L0.map (Value.int .i64) := by rw [← hL0, List.map_map]; rfl
      have hnp : x.newPass = { (Nd.mix (L0.length - 1) L0 x).2 with pass := (Nd.mix (L0.length - 1) L0 x).1 } := by unfold Nd.newPass; rw [if_pos hp, hL0]
      have HLL := Lib.hid hll
      have HLM := Lib.hid hlm
      have HNP := Lib.hid hnp
      have HL0 := Lib.hid hL0
      have hpl : x.pass.length = 0 := by rw [hp]; rfl
      clear hll hlm hnp hL0
      have hSH := sortedHere_any HO.out a ov w H.out
      have HSH := Lib.hid hSH
      have f15 := H.out.blk.free 15
      clear hSH hp
      go_wp2_with (first
        | (go_at_call 27; refine HSH.out.mono ?_; rintro e w27 ⟨v27, rfl, hP27, hb27⟩
           have HP27 := Lib.hid hP27
           have HB27 := Lib.hid hb27
           clear hP27 hb27)
        | (go_at_call 53; refine (mapI_any a.mem (x.others.filter here) v27 w27 HP27.out (H.out.memsAt HB27.out (fun m hm => (List.mem_filter.1 hm).1)) (by have := HO.out.len; have := List.length_filter_le here x.others; omega)).mono ?_; rintro e w53 ⟨v53, rfl, hrow53, hb53⟩
           rw [HLL.out, HLM.out] at hrow53
           obtain ⟨pa, pc, rfl⟩ := ownsRow_sl hrow53
           have hBB : Below w.heap.size w w53 := HB27.out.trans (hb53.mono HB27.out.size)
           have n53 := H.out.below hBB
           have e15 : w53.cell? ⟨a.b, 15, none⟩ = some (.slice a.pa x.pass.length a.pc) := n53.blk.cell (by omega)
           have ef15 := n53.blk.free 15
           have HBB := Lib.hid hBB
           have HN53 := Lib.hid n53
           have HROW := Lib.hid hrow53
           clear hb53 hrow53 hBB n53))
      obtain ⟨hnl, hnums, hpn⟩ := nums_of_row HROW.out
      have hTs : Turned ov w a x (w53.setCell ⟨a.b, 15, none⟩ (.slice pa L0.length pc)) (a.atPass pa pc) { x with pass := L0 } := by
        have hrlt := fun k hk => HROW.out.lt k hk
        have hc : Chg (fun j _ => j = a.b) w (w53.setCell ⟨a.b, 15, none⟩ (.slice pa L0.length pc)) := (chg_of_below HBB.out).setCell _ (fun _ _ => rfl)
        have hN : NodeAt (w53.setCell ⟨a.b, 15, none⟩ (.slice pa L0.length pc)) (a.atPass pa pc) ov { x with pass := L0 } := by
          refine H.out.setPass pa pc L0 (fun k hk => .inr (Nat.le_trans HB27.out.size (hrlt k hk).1)) (fun j hj hl => apart_of_chg hc j (fun e => hj (.inl e)) hl) ?_ ?_ hpn
          · exact (HN53.out.blk.set (i := 15) (by omega) (.slice pa L0.length pc)).congr (by (intro i hi; rcases i with _ | _ | _ | _ | _ | _ | _ | _ | _ | _ | _ | _ | _ | _ | _ | _ | _ | _ | _ | _ | _ | _ | _ | _ | _ | _ | _ | i <;> first | rfl | exact absurd hi (by omega)))
          · refine hnums.heap (fun k hk => heap_setCell_ne _ _ _ _ _ (fun e => ?_))
            have := (hrlt k hk).1
            have := H.out.blk.lt
            have := HB27.out.size
            omega
        refine ⟨hN, hc.mono (fun _ _ _ e => .inl e), fun k hk => ?_, rfl⟩
        rcases hk with e | e | e | e | e | e | e | e | e | e | e | e
        · exact .inl (.inl e)
        · exact .inl (.inr (.inl e))
        · exact .inl (.inr (.inr (.inl e)))
        · exact .inl (.inr (.inr (.inr (.inl e))))
        · exact .inl (.inr (.inr (.inr (.inr (.inl e)))))
        · exact .inl (.inr (.inr (.inr (.inr (.inr (.inl e))))))
        · exact .inl (.inr (.inr (.inr (.inr (.inr (.inr (.inl e)))))))
        · exact .inr (Nat.le_trans HB27.out.size (hrlt k e).1)
        · exact .inl (.inr (.inr (.inr (.inr (.inr (.inr (.inr (.inr (.inl e)))))))))
        · exact .inl (.inr (.inr (.inr (.inr (.inr (.inr (.inr (.inr (.inr (.inl e))))))))))
        · exact .inl (.inr (.inr (.inr (.inr (.inr (.inr (.inr (.inr (.inr (.inr (.inl e)))))))))))
        · exact .inl (.inr (.inr (.inr (.inr (.inr (.inr (.inr (.inr (.inr (.inr (.inr e)))))))))))
      have HTS := Lib.hid hTs
      have HPN := Lib.hid hpn
      clear hTs hnums hnl hpn
      go_loopw [2] (fun s2 wr => ∃ (i : Int) (L : List Int) (k : Nat), s2 = .int .i64 i ∧ -1 ≤ i ∧ i < L0.length ∧ L.length = L0.length ∧ (k : Int) + i ≤ C + L0.length ∧ Nd.mix i.toNat L { x with at_ := k } = Nd.mix (L0.length - 1) L0 x ∧ Turned ov w a x wr (a.atPass pa pc) { x with at_ := k, pass := L })
        (fun s2 _ => (intOf s2).toNat)
      case atStart => exact ⟨(L0.length : Int) - 1, L0, x.at_, rfl, by omega, by omega, rfl, by have := HBD.out.at_; omega, by rw [show ((L0.length : Int) - 1).toNat = L0.length - 1 by omega], HTS.out⟩
      case round =>
        obtain ⟨i, L, k, rfl, hi1, hi2, hLL, hk, hmix, hT⟩ := hrel
        have HT := Lib.hid hT
        have HMIX := Lib.hid hmix
        clear hT hmix
        by_cases hpos : 0 < i
        · obtain ⟨j1, rfl⟩ : ∃ j1 : Nat, i = (j1 : Int) := ⟨i.toNat, by omega⟩
          have hj1 : 0 < j1 := by omega
          have hjL : j1 < L.length := by omega
          obtain ⟨y, hy⟩ : ∃ y : Nd, { x with at_ := k } = y := ⟨_, rfl⟩
          have hnode : ({ x with at_ := k, pass := L } : Nd) = { y with pass := L } := by rw [← hy]
          have hyd : y.ds = x.ds := by rw [← hy]
          have hbdy : Bd (C + 7) { y with pass := L } := by
            have hb := HBD.out.mono (C := C + 7) (by omega)
            rw [← hy]
            exact ⟨hb.clock, hb.seq, hb.dropped, hb.lost, by show (k : Int) ≤ C + 7; omega⟩
          obtain ⟨hd0, hd1⟩ := draw_range y (n := (j1 : Int) + 1) (by omega)
          obtain ⟨k', hk'⟩ := draw_eq y ((j1 : Int) + 1)
          obtain ⟨d, hd⟩ : ∃ d : Nat, (y.draw ((j1 : Int) + 1)).1 = (d : Int) := ⟨((y.draw ((j1 : Int) + 1)).1).toNat, by omega⟩
          have hdj : d ≤ j1 := by omega
          have hN := HT.out.node
          rw [hnode] at hN
          have hcon := draw_any hbdy (by omega) (a.atPass pa pc) ov wr hN ((j1 : Int) + 1) (by omega) (by show y.ds.length ≤ _; rw [hyd]; exact HDL.out)
          rw [draw_pass, hd, hk'] at hcon
          have hk1 : k' ≤ k + 1 := by
            have : k' = y.at_ ∨ k' = y.at_ + 1 := by
              have e := hk'
              unfold Nd.draw at e
              split at e
              · left; exact (congrArg Nd.at_ e).symm
              · right; exact (congrArg Nd.at_ e).symm
            have e2 : y.at_ = k := by rw [← hy]
            omega
          have n6 : wr.cell? ⟨a.b, 6, none⟩ = some (.func (.func 58) #[] #[.pointer (some ⟨a.w1, 0, none⟩), .pointer (some ⟨a.w2, 0, none⟩)]) := hN.blk.cell (by omega)
          have hmix2 : Nd.mix (j1 - 1) (swapL L j1 d) { x with at_ := k' } = Nd.mix (L0.length - 1) L0 x := by
            rw [← HMIX.out]
            obtain ⟨j0, rfl⟩ : ∃ j0, j1 = j0 + 1 := ⟨j1 - 1, by omega⟩
            have e1 : (((j0 + 1 : Nat) : Int)).toNat = j0 + 1 := by omega
            rw [e1, hy]
            show _ = Nd.mix j0 (swapL L (j0 + 1) (y.draw ((j0 : Int) + 2)).1.toNat) (y.draw ((j0 : Int) + 2)).2
            have e2 : ((j0 + 1 : Nat) : Int) + 1 = (j0 : Int) + 2 := by omega
            rw [e2] at hd hk'
            rw [hd, hk', ← hy]
            rfl
          have HCON := Lib.hid hcon
          have HMIX2 := Lib.hid hmix2
          have HNODE := Lib.hid hnode
          have HY := Lib.hid hy
          clear hcon hmix2 hnode hy hd hk' hd0 hd1 hyd hbdy hN
          go_wp2_with (first
            | (go_at_call 58; refine HCON.out.mono ?_; rintro e w4 ⟨rfl, hT4⟩
               have n4 := hT4.node
               have e15 : w4.cell? ⟨a.b, 15, none⟩ = some (.slice pa L.length pc) := n4.blk.cell (by omega)
               have hnum := n4.pass
               have HT4 := Lib.hid hT4
               clear hT4 n4))
          obtain ⟨p, hpa⟩ : ∃ p, pa = some p := by
            rcases Option.eq_none_or_eq_some pa with e | e
            · have := (HPN.out e).1; rw [this] at hi2; simp at hi2; omega
            · exact e
          subst hpa
          obtain ⟨pb, po, psp⟩ := p
          obtain ⟨cur, hg, hsp, hoc, hcs⟩ := hnum.2.2 _ rfl
          simp only at hsp
          subst hsp
          have HNUM := Lib.hid hnum
          simp only at hg hoc hcs
          have ci : w4.cell? ⟨pb, po + j1, none⟩ = some (.int .i64 (L.getD j1 0)) := by rw [cells_at hg]; exact hcs _ _ (by rw [List.getD_eq_getElem?_getD, List.getElem?_eq_getElem hjL]; rfl)
          have cd : w4.cell? ⟨pb, po + d, none⟩ = some (.int .i64 (L.getD d 0)) := by rw [cells_at hg]; exact hcs _ _ (by rw [List.getD_eq_getElem?_getD, List.getElem?_eq_getElem (by omega)]; rfl)
          have fp := unfrozen hg
          have HG := Lib.hid hg
          have hdL : d < L.length := by omega
          clear hnum hcs hoc hg
          obtain ⟨vi, hvi⟩ : ∃ vi, L.getD j1 0 = vi := ⟨_, rfl⟩
          obtain ⟨vd, hvd⟩ : ∃ vd, L.getD d 0 = vd := ⟨_, rfl⟩
          rw [hvi] at ci
          rw [hvd] at cd
          have HVI := Lib.hid hvi
          have HVD := Lib.hid hvd
          clear hvi hvd
          have hg1 := heap_setCell_eq (i := po + j1) (v := .int .i64 vd) HG.out
          have ccur : cur[po + d]? = some (.int .i64 vd) := by rw [← cells_at HG.out]; exact cd
          have cd2 : (w4.setCell ⟨pb, po + j1, none⟩ (.int .i64 vd)).cell? ⟨pb, po + d, none⟩ = some (.int .i64 vd) := by
            rw [cells_at hg1, Array.getElem?_setIfInBounds]
            by_cases e : po + j1 = po + d
            · rw [if_pos e, if_pos]
              rcases Nat.lt_or_ge (po + j1) cur.size with h' | h'
              · exact h'
              · rw [← e, Array.getElem?_eq_none h'] at ccur; cases ccur
            · rw [if_neg e]; exact ccur
          have fd2 := unfrozen hg1
          clear hg1 ccur
          have hdL0 : d < L0.length := by omega
          have hjL0 : j1 < L0.length := by omega
          go_region
          all_goals
            go_wp2
            go_roundw
            case rel =>
              have hsw := nums_swap (i := j1) (j := d) HNUM.out hjL hdL
              rw [HVI.out, HVD.out] at hsw
              have hc : Chg (fun j _ => j = pb) w4 (((w4.setCell ⟨pb, po + j1, none⟩ (.int .i64 vd)).setCell ⟨pb, po + d, none⟩ (.int .i64 vi)).drew) := (((Chg.refl _ w4).setCell _ (fun _ _ => rfl)).setCell _ (fun _ _ => rfl)).drew
              obtain ⟨cs, hcs⟩ := HT4.out.node.blk.block
              have hne : pb ≠ a.b := fun e => cells_ne HG.out hcs (by decide) e
              have hbl : NB (((w4.setCell ⟨pb, po + j1, none⟩ (.int .i64 vd)).setCell ⟨pb, po + d, none⟩ (.int .i64 vi)).drew) a.b (nodeF (a.atPass (some ⟨pb, po, none⟩) pc) ov { x with at_ := k', pass := swapL L j1 d }) := by
                have h1 := ((HT4.out.node.blk.other hne (i := po + j1) (.int .i64 vd)).other hne (i := po + d) (.int .i64 vi)).drew
                refine h1.congr ?_
                rw [← HY.out]
                have e15 : nodeF (a.atPass (some ⟨pb, po, none⟩) pc) ov { x with at_ := k', pass := L } 15 = nodeF (a.atPass (some ⟨pb, po, none⟩) pc) ov { x with at_ := k', pass := swapL L j1 d } 15 := by
                  show Value.slice _ L.length _ = Value.slice _ (swapL L j1 d).length _
                  rw [swapL_len]
                intro i hi
                by_cases e : i = 15
                · subst e; exact e15
                · rcases i with _ | _ | _ | _ | _ | _ | _ | _ | _ | _ | _ | _ | _ | _ | _ | _ | _ | _ | _ | _ | _ | _ | _ | _ | _ | _ | _ | i <;> first | rfl | exact absurd rfl e | exact absurd hi (by omega)
              have hN5 : NodeAt (((w4.setCell ⟨pb, po + j1, none⟩ (.int .i64 vd)).setCell ⟨pb, po + d, none⟩ (.int .i64 vi)).drew) (a.atPass (some ⟨pb, po, none⟩) pc) ov { x with at_ := k', pass := swapL L j1 d } := by
                have h4 := HT4.out.node
                rw [← HY.out] at h4
                have := h4.setPass (some ⟨pb, po, none⟩) pc (swapL L j1 d) (fun q hq => .inl hq) (fun j hj hl => apart_of_chg hc j (fun e => hj (.inr (by rw [e]; rfl))) hl) hbl (by rw [swapL_len]; exact hsw.heap (fun _ _ => rfl)) (fun e => by cases e)
                exact this
              have hT5 : Turned ov w4 (a.atPass (some ⟨pb, po, none⟩) pc) { x with at_ := k', pass := L } (((w4.setCell ⟨pb, po + j1, none⟩ (.int .i64 vd)).setCell ⟨pb, po + d, none⟩ (.int .i64 vi)).drew) (a.atPass (some ⟨pb, po, none⟩) pc) { x with at_ := k', pass := swapL L j1 d } :=
                ⟨hN5, hc.mono (fun j _ _ e => by have e : j = pb := e; subst e; exact .inr (.inr (.inr (.inr (.inr (.inr (.inr (.inl rfl)))))))), fun _ hq => .inl hq, rfl⟩
              have hT4 := HT4.out
              rw [← HNODE.out, ← HY.out] at hT4
              refine ⟨(j1 : Int) - 1, swapL L j1 d, k', rfl, by omega, by omega, by rw [swapL_len]; exact hLL, by omega, by rw [show ((j1 : Int) - 1).toNat = j1 - 1 by omega]; exact HMIX2.out, (HT.out.then hT4).then hT5⟩
            case measure => simp [intOf]; omega
        · have hi0 : i.toNat = 0 := by omega
          have hmx := HMIX.out
          rw [hi0] at hmx
          have hmx' : ((L, { x with at_ := k }) : List Int × Nd) = Nd.mix (L0.length - 1) L0 x := hmx
          have e : x.newPass = { x with at_ := k, pass := L } := by rw [HNP.out, ← hmx']
          have HE := Lib.hid e
          clear hmx hmx' e
          go_wp2
          go_meet
          case rel => exact ⟨_, by rw [HE.out]; exact HT.out⟩
    · have hpl : ((x.pass.length : Int) == 0) = false := by
        simp only [beq_eq_false_iff_ne, ne_eq]
        intro e
        exact hp (List.eq_nil_of_length_eq_zero (by omega))
      have e : x.newPass = x := by unfold Nd.newPass; rw [if_neg hp]
      have HE := Lib.hid e
      clear hp e
      go_wp2
      go_meet
      case rel => exact ⟨a, by rw [HE.out]; exact Turned.refl H.out⟩
  case rest =>
    obtain ⟨a1, hT1⟩ := hcut
    obtain ⟨hokp, hbdp, _⟩ := newPass_all HO.out HBD.out
    have hS1 := St.turned H.out HOUT.out hT1
    have hbeg : x.begins = match x.newPass.pass with
      | [] => ([], x.newPass)
      | t :: rest => ([(t, Nd.msg { x.newPass.next with pass := rest, probe := some ⟨t, x.newPass.seq + 1, x.newPass.clock, false⟩ } ⟨1, 0, 0, x.newPass.seq + 1, t, []⟩)], Nd.sent { x.newPass.next with pass := rest, probe := some ⟨t, x.newPass.seq + 1, x.newPass.clock, false⟩ } ⟨1, 0, 0, x.newPass.seq + 1, t, []⟩) := rfl
    obtain ⟨y, hy⟩ : ∃ y, x.newPass = y := ⟨_, rfl⟩
    rw [hy] at hokp hbdp hS1 hbeg hT1
    clear hy
    have hb1 : a1.b = a.b := hT1.b
    have HS1 := Lib.hid hS1
    have HOK := Lib.hid hokp
    have HBP := Lib.hid hbdp
    have HB1 := Lib.hid hb1
    have hsz1 := hT1.chg.size
    have n15 : wc.cell? ⟨a.b, 15, none⟩ = some (.slice a1.pa y.pass.length a1.pc) := by rw [← hb1]; exact hT1.node.blk.cell (by omega)
    have n13 : wc.cell? ⟨a.b, 13, none⟩ = some (.int .i64 y.clock) := by rw [← hb1]; exact hT1.node.blk.cell (by omega)
    clear hokp hbdp hS1 hT1 hb1
    cases hpp : y.pass with
    | nil =>
      rw [hpp] at hbeg n15
      have HBEG := Lib.hid hbeg
      clear hbeg hpp
      go_wp2
      ((try simp only [Exit.inBlock, Exit.then]); first | refine bodyPost_ret (results_none rfl _ _ _) rfl ?_ | refine bodyPost_end (results_none rfl _ _ _) rfl ?_)
      rw [HBEG.out]
      exact Does.of (by rw [List.append_nil]; exact HS1.out)
    | cons t rest =>
      rw [hpp] at hbeg n15
      have HBEG := Lib.hid hbeg
      have hnums := HS1.out.node.pass
      rw [hpp] at hnums
      obtain ⟨p, hpa⟩ : ∃ p, a1.pa = some p := by
        rcases Option.eq_none_or_eq_some a1.pa with e | e
        · have := (HS1.out.node.pass0 e).1; rw [hpp] at this; cases this
        · exact e
      obtain ⟨pb, po, psp⟩ := p
      rw [hpa] at hnums n15
      obtain ⟨cur, hg, hsp, hoc, hcs⟩ := hnums.2.2 _ rfl
      simp only at hsp
      subst hsp
      simp only at hg hoc hcs
      have ct : wc.cell? ⟨pb, po, none⟩ = some (.int .i64 t) := by
        rw [cells_at hg]
        have := hcs 0 t rfl
        rwa [Nat.add_zero] at this
      have hpl : 0 < rest.length + 1 := by omega
      simp only [List.length_cons] at n15 hnums
      have HNUM := Lib.hid hnums
      have HG := Lib.hid hg
      have HPA := Lib.hid hpa
      have HPP := Lib.hid hpp
      have HCS := Lib.hid hcs
      have hsq := HBP.out.seq
      have hcon := next_any (x := y) (by omega) a1 ov wc.drew (HS1.out.drewN 1).node
      rw [HB1.out] at hcon
      have HCON := Lib.hid hcon
      clear hbeg hg hpa hpp hcs hnums hcon
      go_wp2
      go_cut [] (fun wx => ∃ w3, Turned ov wc.drew a1 y w3 a1 y.next ∧ wx = (w3.alloc (.cells #[.int .i64 t, .int .i64 (y.seq + 1), .int .i64 y.clock, .bool false] 89)).setCell ⟨a.b, 16, none⟩ (.pointer (some ⟨w3.heap.size, 0, none⟩)))
      case first =>
        go_region_law (first
          | (go_simp; go_at_call 36; refine HCON.out.mono ?_; rintro e w3 ⟨rfl, hT3⟩
             have m15 : w3.cell? ⟨a.b, 15, none⟩ = some (.slice (some ⟨pb, po, none⟩) (rest.length + 1) a1.pc) := by rw [← HB1.out, hT3.node.blk.cell (by omega)]; simp only [nodeF]; rw [HPA.out]; show some (Value.slice _ y.pass.length _) = _; rw [HPP.out]; rfl
             have m13 : w3.cell? ⟨a.b, 13, none⟩ = some (.int .i64 y.clock) := by rw [← HB1.out]; exact hT3.node.blk.cell (by omega)
             have m16 : ∀ o, (w3.alloc o).cell? ⟨a.b, 16, none⟩ = some (prbV a1 y.probe) := fun o => by rw [← HB1.out]; exact (hT3.node.blk.alloc o).cell (by omega)
             have mf16 : ∀ o, (w3.alloc o).frozen? ⟨a.b, 16, none⟩ = false := fun o => by rw [← HB1.out]; exact (hT3.node.blk.alloc o).free 16
             have mt : w3.cell? ⟨pb, po, none⟩ = some (.int .i64 t) := pass_cell hT3.node HPA.out HPP.out
             have HT3 := Lib.hid hT3
             clear hT3))
        all_goals
          go_wp2
          go_meet
          case rel => exact ⟨w3, HT3.out, rfl⟩
      case rest =>
        obtain ⟨w3, hT3, rfl⟩ := hcut
        have hSz := (HS1.out.drewN 1).trans (St.turned (HS1.out.drewN 1).node (HS1.out.drewN 1).out hT3)
        obtain ⟨w5, hw5⟩ : ∃ w5, (w3.alloc (.cells #[.int .i64 t, .int .i64 (y.seq + 1), .int .i64 y.clock, .bool false] 89)).setCell ⟨a.b, 16, none⟩ (.pointer (some ⟨w3.heap.size, 0, none⟩)) = w5 := ⟨_, rfl⟩
        have hT5 : Turned ov w3 a1 y.next w5 (a1.atPrb w3.heap.size) { y.next with probe := some ⟨t, y.seq + 1, y.clock, false⟩ } := by
          have hc : Chg (fun j _ => j = a1.b) w3 w5 := by rw [← hw5, ← HB1.out]; exact ((Chg.refl _ w3).alloc _).setCell _ (fun _ _ => rfl)
          have hlt := hT3.node.blk.lt
          have hp5 : w5.heap[w3.heap.size]? = some (.cells (prbCells ⟨t, y.seq + 1, y.clock, false⟩) 89 (0, 0)) := by
            rw [← hw5, heap_setCell_ne _ _ _ _ _ (by rw [HB1.out] at hlt; omega)]; exact heap_alloc_eq w3 _
          have hb5 : NB w5 a1.b (nodeF (a1.atPrb w3.heap.size) ov { y.next with probe := some ⟨t, y.seq + 1, y.clock, false⟩ }) := by
            rw [← hw5, ← HB1.out]
            exact ((hT3.node.blk.alloc _).set (i := 16) (by omega) (.pointer (some ⟨w3.heap.size, 0, none⟩))).congr (by (intro i hi; rcases i with _ | _ | _ | _ | _ | _ | _ | _ | _ | _ | _ | _ | _ | _ | _ | _ | _ | _ | _ | _ | _ | _ | _ | _ | _ | _ | _ | i <;> first | rfl | exact absurd hi (by omega)))
          refine ⟨hT3.node.setPrb ⟨t, y.seq + 1, y.clock, false⟩ w3.heap.size (.inr (Nat.le_refl _)) (fun j hj hl => apart_of_chg hc j (fun e => hj (.inl e)) hl) hb5 hp5, hc.mono (fun _ _ _ e => .inl e), fun k hk => ?_, rfl⟩
          rcases hk with e | e | e | e | e | e | e | e | ⟨_, e⟩ | e
          · exact .inl (.inl e)
          · exact .inl (.inr (.inl e))
          · exact .inl (.inr (.inr (.inl e)))
          · exact .inl (.inr (.inr (.inr (.inl e))))
          · exact .inl (.inr (.inr (.inr (.inr (.inl e)))))
          · exact .inl (.inr (.inr (.inr (.inr (.inr (.inl e))))))
          · exact .inl (.inr (.inr (.inr (.inr (.inr (.inr (.inl e)))))))
          · exact .inl (.inr (.inr (.inr (.inr (.inr (.inr (.inr (.inl e))))))))
          · exact .inr (by rw [e]; exact Nat.le_refl _)
          · exact .inl (.inr (.inr (.inr (.inr (.inr (.inr (.inr (.inr (.inr e)))))))))
        rw [hw5]
        have hS5 := hSz.trans (St.turned hSz.node hSz.out hT5)
        have hb5 : (a1.atPrb w3.heap.size).b = a.b := HB1.out
        have hsz5 : B ≤ w5.heap.size := by have := hS5.chg.size; omega
        have m15 : w5.cell? ⟨a.b, 15, none⟩ = some (.slice (some ⟨pb, po, none⟩) (rest.length + 1) a1.pc) := by
          rw [← hb5, hS5.node.blk.cell (by omega)]
          show some (Value.slice a1.pa y.pass.length _) = _
          rw [HPA.out, HPP.out]; rfl
        have mf15 : w5.frozen? ⟨a.b, 15, none⟩ = false := by rw [← hb5]; exact hS5.node.blk.free 15
        have HS5 := Lib.hid hS5
        have HB5 := Lib.hid hb5
        have hpc : 1 ≤ a1.pc := by have := HNUM.out.2.1; omega
        clear hw5 hT5 hSz hT3 hS5 hb5
        obtain ⟨pa', hpa'⟩ : ∃ pa', (if a1.pc = 1 then some ⟨pb, po, none⟩ else some ⟨pb, po + 1, none⟩ : Option Addr) = pa' := ⟨_, rfl⟩
        have hT6 := turned_cut HS5.out.node HPA.out HPP.out hpa'
        rw [HB5.out] at hT6
        obtain ⟨w6, hw6⟩ : ∃ w6, w5.setCell ⟨a.b, 15, none⟩ (.slice pa' rest.length (a1.pc - 1)) = w6 := ⟨_, rfl⟩
        have hT6' : Turned ov w5 (a1.atPrb w3.heap.size) { y.next with probe := some ⟨t, y.seq + 1, y.clock, false⟩ } w6 ((a1.atPrb w3.heap.size).atPass pa' (a1.pc - 1)) { y.next with probe := some ⟨t, y.seq + 1, y.clock, false⟩, pass := rest } := by rw [← hw6]; exact hT6
        have hS6 := HS5.out.trans (St.turned HS5.out.node HS5.out.out hT6')
        have m16 : w6.cell? ⟨a.b, 16, none⟩ = some (.pointer (some ⟨w3.heap.size, 0, none⟩)) := by rw [← HB5.out]; exact hS6.node.blk.cell (by omega)
        have hpb := hS6.node.prb _ rfl
        have k0 := cells_at hpb 0
        have k1 := cells_at hpb 1
        simp only [prbCells, Ad.atPass, Ad.atPrb, List.getElem?_toArray, List.getElem?_cons_succ, List.getElem?_cons_zero] at k0 k1
        have hsz6 : B ≤ w6.heap.size := by have := hS6.chg.size; omega
        have hin : ∀ n ∈ t :: rest, n ∈ ids y.others := fun n hn => HOK.out.pin n (by rw [HPP.out]; exact hn)
        have hokz : Ok { y.next with probe := some ⟨t, y.seq + 1, y.clock, false⟩, pass := rest } := by
          have ht : idOk t := HOK.out.ids_ok (hin t (by simp))
          have hcl := HBP.out.clock
          exact { HOK.out.next with
            pin := fun n hn => hin n (List.mem_cons_of_mem _ hn)
            pnd := by have := HOK.out.pnd; rw [HPP.out, List.length_cons] at this; show rest.length ≤ 7; omega
            prb := fun p hp => by
              cases hp
              exact ⟨ht, ⟨by show 1 ≤ y.seq + 1; omega, Int.le_refl _⟩, hcl.1, Int.le_refl _⟩ }
        have HPA' := Lib.hid hpa'
        have HW6 := Lib.hid hw6
        have HS6 := Lib.hid hS6
        have HOKZ := Lib.hid hokz
        clear hpa' hw6 hT6 hT6' hS6 hpb hin hokz
        go_upto_region 10 with (fail)
        rw [HPA'.out, HW6.out]
        (refine wp_tail 23 (by kernel_rfl) (by kernel_rfl) ?_; simp only [List.take_succ_cons, List.take_zero, List.drop_succ_cons, List.drop_zero])
        iterate 23 still_step
        refine wpStill_nil ?_
        go_wp2_with (first
          | (go_at_call 35
             have hh := send_low HOKZ.out ((a1.atPrb w3.heap.size).atPass pa' (a1.pc - 1)) ov B ps w6.drew (HS6.out.drewN 1).node (HS6.out.drewN 1).out hsz6 hps t 1 0 0 (y.seq + 1) t (by omega)
             have hbb : ((a1.atPrb w3.heap.size).atPass pa' (a1.pc - 1)).b = a.b := HB5.out
             rw [hbb] at hh
             refine hh.mono ?_; rintro e w7 ⟨rfl, ov7, hT7⟩))
        ((try simp only [Exit.inBlock, Exit.then]); first | refine bodyPost_ret (results_none rfl _ _ _) rfl ?_ | refine bodyPost_end (results_none rfl _ _ _) rfl ?_)
        rw [HBEG.out]
        exact Does.of ((HS6.out.drewN 1).trans hT7)
end Go.Proofs.YtfngdplkcppabaaGreat
