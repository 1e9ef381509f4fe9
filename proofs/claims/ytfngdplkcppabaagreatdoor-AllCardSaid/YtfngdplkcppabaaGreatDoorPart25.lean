/-
  Texts of the proof: Begin, New, NewB, Join. No condition.
-/
import Derived.Test.YtfngdplkcppabaaGreatDoorPart01
import Derived.Test.YtfngdplkcppabaaGreatDoorPart16
import Derived.Laws.EntriesVeiled
import Derived.Conc.SmallLaws
import Derived.Deep.RegionLaw
import Derived.Deep.RegionHeld3
set_option linter.all false
set_option maxRecDepth 100000
set_option maxHeartbeats 4000000
namespace Go.Proofs.YtfngdplkcppabaaGreatDoor
open Go.RowKit
theorem draw_pass (y : Nd) (L : List Int) (n : Int) : ({ y with pass := L } : Nd).draw n = ((y.draw n).1, { (y.draw n).2 with pass := L }) := by
 unfold Nd.draw; simp only
 split <;> rfl
theorem nums_of_row {w : World} {B n : Nat} {a : Option Addr} {c : Nat} {l : List Int} (h : w.ownsRow B 3 1 (.slice a n c) n (l.map (Value.int .i64))) : l.length = n /\ NumsAt w a n c l /\ (a = none -> l = [] /\ c = 0) := by
 have hl : l.length = n := by have := h.1; simpa using this
 rcases h.2 with ⟨e, e'⟩ | ⟨g, cap, cur, e, hB, hg, h1, h2, h3, h4⟩
 · simp only [Value.slice.injEq] at e
   obtain ⟨rfl, rfl, rfl⟩ := e; exact ⟨hl, ⟨hl, Nat.le_refl _, fun p hp => by cases hp⟩, fun _ => ⟨List.eq_nil_of_length_eq_zero hl, rfl⟩⟩
 · simp only [Value.slice.injEq] at e
   obtain ⟨rfl, _, rfl⟩ := e; refine ⟨hl, ⟨hl, h1, fun p hp => ?_⟩, fun e => by cases e⟩
   cases hp
   refine ⟨cur, hg, rfl, by simp only; omega, fun i v hi => ?_⟩
   have hil : i < n := by
    rcases Nat.lt_or_ge i n with h' | h'
    · exact h'
    · rw [List.getElem?_eq_none (by omega)] at hi; cases hi
   have : (cur.toList.take (n * 1))[i]? = some (.int .i64 v) := by rw [h4, List.getElem?_map, hi]; rfl
   rw [List.getElem?_take, if_pos (by omega), Array.getElem?_toList] at this
   simpa using this
theorem set2_at {cur : Array Value} {po i j n : Nat} {L : List Int} (hs : po + n <= cur.size) (hL : L.length = n) (hc : ∀ (k : Nat) v, L[k]? = some v -> cur[po + k]? = some (.int .i64 v)) (hi : i < n) (hj : j < n) :
  ∀ (k : Nat) v, (swapL L i j)[k]? = some v -> ((cur.setIfInBounds (po + i) (.int .i64 (L.getD j 0))).setIfInBounds (po + j) (.int .i64 (L.getD i 0)))[po + k]? = some (.int .i64 v) := by
 intro k v hk; unfold swapL at hk; rw [List.getElem?_set, List.length_set] at hk; rw [Array.getElem?_setIfInBounds, Array.size_setIfInBounds]; by_cases e : j = k
 · subst e
   rw [if_pos rfl, if_pos (by omega)] at hk
   rw [if_pos rfl, if_pos (by omega)]
   simp only [Option.some.injEq] at hk; rw [hk]
 · rw [if_neg e] at hk
   rw [if_neg (by omega)]
   rw [List.getElem?_set] at hk; rw [Array.getElem?_setIfInBounds]; by_cases e2 : i = k
   · subst e2
     rw [if_pos rfl, if_pos (by omega)] at hk
     rw [if_pos rfl, if_pos (by omega)]
     simp only [Option.some.injEq] at hk; rw [hk]
   · rw [if_neg e2] at hk
     rw [if_neg (by omega)]
     exact hc k v hk
theorem nums_swap {w : World} {pb po n c i j : Nat} {L : List Int} (h : NumsAt w (some ⟨pb, po, none⟩) n c L) (hi : i < n) (hj : j < n) :
  NumsAt ((w.setCell ⟨pb, po + i, none⟩ (.int .i64 (L.getD j 0))).setCell ⟨pb, po + j, none⟩ (.int .i64 (L.getD i 0))) (some ⟨pb, po, none⟩) n c (swapL L i j) := by
 refine ⟨by rw [swapL_len]; exact h.1, h.2.1, fun p hp => ?_⟩
 cases hp
 obtain ⟨cur, hg, _, hs, hc⟩ := h.2.2 _ rfl; have hcn := h.2.1; simp only at hg hs hc; exact ⟨_, Kf (Kf hg), rfl, by simpa using hs, set2_at (by omega) h.1 hc hi hj⟩
theorem turned_cut {w : World} {a : Ad} {ov : Value} {x : Nd} {t : Int} {rest : List Int} {pb po : Nat} (h : NodeAt w a ov x) (hpa : a.pa = some ⟨pb, po, none⟩) (hpp : x.pass = t :: rest) {pa' : Option Addr} (hpa' : (if a.pc = 1 then some ⟨pb, po, none⟩ else some ⟨pb, po + 1, none⟩) = pa') :
  Turned ov w a x (w.setCell ⟨a.b, 15, none⟩ (.slice pa' rest.length (a.pc - 1))) (a.atPass pa' (a.pc - 1)) { x with pass := rest } := by
 have hc : Chg (fun j _ => j = a.b) w (w.setCell ⟨a.b, 15, none⟩ (.slice pa' rest.length (a.pc - 1))) := (Chg.refl _ w).setCell _ (fun _ _ => rfl)
 have hown : (Value.slice pa' rest.length (a.pc - 1)).ownBlock = some pb := by rw [<- hpa']; split <;> rfl
 have hown0 : (Value.slice a.pa x.pass.length a.pc).ownBlock = some pb := by rw [hpa]; rfl
 obtain ⟨cs, hcs⟩ := h.blk.block; have hn := h.pass; rw [hpa, hpp] at hn; obtain ⟨_, hlc, hr⟩ := hn; obtain ⟨cur, hg, _, hoc, hv⟩ := hr _ rfl; simp only at hg hoc hv; simp only [List.length_cons] at hlc; have hne : pb ≠ a.b := fun e => cells_ne hg hcs (by decide) e
 have hnum : NumsAt (w.setCell ⟨a.b, 15, none⟩ (.slice pa' rest.length (a.pc - 1))) pa' rest.length (a.pc - 1) rest := by
  refine ⟨rfl, by omega, fun p hp => ?_⟩
  subst hp; by_cases e : a.pc = 1
  · rw [if_pos e] at hpa'
    cases hpa'
    have hr0 : rest = [] := List.eq_nil_of_length_eq_zero (by omega)
    subst hr0; exact ⟨cur, (Kj _ _ _ _ _ hne).trans hg, rfl, by simp only; omega, fun i v hi => by simp at hi⟩
  · rw [if_neg e] at hpa'
    cases hpa'
    refine ⟨cur, (Kj _ _ _ _ _ hne).trans hg, rfl, by simp only; omega, fun i v hi => ?_⟩
    have := hv (i + 1) v (by simpa using hi)
    simp only; rw [show po + 1 + i = po + (i + 1) by omega]; exact this
 refine ⟨h.setPass pa' (a.pc - 1) rest (fun k hk => .inl (by rw [hown0, <- hown]; exact hk)) (fun j hj hl => Kn hc j (fun e => hj (.inl e)) hl) ((h.blk.set (i := 15) (by omega) (.slice pa' rest.length (a.pc - 1))).congr (by (intro i hi; rcases i with _ | _ | _ | _ | _ | _ | _ | _ | _ | _ | _ | _ | _ | _ | _ | _ | _ | _ | _ | _ | _ | _ | _ | _ | _ | _ | _ | i <;> first | rfl | exact absurd hi (by omega)))) hnum (fun e => by rw [<- hpa'] at e; split at e <;> cases e), hc.mono (fun _ _ _ e => .inl e), fun k hk => .inl ?_, rfl⟩
 rcases hk with e | e | e | e | e | e | e | e | e
 · exact .inl e
 · exact .inr (.inl e)
 · exact .inr (.inr (.inl e))
 · exact .inr (.inr (.inr (.inl e)))
 · exact .inr (.inr (.inr (.inr (.inl e))))
 · exact .inr (.inr (.inr (.inr (.inr (.inl e)))))
 · exact .inr (.inr (.inr (.inr (.inr (.inr (.inl e))))))
 · exact .inr (.inr (.inr (.inr (.inr (.inr (.inr (.inl (by rw [hown0, <- hown]; exact e))))))))
 · exact .inr (.inr (.inr (.inr (.inr (.inr (.inr (.inr e)))))))
theorem pass_cell {w : World} {a : Ad} {ov : Value} {x : Nd} {t : Int} {rest : List Int} {pb po : Nat} (h : NodeAt w a ov x) (hpa : a.pa = some ⟨pb, po, none⟩) (hpp : x.pass = t :: rest) : w.cell? ⟨pb, po, none⟩ = some (.int .i64 t) := by
 obtain ⟨cur, hg, _, _, hcs⟩ := h.pass.2.2 _ hpa; rw [Ka hg]; have := hcs 0 t (by rw [hpp]; rfl)
 rwa [Nat.add_zero] at this
theorem begin_any {x : Nd} (ho : Ok x) {C : Int} (hbd : Bd C x) (hC : C <= 100000000000) (hdl : x.ds.length <= 1000000) (a : Ad) (ov : Value) (B : Nat) (ps : List Pk) (w : World) (h : NodeAt w a ov x) (hout : Jm w B ov ps) (hB : B <= w.heap.size) (hps : ps.length < 1000) :
  Calls Tryz.prog 70 #[.pointer (some ⟨a.b, 0, none⟩)] w (Does B w a x ps x.begins) := by
 have c15 : w.cell? ⟨a.b, 15, none⟩ = some (.slice a.pa x.pass.length a.pc) := h.blk.cell (by omega)
 have c10 : w.cell? ⟨a.b, 10, none⟩ = some (.map (some a.bo)) := h.blk.cell (by omega)
 have H := Hd h; have HO := Hd ho; have HBD := Hd hbd; have HOUT := Hd hout; have HDL := Hd hdl; clear h ho hbd hout hdl; go_enter Tryz.func70, Tryz.ntmps70; go_upto_if 9 with (fail); go_cut [] (fun wx => ∃ a1, Turned ov w a x wx a1 x.newPass)
 case first =>
  by_cases hp : x.pass = []
  · obtain ⟨L0, hL0⟩ : ∃ L0, (x.others.filter here).map (·.k.id) = L0 := ⟨_, rfl⟩
    have hll : (x.others.filter here).length = L0.length := by rw [<- hL0]; simp
    have hl7 : L0.length <= 7 := by rw [<- hll]; exact Nat.le_trans (List.length_filter_le _ _) HO.out.len
    have hlm : (x.others.filter here).map (fun m => Value.int .i64 m.k.id) = L0.map (Value.int .i64) := by rw [<- hL0, List.map_map]; rfl
    have hnp : x.newPass = { (Nd.mix (L0.length - 1) L0 x).2 with pass := (Nd.mix (L0.length - 1) L0 x).1 } := by unfold Nd.newPass; rw [if_pos hp, hL0]
    have HLL := Hd hll; have HLM := Hd hlm; have HNP := Hd hnp; have HL0 := Hd hL0; have hpl : x.pass.length = 0 := by rw [hp]; rfl
    clear hll hlm hnp hL0; have hSH := sortedHere_any HO.out a ov w H.out; have HSH := Hd hSH; have f15 := H.out.blk.free 15; clear hSH hp
    go_wp2_with (first
     | (go_at_call 66; refine HSH.out.mono ?_; rintro e w27 ⟨v27, rfl, hP27, hb27⟩
        have HP27 := Hd hP27; have HB27 := Hd hb27; clear hP27 hb27)
     | (go_at_call 101; refine (mapI_any a.mem (x.others.filter here) v27 w27 HP27.out (H.out.memsAt HB27.out (fun m hm => (List.mem_filter.1 hm).1)) (by have := HO.out.len; have := List.length_filter_le here x.others; omega)).mono ?_; rintro e w53 ⟨v53, rfl, hrow53, hb53⟩
        rw [HLL.out, HLM.out] at hrow53; obtain ⟨pa, pc, rfl⟩ := Kg hrow53; have hBB : Below w.heap.size w w53 := HB27.out.trans (hb53.mono HB27.out.size); have n53 := H.out.below hBB; have e15 : w53.cell? ⟨a.b, 15, none⟩ = some (.slice a.pa x.pass.length a.pc) := n53.blk.cell (by omega)
        have ef15 := n53.blk.free 15; have HBB := Hd hBB; have HN53 := Hd n53; have HROW := Hd hrow53; clear hb53 hrow53 hBB n53))
    obtain ⟨hnl, hnums, hpn⟩ := nums_of_row HROW.out
    have hTs : Turned ov w a x (w53.setCell ⟨a.b, 15, none⟩ (.slice pa L0.length pc)) (a.atPass pa pc) { x with pass := L0 } := by
     have hrlt := fun k hk => HROW.out.lt k hk
     have hc : Chg (fun j _ => j = a.b) w (w53.setCell ⟨a.b, 15, none⟩ (.slice pa L0.length pc)) := (Zc HBB.out).setCell _ (fun _ _ => rfl)
     have hN : NodeAt (w53.setCell ⟨a.b, 15, none⟩ (.slice pa L0.length pc)) (a.atPass pa pc) ov { x with pass := L0 } := by
      refine H.out.setPass pa pc L0 (fun k hk => .inr (Nat.le_trans HB27.out.size (hrlt k hk).1)) (fun j hj hl => Kn hc j (fun e => hj (.inl e)) hl) ?_ ?_ hpn
      · exact (HN53.out.blk.set (i := 15) (by omega) (.slice pa L0.length pc)).congr (by (intro i hi; rcases i with _ | _ | _ | _ | _ | _ | _ | _ | _ | _ | _ | _ | _ | _ | _ | _ | _ | _ | _ | _ | _ | _ | _ | _ | _ | _ | _ | i <;> first | rfl | exact absurd hi (by omega)))
      · refine hnums.heap (fun k hk => Kj _ _ _ _ _ (fun e => ?_))
        have := (hrlt k hk).1; have := H.out.blk.lt; have := HB27.out.size; omega
     refine ⟨hN, hc.mono (fun _ _ _ e => .inl e), fun k hk => ?_, rfl⟩
     rcases hk with e | e | e | e | e | e | e | e | e | e | e | e
     · exact .inl (.inl e)
     · exact .inl (.inr (.inl e))
     · exact .inl (.inr (.inr (.inl e)))
     · exact .inl (.inr (.inr (.inr (.inl e))))
     · exact .inl (.inr (.inr (.inr (.inr (.inl e)))))
     · exact .inl (.inr (.inr (.inr (.inr (.inr (.inl e))))))
     · exact .inl (.inr (.inr (.inr (.inr (.inr (.inr (.inl e)))))))
     · exact .inr (Nat.le_trans HB27.out.size (hrlt k e).1)
     · exact .inl (.inr (.inr (.inr (.inr (.inr (.inr (.inr (.inr (.inl e)))))))))
     · exact .inl (.inr (.inr (.inr (.inr (.inr (.inr (.inr (.inr (.inr (.inl e))))))))))
     · exact .inl (.inr (.inr (.inr (.inr (.inr (.inr (.inr (.inr (.inr (.inr (.inl e)))))))))))
     · exact .inl (.inr (.inr (.inr (.inr (.inr (.inr (.inr (.inr (.inr (.inr (.inr e)))))))))))
    have HTS := Hd hTs; have HPN := Hd hpn; clear hTs hnums hnl hpn
    go_loopw [2] (fun s2 wr => ∃ (i : Int) (L : List Int) (k : Nat), s2 = .int .i64 i /\ -1 <= i /\ i < L0.length /\ L.length = L0.length /\ (k : Int) + i <= C + L0.length /\ Nd.mix i.toNat L { x with at_ := k } = Nd.mix (L0.length - 1) L0 x /\ Turned ov w a x wr (a.atPass pa pc) { x with at_ := k, pass := L })
     (fun s2 _ => (intOf s2).toNat)
    case atStart => exact ⟨(L0.length : Int) - 1, L0, x.at_, rfl, by omega, by omega, rfl, by have := HBD.out.at_; omega, by rw [show ((L0.length : Int) - 1).toNat = L0.length - 1 by omega], HTS.out⟩
    case round =>
     obtain ⟨i, L, k, rfl, hi1, hi2, hLL, hk, hmix, hT⟩ := hrel; have HT := Hd hT; have HMIX := Hd hmix; clear hT hmix; by_cases hpos : 0 < i
     · obtain ⟨j1, rfl⟩ : ∃ j1 : Nat, i = (j1 : Int) := ⟨i.toNat, by omega⟩
       have hj1 : 0 < j1 := by omega
       have hjL : j1 < L.length := by omega
       obtain ⟨y, hy⟩ : ∃ y : Nd, { x with at_ := k } = y := ⟨_, rfl⟩; have hnode : ({ x with at_ := k, pass := L } : Nd) = { y with pass := L } := by rw [<- hy]
       have hyd : y.ds = x.ds := by rw [<- hy]
       have hbdy : Bd (C + 7) { y with pass := L } := by
        have hb := HBD.out.mono (C := C + 7) (by omega)
        rw [<- hy]; exact ⟨hb.clock, hb.seq, hb.dropped, hb.lost, by show (k : Int) <= C + 7; omega⟩
       obtain ⟨hd0, hd1⟩ := draw_range y (n := (j1 : Int) + 1) (by omega)
       obtain ⟨k', hk'⟩ := draw_eq y ((j1 : Int) + 1); obtain ⟨d, hd⟩ : ∃ d : Nat, (y.draw ((j1 : Int) + 1)).1 = (d : Int) := ⟨((y.draw ((j1 : Int) + 1)).1).toNat, by omega⟩
       have hdj : d <= j1 := by omega
       have hN := HT.out.node; rw [hnode] at hN; have hcon := draw_any hbdy (by omega) (a.atPass pa pc) ov wr hN ((j1 : Int) + 1) (by omega) (by show y.ds.length <= _; rw [hyd]; exact HDL.out)
       rw [draw_pass, hd, hk'] at hcon
       have hk1 : k' <= k + 1 := by
        have : k' = y.at_ \/ k' = y.at_ + 1 := by
         have e := hk'; unfold Nd.draw at e
         split at e
         · left; exact (congrArg Nd.at_ e).symm
         · right; exact (congrArg Nd.at_ e).symm
        have e2 : y.at_ = k := by rw [<- hy]
        omega
       have n6 : wr.cell? ⟨a.b, 6, none⟩ = some (.func (.func 82) #[] #[.pointer (some ⟨a.w1, 0, none⟩), .pointer (some ⟨a.w2, 0, none⟩)]) := hN.blk.cell (by omega)
       have hmix2 : Nd.mix (j1 - 1) (swapL L j1 d) { x with at_ := k' } = Nd.mix (L0.length - 1) L0 x := by
        rw [<- HMIX.out]; obtain ⟨j0, rfl⟩ : ∃ j0, j1 = j0 + 1 := ⟨j1 - 1, by omega⟩
        have e1 : (((j0 + 1 : Nat) : Int)).toNat = j0 + 1 := by omega
        rw [e1, hy]
        show _ = Nd.mix j0 (swapL L (j0 + 1) (y.draw ((j0 : Int) + 2)).1.toNat) (y.draw ((j0 : Int) + 2)).2
        have e2 : ((j0 + 1 : Nat) : Int) + 1 = (j0 : Int) + 2 := by omega
        rw [e2] at hd hk'; rw [hd, hk', <- hy]
        rfl
       have HCON := Hd hcon; have HMIX2 := Hd hmix2; have HNODE := Hd hnode; have HY := Hd hy; clear hcon hmix2 hnode hy hd hk' hd0 hd1 hyd hbdy hN
       go_wp2_with (first
        | (go_at_call 82; refine HCON.out.mono ?_; rintro e w4 ⟨rfl, hT4⟩
           have n4 := hT4.node; have e15 : w4.cell? ⟨a.b, 15, none⟩ = some (.slice pa L.length pc) := n4.blk.cell (by omega)
           have hnum := n4.pass; have HT4 := Hd hT4; clear hT4 n4))
       obtain ⟨p, hpa⟩ : ∃ p, pa = some p := by
        rcases Option.eq_none_or_eq_some pa with e | e
        · have := (HPN.out e).1; rw [this] at hi2; simp at hi2; omega
        · exact e
       subst hpa; obtain ⟨pb, po, psp⟩ := p; obtain ⟨cur, hg, hsp, hoc, hcs⟩ := hnum.2.2 _ rfl; simp only at hsp; subst hsp; have HNUM := Hd hnum; simp only at hg hoc hcs; have ci : w4.cell? ⟨pb, po + j1, none⟩ = some (.int .i64 (L.getD j1 0)) := by rw [Ka hg]; exact hcs _ _ (by rw [List.getD_eq_getElem?_getD, List.getElem?_eq_getElem hjL]; rfl)
       have cd : w4.cell? ⟨pb, po + d, none⟩ = some (.int .i64 (L.getD d 0)) := by rw [Ka hg]; exact hcs _ _ (by rw [List.getD_eq_getElem?_getD, List.getElem?_eq_getElem (by omega)]; rfl)
       have fp := Kr hg; have HG := Hd hg; have hdL : d < L.length := by omega
       clear hnum hcs hoc hg; obtain ⟨vi, hvi⟩ : ∃ vi, L.getD j1 0 = vi := ⟨_, rfl⟩; obtain ⟨vd, hvd⟩ : ∃ vd, L.getD d 0 = vd := ⟨_, rfl⟩; rw [hvi] at ci; rw [hvd] at cd; have HVI := Hd hvi; have HVD := Hd hvd; clear hvi hvd; have hg1 := Kf (i := po + j1) (v := .int .i64 vd) HG.out; have ccur : cur[po + d]? = some (.int .i64 vd) := by rw [<- Ka HG.out]; exact cd
       have cd2 : (w4.setCell ⟨pb, po + j1, none⟩ (.int .i64 vd)).cell? ⟨pb, po + d, none⟩ = some (.int .i64 vd) := by
        rw [Ka hg1, Array.getElem?_setIfInBounds]; by_cases e : po + j1 = po + d
        · rw [if_pos e, if_pos]
          rcases Nat.lt_or_ge (po + j1) cur.size with h' | h'
          · exact h'
          · rw [<- e, Array.getElem?_eq_none h'] at ccur; cases ccur
        · rw [if_neg e]; exact ccur
       have fd2 := Kr hg1; clear hg1 ccur; have hdL0 : d < L0.length := by omega
       have hjL0 : j1 < L0.length := by omega
       go_region
       all_goals
        go_wp2; go_roundw
        case rel =>
         have hsw := nums_swap (i := j1) (j := d) HNUM.out hjL hdL; rw [HVI.out, HVD.out] at hsw; have hc : Chg (fun j _ => j = pb) w4 (((w4.setCell ⟨pb, po + j1, none⟩ (.int .i64 vd)).setCell ⟨pb, po + d, none⟩ (.int .i64 vi)).drew) := (((Chg.refl _ w4).setCell _ (fun _ _ => rfl)).setCell _ (fun _ _ => rfl)).drew
         obtain ⟨cs, hcs⟩ := HT4.out.node.blk.block; have hne : pb ≠ a.b := fun e => cells_ne HG.out hcs (by decide) e
         have hbl : NB (((w4.setCell ⟨pb, po + j1, none⟩ (.int .i64 vd)).setCell ⟨pb, po + d, none⟩ (.int .i64 vi)).drew) a.b (nodeF (a.atPass (some ⟨pb, po, none⟩) pc) ov { x with at_ := k', pass := swapL L j1 d }) := by
          have h1 := ((HT4.out.node.blk.other hne (i := po + j1) (.int .i64 vd)).other hne (i := po + d) (.int .i64 vi)).drew; refine h1.congr ?_; rw [<- HY.out]
          have e15 : nodeF (a.atPass (some ⟨pb, po, none⟩) pc) ov { x with at_ := k', pass := L } 15 = nodeF (a.atPass (some ⟨pb, po, none⟩) pc) ov { x with at_ := k', pass := swapL L j1 d } 15 := by
           show Value.slice _ L.length _ = Value.slice _ (swapL L j1 d).length _
           rw [swapL_len]
          intro i hi; by_cases e : i = 15
          · subst e; exact e15
          · rcases i with _ | _ | _ | _ | _ | _ | _ | _ | _ | _ | _ | _ | _ | _ | _ | _ | _ | _ | _ | _ | _ | _ | _ | _ | _ | _ | _ | i <;> first | rfl | exact absurd rfl e | exact absurd hi (by omega)
         have hN5 : NodeAt (((w4.setCell ⟨pb, po + j1, none⟩ (.int .i64 vd)).setCell ⟨pb, po + d, none⟩ (.int .i64 vi)).drew) (a.atPass (some ⟨pb, po, none⟩) pc) ov { x with at_ := k', pass := swapL L j1 d } := by
          have h4 := HT4.out.node; rw [<- HY.out] at h4; have := h4.setPass (some ⟨pb, po, none⟩) pc (swapL L j1 d) (fun q hq => .inl hq) (fun j hj hl => Kn hc j (fun e => hj (.inr (by rw [e]; rfl))) hl) hbl (by rw [swapL_len]; exact hsw.heap (fun _ _ => rfl)) (fun e => by cases e)
          exact this
         have hT5 : Turned ov w4 (a.atPass (some ⟨pb, po, none⟩) pc) { x with at_ := k', pass := L } (((w4.setCell ⟨pb, po + j1, none⟩ (.int .i64 vd)).setCell ⟨pb, po + d, none⟩ (.int .i64 vi)).drew) (a.atPass (some ⟨pb, po, none⟩) pc) { x with at_ := k', pass := swapL L j1 d } :=
          ⟨hN5, hc.mono (fun j _ _ e => by have e : j = pb := e; subst e; exact .inr (.inr (.inr (.inr (.inr (.inr (.inr (.inl rfl)))))))), fun _ hq => .inl hq, rfl⟩
         have hT4 := HT4.out; rw [<- HNODE.out, <- HY.out] at hT4; refine ⟨(j1 : Int) - 1, swapL L j1 d, k', rfl, by omega, by omega, by rw [swapL_len]; exact hLL, by omega, by rw [show ((j1 : Int) - 1).toNat = j1 - 1 by omega]; exact HMIX2.out, (HT.out.then hT4).then hT5⟩
        case measure => simp [intOf]; omega
     · have hi0 : i.toNat = 0 := by omega
       have hmx := HMIX.out; rw [hi0] at hmx; have hmx' : ((L, { x with at_ := k }) : List Int × Nd) = Nd.mix (L0.length - 1) L0 x := hmx; have e : x.newPass = { x with at_ := k, pass := L } := by rw [HNP.out, <- hmx']
       have HE := Hd e; clear hmx hmx' e; go_wp2; go_meet
       case rel => exact ⟨_, by rw [HE.out]; exact HT.out⟩
  · have hpl : ((x.pass.length : Int) == 0) = false := by
     simp only [beq_eq_false_iff_ne, ne_eq]; intro e; exact hp (List.eq_nil_of_length_eq_zero (by omega))
    have e : x.newPass = x := by unfold Nd.newPass; rw [if_neg hp]
    have HE := Hd e; clear hp e; go_wp2; go_meet
    case rel => exact ⟨a, by rw [HE.out]; exact Turned.refl H.out⟩
 case rest =>
  obtain ⟨a1, hT1⟩ := hcut; obtain ⟨hokp, hbdp, _⟩ := newPass_all HO.out HBD.out; have hS1 := St.turned H.out HOUT.out hT1
  have hbeg : x.begins = match x.newPass.pass with
   | [] => ([], x.newPass)
   | t :: rest => ([(t, Nd.msg { x.newPass.next with pass := rest, probe := some ⟨t, x.newPass.seq + 1, x.newPass.clock, false⟩ } ⟨1, 0, 0, x.newPass.seq + 1, t, []⟩)], Nd.sent { x.newPass.next with pass := rest, probe := some ⟨t, x.newPass.seq + 1, x.newPass.clock, false⟩ } ⟨1, 0, 0, x.newPass.seq + 1, t, []⟩) := rfl
  obtain ⟨y, hy⟩ : ∃ y, x.newPass = y := ⟨_, rfl⟩; rw [hy] at hokp hbdp hS1 hbeg hT1; clear hy; have hb1 : a1.b = a.b := hT1.b; have HS1 := Hd hS1; have HOK := Hd hokp; have HBP := Hd hbdp; have HB1 := Hd hb1; have hsz1 := hT1.chg.size; have n15 : wc.cell? ⟨a.b, 15, none⟩ = some (.slice a1.pa y.pass.length a1.pc) := by rw [<- hb1]; exact hT1.node.blk.cell (by omega)
  have n13 : wc.cell? ⟨a.b, 13, none⟩ = some (.int .i64 y.clock) := by rw [<- hb1]; exact hT1.node.blk.cell (by omega)
  clear hokp hbdp hS1 hT1 hb1; cases hpp : y.pass with
  | nil =>
   rw [hpp] at hbeg n15; have HBEG := Hd hbeg; clear hbeg hpp; go_wp2
   ((try simp only [Exit.inBlock, Exit.then]); first | refine bodyPost_ret (results_none rfl _ _ _) rfl ?_ | refine bodyPost_end (results_none rfl _ _ _) rfl ?_)
   rw [HBEG.out]; exact Does.of (by rw [List.append_nil]; exact HS1.out)
  | cons t rest =>
   rw [hpp] at hbeg n15; have HBEG := Hd hbeg; have hnums := HS1.out.node.pass; rw [hpp] at hnums
   obtain ⟨p, hpa⟩ : ∃ p, a1.pa = some p := by
    rcases Option.eq_none_or_eq_some a1.pa with e | e
    · have := (HS1.out.node.pass0 e).1; rw [hpp] at this; cases this
    · exact e
   obtain ⟨pb, po, psp⟩ := p; rw [hpa] at hnums n15; obtain ⟨cur, hg, hsp, hoc, hcs⟩ := hnums.2.2 _ rfl; simp only at hsp; subst hsp; simp only at hg hoc hcs
   have ct : wc.cell? ⟨pb, po, none⟩ = some (.int .i64 t) := by
    rw [Ka hg]; have := hcs 0 t rfl
    rwa [Nat.add_zero] at this
   have hpl : 0 < rest.length + 1 := by omega
   simp only [List.length_cons] at n15 hnums; have HNUM := Hd hnums; have HG := Hd hg; have HPA := Hd hpa; have HPP := Hd hpp; have HCS := Hd hcs; have hsq := HBP.out.seq; have hcon := next_any (x := y) (by omega) a1 ov wc.drew (HS1.out.drewN 1).node
   rw [HB1.out] at hcon; have HCON := Hd hcon; clear hbeg hg hpa hpp hcs hnums hcon; go_wp2; go_cut [] (fun wx => ∃ w3, Turned ov wc.drew a1 y w3 a1 y.next /\ wx = (w3.alloc (.cells #[.int .i64 t, .int .i64 (y.seq + 1), .int .i64 y.clock, .bool false] 176)).setCell ⟨a.b, 16, none⟩ (.pointer (some ⟨w3.heap.size, 0, none⟩)))
   case first =>
    go_region_law (first
     | (go_simp; go_at_call 59; refine HCON.out.mono ?_; rintro e w3 ⟨rfl, hT3⟩
        have m15 : w3.cell? ⟨a.b, 15, none⟩ = some (.slice (some ⟨pb, po, none⟩) (rest.length + 1) a1.pc) := by rw [<- HB1.out, hT3.node.blk.cell (by omega)]; simp only [nodeF]; rw [HPA.out]; show some (Value.slice _ y.pass.length _) = _; rw [HPP.out]; rfl
        have m13 : w3.cell? ⟨a.b, 13, none⟩ = some (.int .i64 y.clock) := by rw [<- HB1.out]; exact hT3.node.blk.cell (by omega)
        have m16 : ∀ o, (w3.alloc o).cell? ⟨a.b, 16, none⟩ = some (prbV a1 y.probe) := fun o => by rw [<- HB1.out]; exact (hT3.node.blk.alloc o).cell (by omega)
        have mf16 : ∀ o, (w3.alloc o).frozen? ⟨a.b, 16, none⟩ = false := fun o => by rw [<- HB1.out]; exact (hT3.node.blk.alloc o).free 16
        have mt : w3.cell? ⟨pb, po, none⟩ = some (.int .i64 t) := pass_cell hT3.node HPA.out HPP.out; have HT3 := Hd hT3; clear hT3))
    all_goals
     go_wp2; go_meet
     case rel => exact ⟨w3, HT3.out, rfl⟩
   case rest =>
    obtain ⟨w3, hT3, rfl⟩ := hcut; have hSz := (HS1.out.drewN 1).trans (St.turned (HS1.out.drewN 1).node (HS1.out.drewN 1).out hT3); obtain ⟨w5, hw5⟩ : ∃ w5, (w3.alloc (.cells #[.int .i64 t, .int .i64 (y.seq + 1), .int .i64 y.clock, .bool false] 176)).setCell ⟨a.b, 16, none⟩ (.pointer (some ⟨w3.heap.size, 0, none⟩)) = w5 := ⟨_, rfl⟩
    have hT5 : Turned ov w3 a1 y.next w5 (a1.atPrb w3.heap.size) { y.next with probe := some ⟨t, y.seq + 1, y.clock, false⟩ } := by
     have hc : Chg (fun j _ => j = a1.b) w3 w5 := by rw [<- hw5, <- HB1.out]; exact ((Chg.refl _ w3).alloc _).setCell _ (fun _ _ => rfl)
     have hlt := hT3.node.blk.lt
     have hp5 : w5.heap[w3.heap.size]? = some (.cells (prbCells ⟨t, y.seq + 1, y.clock, false⟩) 176 (0, 0)) := by
      rw [<- hw5, Kj _ _ _ _ _ (by rw [HB1.out] at hlt; omega)]; exact Kc w3 _
     have hb5 : NB w5 a1.b (nodeF (a1.atPrb w3.heap.size) ov { y.next with probe := some ⟨t, y.seq + 1, y.clock, false⟩ }) := by
      rw [<- hw5, <- HB1.out]; exact ((hT3.node.blk.alloc _).set (i := 16) (by omega) (.pointer (some ⟨w3.heap.size, 0, none⟩))).congr (by (intro i hi; rcases i with _ | _ | _ | _ | _ | _ | _ | _ | _ | _ | _ | _ | _ | _ | _ | _ | _ | _ | _ | _ | _ | _ | _ | _ | _ | _ | _ | i <;> first | rfl | exact absurd hi (by omega)))
     refine ⟨hT3.node.setPrb ⟨t, y.seq + 1, y.clock, false⟩ w3.heap.size (.inr (Nat.le_refl _)) (fun j hj hl => Kn hc j (fun e => hj (.inl e)) hl) hb5 hp5, hc.mono (fun _ _ _ e => .inl e), fun k hk => ?_, rfl⟩
     rcases hk with e | e | e | e | e | e | e | e | ⟨_, e⟩ | e
     · exact .inl (.inl e)
     · exact .inl (.inr (.inl e))
     · exact .inl (.inr (.inr (.inl e)))
     · exact .inl (.inr (.inr (.inr (.inl e))))
     · exact .inl (.inr (.inr (.inr (.inr (.inl e)))))
     · exact .inl (.inr (.inr (.inr (.inr (.inr (.inl e))))))
     · exact .inl (.inr (.inr (.inr (.inr (.inr (.inr (.inl e)))))))
     · exact .inl (.inr (.inr (.inr (.inr (.inr (.inr (.inr (.inl e))))))))
     · exact .inr (by rw [e]; exact Nat.le_refl _)
     · exact .inl (.inr (.inr (.inr (.inr (.inr (.inr (.inr (.inr (.inr e)))))))))
    rw [hw5]; have hS5 := hSz.trans (St.turned hSz.node hSz.out hT5); have hb5 : (a1.atPrb w3.heap.size).b = a.b := HB1.out; have hsz5 : B <= w5.heap.size := by have := hS5.chg.size; omega
    have m15 : w5.cell? ⟨a.b, 15, none⟩ = some (.slice (some ⟨pb, po, none⟩) (rest.length + 1) a1.pc) := by
     rw [<- hb5, hS5.node.blk.cell (by omega)]
     show some (Value.slice a1.pa y.pass.length _) = _
     rw [HPA.out, HPP.out]; rfl
    have mf15 : w5.frozen? ⟨a.b, 15, none⟩ = false := by rw [<- hb5]; exact hS5.node.blk.free 15
    have HS5 := Hd hS5; have HB5 := Hd hb5; have hpc : 1 <= a1.pc := by have := HNUM.out.2.1; omega
    clear hw5 hT5 hSz hT3 hS5 hb5; obtain ⟨pa', hpa'⟩ : ∃ pa', (if a1.pc = 1 then some ⟨pb, po, none⟩ else some ⟨pb, po + 1, none⟩ : Option Addr) = pa' := ⟨_, rfl⟩; have hT6 := turned_cut HS5.out.node HPA.out HPP.out hpa'; rw [HB5.out] at hT6; obtain ⟨w6, hw6⟩ : ∃ w6, w5.setCell ⟨a.b, 15, none⟩ (.slice pa' rest.length (a1.pc - 1)) = w6 := ⟨_, rfl⟩; have hT6' : Turned ov w5 (a1.atPrb w3.heap.size) { y.next with probe := some ⟨t, y.seq + 1, y.clock, false⟩ } w6 ((a1.atPrb w3.heap.size).atPass pa' (a1.pc - 1)) { y.next with probe := some ⟨t, y.seq + 1, y.clock, false⟩, pass := rest } := by rw [<- hw6]; exact hT6
    have hS6 := HS5.out.trans (St.turned HS5.out.node HS5.out.out hT6'); have m16 : w6.cell? ⟨a.b, 16, none⟩ = some (.pointer (some ⟨w3.heap.size, 0, none⟩)) := by rw [<- HB5.out]; exact hS6.node.blk.cell (by omega)
    have hpb := hS6.node.prb _ rfl; have k0 := Ka hpb 0; have k1 := Ka hpb 1; simp only [prbCells, Ad.atPass, Ad.atPrb, List.getElem?_toArray, List.getElem?_cons_succ, List.getElem?_cons_zero] at k0 k1; have hsz6 : B <= w6.heap.size := by have := hS6.chg.size; omega
    have hin : ∀ n ∈ t :: rest, n ∈ Zf y.others := fun n hn => HOK.out.pin n (by rw [HPP.out]; exact hn)
    have hokz : Ok { y.next with probe := some ⟨t, y.seq + 1, y.clock, false⟩, pass := rest } := by
     have ht : idOk t := HOK.out.ids_ok (hin t (by simp))
     have hcl := HBP.out.clock
     exact { HOK.out.next with
             pin := fun n hn => hin n (List.mem_cons_of_mem _ hn)
             pnd := by have := HOK.out.pnd; rw [HPP.out, List.length_cons] at this; show rest.length <= 7; omega
             prb := fun p hp => by
              cases hp
              exact ⟨ht, ⟨by show 1 <= y.seq + 1; omega, Int.le_refl _⟩, hcl.1, Int.le_refl _⟩ }
    have HPA' := Hd hpa'; have HW6 := Hd hw6; have HS6 := Hd hS6; have HOKZ := Hd hokz; clear hpa' hw6 hT6 hT6' hS6 hpb hin hokz; go_upto_region 10 with (fail); rw [HPA'.out, HW6.out]
    (refine Jj 23 (by kernel_rfl) (by kernel_rfl) ?_; simp only [List.take_succ_cons, List.take_zero, List.drop_succ_cons, List.drop_zero])
    iterate 23 still_step
    refine wpStill_nil ?_
    go_wp2_with (first
     | (go_at_call 58
        have hh := send_low HOKZ.out ((a1.atPrb w3.heap.size).atPass pa' (a1.pc - 1)) ov B ps w6.drew (HS6.out.drewN 1).node (HS6.out.drewN 1).out hsz6 hps t 1 0 0 (y.seq + 1) t (by omega)
        have hbb : ((a1.atPrb w3.heap.size).atPass pa' (a1.pc - 1)).b = a.b := HB5.out; rw [hbb] at hh; refine hh.mono ?_; rintro e w7 ⟨rfl, ov7, hT7⟩))
    ((try simp only [Exit.inBlock, Exit.then]); first | refine bodyPost_ret (results_none rfl _ _ _) rfl ?_ | refine bodyPost_end (results_none rfl _ _ _) rfl ?_)
    rw [HBEG.out]; exact Does.of ((HS6.out.drewN 1).trans hT7)
def Cfg.v (c : Cfg) : Value := .agg #[.int .i64 c.self, .int .i64 c.period, .int .i64 c.wait, .int .i64 c.susp, .int .i64 c.prox, .int .i64 c.sends]
theorem key_bytes : ∃ i, Tryz.prog.info? 76 = some i /\ i.bytes = 24 := by
 have h : (Tryz.prog.info? 76).map (·.bytes) = some 24 := by kernel_rfl
 obtain ⟨i, hi, hb⟩ := Option.map_eq_some_iff.1 h; exact ⟨i, hi, hb⟩
theorem make_events (w : World) : (Instr.makeChan 125 (.int .i64 8)).run Tryz.prog w = .ok (.chan (some w.heap.size)) (w.alloc (.chan 8 #[] false 0 0 false)) := by
 obtain ⟨i, hi, hb⟩ := key_bytes
 simpa using Conc.run_makeChan (P := Tryz.prog) (w := w) Tryz.underlying125 hi .i64 8 (by omega) (by rw [hb]; omega)
theorem newsNew_any (n : Int) (w : World) :
  Calls Tryz.prog 119 #[.int .i64 n] w fun e w' => e = .returned (.pointer (some ⟨w.heap.size + 1, 0, none⟩)) /\ w' = ((w.alloc (.map #[] 0)).alloc (.cells #[.int .i64 n, .map (some w.heap.size)] 211)) := by
 have hmm := @run_makeMap Tryz.prog; go_enter Tryz.func119, Tryz.ntmps119; go_wp2; go_ret
 exact ⟨rfl, rfl⟩
structure DrawsAt (w : World) (B : Nat) (ds : List Int) (w1 w2 : Nat) (da : Option Addr) (dc : Nat) : Prop where
 box1 : w.heap[w1]? = some (.cells #[.slice da ds.length dc] 24 (0, 0))
 box2 : w.heap[w2]? = some (.cells #[.int .i64 0] 3 (0, 0))
 row : w.ownsRow B 3 1 (.slice da ds.length dc) ds.length (ds.map (Value.int .i64))
 ne : (Value.slice da ds.length dc).ownBlock ≠ some w2
 low1 : B <= w1
 low2 : B <= w2
theorem DrawsAt.below {w w' : World} {B w1 w2 dc : Nat} {ds : List Int} {da : Option Addr} (h : DrawsAt w B ds w1 w2 da dc) (hb : Below w.heap.size w w') : DrawsAt w' B ds w1 w2 da dc :=
 ⟨(hb.block _ (Kb h.box1)).trans h.box1, (hb.block _ (Kb h.box2)).trans h.box2, Ju h.row (fun k hk => hb.block k (h.row.lt k hk).2), h.ne, h.low1, h.low2⟩
def funV (w1 w2 : Nat) : Value := .func (.func 82) #[] #[.pointer (some ⟨w1, 0, none⟩), .pointer (some ⟨w2, 0, none⟩)]
theorem draws_any (ds : List Int) (da : Option Addr) (n c : Nat) (w : World) (hn : ds.length = n) (hl : n < 1000000) (hd : Ki w da (ds.map (Value.int .i64))) :
  Calls Tryz.prog 55 #[.slice da n c] w fun e w' => ∃ w1 w2 da' dc, e = .returned (funV w1 w2) /\ DrawsAt w' w.heap.size ds w1 w2 da' dc /\ Below w.heap.size w w' := by
 have HD := Hd hd; have HN := Hd hn; have hkl : (ds.map (Value.int .i64)).length = n * 1 := by rw [List.length_map]; omega
 have HKL := Hd hkl
 have h1c : ∀ u ∈ ds.map (Value.int .i64), u.oneCell' = true := by
  intro u hu; obtain ⟨x, _, rfl⟩ := List.mem_map.1 hu
  rfl
 have H1C := Hd h1c; have k3 : 0 + n <= maxLen := by unfold maxLen; omega
 have K3 := Hd k3; obtain ⟨i0, hi, hz0, hz1, hz2⟩ := info_parts info_int; clear hd hn hkl h1c k3; go_enter Tryz.func55, Tryz.ntmps55; go_wp2_with (at_builtin; refine Km _ rfl _ _ 24 rfl w.heap.size 3 i0 _ 1 8 Tryz.underlying24 hi hz0 hz1 hz2 rfl (by decide) (.slice none 0 0) 0 [] rfl (World.ownsRow_nil _ _ _ _) da n c _ rfl HKL.out HD.out H1C.out K3.out (by omega) (Nat.le_refl _) ?_)
 intro a7 c7 w2 hl2 hto2
 try simp only [Nat.zero_add, List.nil_append] at hl2
 have HL2 := Hd hl2; have HG2 := Hd hto2.grown; clear hl2 hto2; go_wp2; go_ret
 have hsz := HG2.out.size; refine ⟨_, _, a7, c7, rfl, ⟨by rw [HN.out]; exact Kp _ (Kc w2 _), Jh _ _ (by simp), by rw [HN.out]; exact (HL2.out.alloc _).alloc _, fun e => ?_, hsz, by omega⟩, ((((Below.refl w.heap.size w).grown HG2.out (Nat.le_refl _) (fun j hj => by cases hj)).alloc hsz _).alloc (by simp; omega) _)⟩
 rw [HN.out] at e; have := (HL2.out.lt _ e).2; omega
theorem mapAt_nil {t : TypeId} {w : World} {b : Nat} (h : w.heap[b]? = some (.map #[] 0)) : Kw Tryz.prog t w b [] := by
 obtain ⟨D, ⟨es, clock, hb, r⟩, hD⟩ := Kw.made (P := Tryz.prog) (kT := t) w; rw [Kc] at hb; simp only [Option.some.injEq, Obj.map.injEq] at hb; obtain ⟨rfl, rfl⟩ := hb; exact ⟨D, ⟨_, _, h, r⟩, hD⟩
theorem four_1 (w : World) (o1 o2 o3 o4 : Obj) : ((((w.alloc o1).alloc o2).alloc o3).alloc o4).heap[w.heap.size]? = some o1 := Kp _ (Kp _ (Kp _ (Kc w o1)))
theorem four_2 (w : World) (o1 o2 o3 o4 : Obj) : ((((w.alloc o1).alloc o2).alloc o3).alloc o4).heap[w.heap.size + 1]? = some o2 := Kp _ (Kp _ (Jh _ _ (by simp)))
theorem four_3 (w : World) (o1 o2 o3 o4 : Obj) : ((((w.alloc o1).alloc o2).alloc o3).alloc o4).heap[w.heap.size + 1 + 1]? = some o3 := Kp _ (Jh _ _ (by simp))
theorem four_4 (w : World) (o1 o2 o3 o4 : Obj) : ((((w.alloc o1).alloc o2).alloc o3).alloc o4).heap[w.heap.size + 1 + 1 + 1]? = some o4 := Jh _ _ (by simp)
theorem four_below (w : World) (o1 o2 o3 o4 : Obj) : Below w.heap.size w ((((w.alloc o1).alloc o2).alloc o3).alloc o4).drew := (((((Below.refl _ _).alloc (Nat.le_refl _) _).alloc (by simp) _).alloc (by simp; omega) _).alloc (by simp; omega) _).drew
theorem node_new {W : World} {c : Cfg} {ds : List Int} {B b bo bq bm bc br w1 w2 dc : Nat} {da : Option Addr} (hfit : ∀ v ∈ ds, fitsI v) (hd : DrawsAt W B ds w1 w2 da dc)
  (hb : NB W b (nodeF ⟨b, bo, bq, bm, bc, br, fun _ => 0, none, 0, 0, w1, w2, da, dc⟩ (.slice none 0 0) (Nd.new c ds))) (ho : W.heap[bo]? = some (.map #[] 0)) (hr : W.heap[br]? = some (.map #[] 0)) (hm : W.heap[bm]? = some (.map #[] 0)) (hc : W.heap[bc]? = some (.chan 8 #[] false 0 0 false))
  (hq : W.heap[bq]? = some (.cells #[.int .i64 c.sends, .map (some bm)] 211 (0, 0))) (n1 : bo ≠ bm) (n2 : bm ≠ br) (n3 : bo ≠ br) :
  NodeAt W ⟨b, bo, bq, bm, bc, br, fun _ => 0, none, 0, 0, w1, w2, da, dc⟩ (.slice none 0 0) (Nd.new c ds) := by
 obtain ⟨_, hn, h0⟩ := nums_of_row hd.row
 exact
  { blk := hb
    others := mapAt_nil ho
    mems := fun m hm => by simp [Nd.new] at hm
    minj := fun m hm => by simp [Nd.new] at hm
    queue := hq
    news := mapAt_nil hm
    chan := ⟨0, 0, hc⟩
    pass := ⟨rfl, Nat.le_refl _, fun p hp => by cases hp⟩
    pass0 := fun _ => ⟨rfl, rfl⟩
    prb := fun p hp => by simp [Nd.new] at hp
    relays := mapAt_nil hr
    box1 := hd.box1
    box2 := hd.box2
    ds := hn
    ds0 := h0
    dfit := hfit
    ne1 := n1
    ne2 := n2
    ne3 := n3
    ne4 := fun e => by simp [Value.ownBlock] at e
    ne5 := hd.ne
    ne6 := fun k e => by simp [Value.ownBlock] at e }
theorem owns_new {c : Cfg} {ds : List Int} {B b bo bq bm bc br w1 w2 dc : Nat} {da : Option Addr} {W : World} (hd : DrawsAt W B ds w1 w2 da dc) (h1 : B <= b) (h2 : B <= bo) (h3 : B <= bq) (h4 : B <= bm) (h5 : B <= bc) (h6 : B <= br) :
  ∀ k, Zh ⟨b, bo, bq, bm, bc, br, fun _ => 0, none, 0, 0, w1, w2, da, dc⟩ (Nd.new c ds) k -> B <= k := by
 intro k hk; rcases hk with e | e | e | e | e | e | ⟨m, hm, _⟩ | e | ⟨e, _⟩ | e | e | e
 · rw [e]; exact h1
 · rw [e]; exact h2
 · rw [e]; exact h3
 · rw [e]; exact h4
 · rw [e]; exact h5
 · rw [e]; exact h6
 · simp [Nd.new] at hm
 · simp [Value.ownBlock] at e
 · simp [Nd.new] at e
 · rw [e]; exact hd.low1
 · rw [e]; exact hd.low2
 · exact (hd.row.lt k e).1
theorem nodeNew_any (c : Cfg) (_ : cfgB c = true) (ds : List Int) (hfit : ∀ v ∈ ds, fitsI v) (B w1 w2 dc : Nat) (da : Option Addr) (w : World) (hd : DrawsAt w B ds w1 w2 da dc) (hB : B <= w.heap.size) :
  Calls Tryz.prog 81 #[.agg #[.int .i64 c.self, .int .i64 c.period, .int .i64 c.wait, .int .i64 c.susp, .int .i64 c.prox, .int .i64 c.sends], .func (.func 82) #[] #[.pointer (some ⟨w1, 0, none⟩), .pointer (some ⟨w2, 0, none⟩)]] w fun e w' =>
   ∃ a ov, e = .returned (.pointer (some ⟨a.b, 0, none⟩)) /\ NodeAt w' a ov (Nd.new c ds) /\ (∀ k, Zh a (Nd.new c ds) k -> B <= k) /\ Below w.heap.size w w' := by
 have hmm := @run_makeMap Tryz.prog; have hmc := make_events; go_enter Tryz.func81, Tryz.ntmps81; go_wp2_with (go_at_call 119; refine (newsNew_any c.sends _).mono ?_; rintro e w4 ⟨rfl, hw4⟩; have HW4 := Hd hw4; clear hw4)
 have hw4 := HW4.out; have e1 : (w.alloc (.cells #[.int .i64 c.self, .int .i64 c.period, .int .i64 c.wait, .int .i64 c.susp, .int .i64 c.prox, .int .i64 c.sends] 82)).heap.size = w.heap.size + 1 := by simp
 rw [e1] at hw4; have hq4 : w4.heap[w.heap.size + 2]? = some (.cells #[.int .i64 c.sends, .map (some (w.heap.size + 1))] 211 (0, 0)) := by rw [hw4]; exact Jh _ _ (by simp)
 have hm4 : w4.heap[w.heap.size + 1]? = some (.map #[] 0) := by rw [hw4]; exact Kp _ (Jh _ _ (by simp))
 have hc4 : w4.heap[w.heap.size]? = some (.cells #[.int .i64 c.self, .int .i64 c.period, .int .i64 c.wait, .int .i64 c.susp, .int .i64 c.prox, .int .i64 c.sends] 82 (0, 0)) := by rw [hw4]; exact Kp _ (Kp _ (Kc w _))
 have hb4 : Below w.heap.size w w4 := by rw [hw4]; exact (((Below.refl _ _).alloc (Nat.le_refl _) _).alloc (by simp) _).alloc (by simp; omega) _
 have hs4 : w4.heap.size = w.heap.size + 3 := by rw [hw4]; simp
 have hS : ∀ w' : World, w'.heap[w.heap.size]? = some (.cells #[.int .i64 c.self, .int .i64 c.period, .int .i64 c.wait, .int .i64 c.susp, .int .i64 c.prox, .int .i64 c.sends] 82 (0, 0)) -> (w'.cell? ⟨w.heap.size, 0, none⟩ = some (.int .i64 c.self) /\ w'.cell? ⟨w.heap.size, 1, none⟩ = some (.int .i64 c.period) /\ w'.cell? ⟨w.heap.size, 2, none⟩ = some (.int .i64 c.wait) /\ w'.cell? ⟨w.heap.size, 3, none⟩ = some (.int .i64 c.susp) /\ w'.cell? ⟨w.heap.size, 4, none⟩ = some (.int .i64 c.prox) /\ w'.cell? ⟨w.heap.size, 5, none⟩ = some (.int .i64 c.sends)) := fun w' h => by
  refine ⟨?_, ?_, ?_, ?_, ?_, ?_⟩ <;> (rw [Ka h]; rfl)
 have HS := Hd hS; have HC4 := Hd hc4; have HM4 := Hd hm4; have HQ4 := Hd hq4; have HB4 := Hd hb4; have HSZ := Hd hs4; have HD := Hd (hd.below (hb4.mono (Nat.le_refl _))); have hq : (w.alloc (.cells #[.int .i64 c.self, .int .i64 c.period, .int .i64 c.wait, .int .i64 c.susp, .int .i64 c.prox, .int .i64 c.sends] 82)).heap.size + 1 = w.heap.size + 2 := by simp
 clear hw4 hq4 hm4 hc4 hb4 hs4 hS hd
 go_cut [6] (fun s6 wx => ∃ bo bc br b, s6 = .pointer (some ⟨b, 0, none⟩) /\ wx.heap[bo]? = some (.map #[] 0) /\ wx.heap[br]? = some (.map #[] 0) /\ wx.heap[bc]? = some (.chan 8 #[] false 0 0 false) /\
  wx.heap[b]? = some (.cells #[.int .i64 c.self, .int .i64 c.period, .int .i64 c.wait, .int .i64 c.susp, .int .i64 c.prox, .int .i64 c.sends, funV w1 w2, .int .i64 c.self, .int .i64 1, .int .i64 1, .map (some bo), .pointer (some ⟨w.heap.size + 2, 0, none⟩), .chan (some bc), .int .i64 0, .int .i64 0, .slice none 0 0, .pointer none, .map (some br), .int .i64 0, .int .i64 0, .slice none 0 0, .nilFunc, .nilFunc, .nilFunc, .nilFunc, .nilFunc, .nilFunc] 131 (0, 0)) /\ bo ≠ br /\ w.heap.size + 3 <= bo /\ w.heap.size + 3 <= br /\ w.heap.size + 3 <= bc /\ w.heap.size + 3 <= b /\ Below w4.heap.size w4 wx)
 case first =>
  go_region_held3 (fun w' => w'.cell? ⟨w.heap.size, 0, none⟩ = some (.int .i64 c.self) /\ w'.cell? ⟨w.heap.size, 1, none⟩ = some (.int .i64 c.period) /\ w'.cell? ⟨w.heap.size, 2, none⟩ = some (.int .i64 c.wait) /\ w'.cell? ⟨w.heap.size, 3, none⟩ = some (.int .i64 c.susp) /\ w'.cell? ⟨w.heap.size, 4, none⟩ = some (.int .i64 c.prox) /\ w'.cell? ⟨w.heap.size, 5, none⟩ = some (.int .i64 c.sends))
   (first | exact HS.out _ HC4.out | exact HS.out _ (Kp _ HC4.out) | exact HS.out _ (Kp _ (Kp _ HC4.out)) | exact HS.out _ (Kp _ (Kp _ (Kp _ HC4.out))) | exact HS.out _ (Kp _ (Kp _ (Kp _ (Kp _ HC4.out)))))
   ((fail))
  all_goals
   go_wp2; go_meet
   case rel =>
    have hz := HSZ.out; refine ⟨_, _, _, _, rfl, ?_, ?_, ?_, four_4 w4 _ _ _ _, ?_⟩
    · first | exact four_1 w4 _ _ _ _ | exact four_2 w4 _ _ _ _ | exact four_3 w4 _ _ _ _
    · first | exact four_1 w4 _ _ _ _ | exact four_2 w4 _ _ _ _ | exact four_3 w4 _ _ _ _
    · first | exact four_1 w4 _ _ _ _ | exact four_2 w4 _ _ _ _ | exact four_3 w4 _ _ _ _
    · exact ⟨by omega, by omega, by omega, by omega, by omega, four_below w4 _ _ _ _⟩
 case rest =>
  obtain ⟨bo, bc, br, b, rfl, ho, hr, hc', hb, hne, l1, l2, l3, l4, hB⟩ := hcut; have sc := Ka hb; have sf := Kr hb; have HO := Hd ho; have HR := Hd hr; have HC := Hd hc'; have HB := Hd hb; have HBB := Hd hB; clear ho hr hc' hb hB; go_wp2; go_ret
  have hb0 : SB 131 27 wc b (fun i => (#[.int .i64 c.self, .int .i64 c.period, .int .i64 c.wait, .int .i64 c.susp, .int .i64 c.prox, .int .i64 c.sends, funV w1 w2, .int .i64 c.self, .int .i64 1, .int .i64 1, .map (some bo), .pointer (some ⟨w.heap.size + 2, 0, none⟩), .chan (some bc), .int .i64 0, .int .i64 0, .slice none 0 0, .pointer none, .map (some br), .int .i64 0, .int .i64 0, .slice none 0 0, .nilFunc, .nilFunc, .nilFunc, .nilFunc, .nilFunc, .nilFunc] : Array Value).getD i .nilFunc) := ⟨_, HB.out, by simp, fun i hi => by
   rcases i with _ | _ | _ | _ | _ | _ | _ | _ | _ | _ | _ | _ | _ | _ | _ | _ | _ | _ | _ | _ | _ | _ | _ | _ | _ | _ | _ | i <;> first | rfl | exact absurd hi (by omega)⟩
  have hb1 := (((((hb0.set (i := 21) (by omega) .nilFunc).set (i := 22) (by omega) (boundV b 120)).set (i := 23) (by omega) (boundV b 121)).set (i := 24) (by omega) (boundV b 122)).set (i := 25) (by omega) (boundV b 123)).set (i := 26) (by omega) (.func (.func 124) #[] #[])
  have hcg := (((((((Chg.refl (fun k _ => k = b) wc).setCell (p := ⟨b, 21, none⟩) .nilFunc (fun _ _ => rfl)).setCell (p := ⟨b, 22, none⟩) (boundV b 120) (fun _ _ => rfl)).setCell (p := ⟨b, 23, none⟩) (boundV b 121) (fun _ _ => rfl)).setCell (p := ⟨b, 24, none⟩) (boundV b 122) (fun _ _ => rfl)).setCell (p := ⟨b, 25, none⟩) (boundV b 123) (fun _ _ => rfl)).setCell (p := ⟨b, 26, none⟩) (.func (.func 124) #[] #[]) (fun _ _ => rfl))
  have hz := HSZ.out; have hbl : Below w4.heap.size w4 _ := HBB.out.trans (hcg.below (by have := HBB.out.size; omega) (fun k _ e => by omega))
  have hD := HD.out.below hbl; have hap := fun (k : Nat) (hk : k ≠ b) (o : Obj) (ho : wc.heap[k]? = some o) => hcg.kept k o ho hk
  refine ⟨⟨b, bo, w.heap.size + 2, w.heap.size + 1, bc, br, fun _ => 0, none, 0, 0, w1, w2, da, dc⟩, .slice none 0 0, rfl, node_new hfit hD ?_ (hap bo (fun e => ?_) _ HO.out) (hap br (fun e => ?_) _ HR.out) (hap _ (by omega) _ ((HBB.out.block _ (by omega)).trans HM4.out)) (hap bc (fun e => ?_) _ HC.out) (hap _ (by omega) _ ((HBB.out.block _ (by omega)).trans HQ4.out)) (by omega) (by omega) hne, owns_new hD (by omega) (by omega) (by omega) (by omega) (by omega) (by omega), HB4.out.trans (hbl.mono HB4.out.size)⟩
  · exact hb1.congr (by intro i hi; rcases i with _ | _ | _ | _ | _ | _ | _ | _ | _ | _ | _ | _ | _ | _ | _ | _ | _ | _ | _ | _ | _ | _ | _ | _ | _ | _ | _ | i <;> first | rfl | exact absurd hi (by omega))
  · subst e; have := HO.out.symm.trans HB.out; simp at this
  · subst e; have := HR.out.symm.trans HB.out; simp at this
  · subst e; have := HC.out.symm.trans HB.out; simp at this
theorem gossipNew_any (c : Cfg) (hc : cfgB c = true) (ds : List Int) (hfit : ∀ v ∈ ds, fitsI v) (B w1 w2 dc : Nat) (da : Option Addr) (w : World) (hd : DrawsAt w B ds w1 w2 da dc) (hB : B <= w.heap.size) :
  Calls Tryz.prog 54 #[c.v, funV w1 w2] w fun e w' => ∃ q : Bx, q.x = Nd.new c ds /\ e = .returned (.tuple #[.pointer (some ⟨q.g, 0, none⟩), .nilIface]) /\ BxAt w' B q /\ Below w.heap.size w w' := by
 have hb := cfg_bounds hc; obtain ⟨self, per, wt, susp, prox, sends⟩ := c; simp only at hb; have wp : IntKind.i64.wrap (per - 2) = per - 2 := IntWalk.i64_in _ (by omega)
 have hnew := fun W hW hS => nodeNew_any ⟨self, per, wt, susp, prox, sends⟩ hc ds hfit B w1 w2 dc da W hW hS
 have HNEW := Hd hnew; have HD := Hd hd; clear hnew hd hc; unfold Cfg.v funV; go_enter Tryz.func54, Tryz.ntmps54; go_wp2_with (go_at_call 81; refine (HNEW.out _ (HD.out.below ((Below.refl _ _).alloc (Nat.le_refl _) _)) (by simp; omega)).mono ?_; rintro e w3 ⟨a, ov, rfl, hN, hO, hB3⟩; have HN := Hd hN; have HO := Hd hO; have HB3 := Hd hB3; clear hN hO hB3)
 have hz := HB3.out.size; simp only [World.size_alloc] at hz; refine bodyPost_ret (v := .tuple #[.pointer (some ⟨w3.heap.size, 0, none⟩), .nilIface]) (by simp [results, Tryz.results54, go_sem]) rfl ⟨⟨w3.heap.size, a, Nd.new ⟨self, per, wt, susp, prox, sends⟩ ds⟩, rfl, rfl, ⟨⟨ov, HN.out.below ((Below.refl _ _).alloc (Nat.le_refl _) _)⟩, Kc w3 _, fun e => ?_, fun k hk => ?_⟩, ?_⟩
 · exact absurd (HN.out.owns_lt e) (Nat.lt_irrefl _)
 · rcases hk with e | e
   · rw [e]; show B <= w3.heap.size; omega
   · exact HO.out k e
 · exact (((Below.refl _ _).alloc (Nat.le_refl _) _).trans (HB3.out.mono (by simp))).alloc (by omega) _
theorem plainNew_any (c : Cfg) (hc : cfgB c = true) (ds : List Int) (hfit : ∀ v ∈ ds, fitsI v) (da : Option Addr) (n cap : Nat) (w : World) (hn : ds.length = n) (hl : n < 1000000) (hd : Ki w da (ds.map (Value.int .i64))) :
  Calls Tryz.prog 32 #[c.v, .slice da n cap] w fun e w' => ∃ q : Bx, q.x = Nd.new c ds /\ e = .returned (.tuple #[.pointer (some ⟨q.g, 0, none⟩), .nilIface]) /\ BxAt w' w.heap.size q /\ Below w.heap.size w w' := by
 obtain ⟨self, per, wt, susp, prox, sends⟩ := c
 have hS : ∀ w' : World, w'.heap[w.heap.size]? = some (.cells #[.int .i64 self, .int .i64 per, .int .i64 wt, .int .i64 susp, .int .i64 prox, .int .i64 sends] 82 (0, 0)) -> (w'.cell? ⟨w.heap.size, 0, none⟩ = some (.int .i64 self) /\ w'.cell? ⟨w.heap.size, 1, none⟩ = some (.int .i64 per) /\ w'.cell? ⟨w.heap.size, 2, none⟩ = some (.int .i64 wt) /\ w'.cell? ⟨w.heap.size, 3, none⟩ = some (.int .i64 susp) /\ w'.cell? ⟨w.heap.size, 4, none⟩ = some (.int .i64 prox) /\ w'.cell? ⟨w.heap.size, 5, none⟩ = some (.int .i64 sends)) := fun w' h => by
  refine ⟨?_, ?_, ?_, ?_, ?_, ?_⟩ <;> (rw [Ka h]; rfl)
 obtain ⟨w0, hw0⟩ : ∃ w0, w.alloc (.cells #[.int .i64 self, .int .i64 per, .int .i64 wt, .int .i64 susp, .int .i64 prox, .int .i64 sends] 82) = w0 := ⟨_, rfl⟩; have h0 : w0.heap[w.heap.size]? = some (.cells #[.int .i64 self, .int .i64 per, .int .i64 wt, .int .i64 susp, .int .i64 prox, .int .i64 sends] 82 (0, 0)) := by rw [<- hw0]; exact Kc w _
 have hb0 : Below w.heap.size w w0 := by rw [<- hw0]; exact (Below.refl _ _).alloc (Nat.le_refl _) _
 have hdr := fun (W : World) (hW : W.heap = w0.heap) => draws_any ds da n cap W hn hl (by
  have h := hd.below hb0; refine h.heap (fun b off e hlt => ?_)
  rw [hW]; exact ⟨rfl, hlt⟩)
 have HS := Hd hS; have HDR0 := Hd hdr; have HC := Hd hc; have HF := Hd hfit; have HW0 := Hd hw0; have H0 := Hd h0; have HB0 := Hd hb0; clear hd hn hc hfit hS hdr hw0 h0 hb0; unfold Cfg.v; go_enter Tryz.func32, Tryz.ntmps32; go_wp2; rw [HW0.out]; go_cut [4, 5] (fun s4 s5 wx => ∃ q : Bx, q.x = Nd.new ⟨self, per, wt, susp, prox, sends⟩ ds /\ s4 = .pointer (some ⟨q.g, 0, none⟩) /\ s5 = .nilIface /\ BxAt wx w.heap.size q /\ Below w.heap.size w wx)
 case first =>
  go_region_held3 (fun w' => w'.cell? ⟨w.heap.size, 0, none⟩ = some (.int .i64 self) /\ w'.cell? ⟨w.heap.size, 1, none⟩ = some (.int .i64 per) /\ w'.cell? ⟨w.heap.size, 2, none⟩ = some (.int .i64 wt) /\ w'.cell? ⟨w.heap.size, 3, none⟩ = some (.int .i64 susp) /\ w'.cell? ⟨w.heap.size, 4, none⟩ = some (.int .i64 prox) /\ w'.cell? ⟨w.heap.size, 5, none⟩ = some (.int .i64 sends))
   (first | exact HS.out _ H0.out | exact HS.out _ ((HB.out.block _ (Kb H0.out)).trans H0.out) | exact HS.out _ ((HB3.out.block _ (Nat.lt_of_lt_of_le (Kb H0.out) HB.out.size)).trans ((HB.out.block _ (Kb H0.out)).trans H0.out)))
   ((first
    | (go_at_call 55; refine (HDR0.out _ (by rfl)).mono ?_; rintro e w2 ⟨w1, b2, da', dc, rfl, hD, hB⟩; have HDR := Hd hD; have HB : Hid (Below w0.heap.size w0 w2) := Hd ⟨hB.os, hB.tape, hB.output, hB.size, hB.block⟩; clear hD hB)
    | (go_at_call 54; refine (gossipNew_any ⟨self, per, wt, susp, prox, sends⟩ HC.out ds HF.out w0.heap.size w1 b2 dc da' _ HDR.out HB.out.size).mono ?_; rintro e w3 ⟨q, hx, rfl, hA, hB3⟩; have HX := Hd hx; have HA := Hd hA; have HB3 := Hd hB3; clear hx hA hB3)))
  all_goals
   go_wp2; go_meet
   case rel => exact ⟨q, HX.out, rfl, rfl, ⟨HA.out.node, HA.out.box, HA.out.free, fun k hk => Nat.le_trans HB0.out.size (HA.out.low k hk)⟩, (HB0.out.trans (HB.out.mono HB0.out.size)).trans (HB3.out.mono (Nat.le_trans HB0.out.size HB.out.size))⟩
 case rest =>
  obtain ⟨q, hx, rfl, rfl, hA, hB⟩ := hcut; have HX := Hd hx; have HA := Hd hA; have HB := Hd hB; clear hx hA hB; go_wp2; exact bodyPost_ret (v := .tuple #[.pointer (some ⟨q.g, 0, none⟩), .nilIface]) (by simp [results, Tryz.results32, go_sem]) rfl ⟨q, HX.out, rfl, HA.out, HB.out⟩
def errV (e : Int) : Value := if e = 0 then .nilIface else .iface 111 (.int .i64 e)
theorem join_left {x : Nd} (h : x.self.st = 4) (n : Int) : x.join n = ([], 4, x) := by unfold Nd.join; rw [if_pos h]
theorem join_id {x : Nd} (h : x.self.st ≠ 4) {n : Int} (hn : n < 1 \/ n > 250 \/ n = x.self.id) : x.join n = ([], 3, x) := by unfold Nd.join; rw [if_neg h, if_pos hn]
theorem join_ok {x : Nd} (h : x.self.st ≠ 4) {n : Int} (hn : ¬ (n < 1 \/ n > 250 \/ n = x.self.id)) : x.join n = ([(n, x.next.msg ⟨4, 0, 0, x.seq + 1, 0, []⟩)], 0, x.next) := by unfold Nd.join; rw [if_neg h, if_neg hn]
def JoinPost (w : World) (a : Ad) (x : Nd) (n : Int) (e : Ending) (w' : World) : Prop := ∃ v, e = .returned (.tuple #[v, errV (x.join n).2.1]) /\ Gives w a x ((x.join n).1, (x.join n).2.2) v w'
theorem join_any {x : Nd} (ho : Ok x) {C : Int} (hbd : Bd C x) (hC : C <= 1000000000000) (a : Ad) (ov : Value) (w : World) (h : NodeAt w a ov x) (n : Int) :
  Calls Tryz.prog 36 #[.pointer (some ⟨a.b, 0, none⟩), .int .i64 n] w (JoinPost w a x n) := by
 have T0 := turned_nil h; obtain ⟨w0, hw0⟩ : ∃ w0, w.setCell ⟨a.b, 20, none⟩ (.slice none 0 0) = w0 := ⟨_, rfl⟩; rw [hw0] at T0; have c20 : w.cell? ⟨a.b, 20, none⟩ = some ov := h.blk.cell (by omega)
 have f20 := h.blk.free 20; have c9 : w.cell? ⟨a.b, 9, none⟩ = some (.int .i64 x.self.st) := h.blk.cell (by omega)
 have c7 : w.cell? ⟨a.b, 7, none⟩ = some (.int .i64 x.self.id) := h.blk.cell (by omega)
 have hsq := hbd.seq; have hsz : w.heap.size <= w0.heap.size := T0.chg.size; have HT0 := Hd T0; have HW0 := Hd hw0; have HO := Hd ho; clear T0 hw0 h ho hbd; unfold JoinPost; by_cases hst : x.self.st = 4
 · rw [join_left hst]
   have hb : (x.self.st == 4) = true := by simpa using hst
   clear hst; go_enter Tryz.func36, Tryz.ntmps36; go_wp2; rw [HW0.out]; exact bodyPost_ret (v := .tuple #[.slice none 0 0, errV 4]) (by simp [results, Tryz.results36, go_sem]; rfl) rfl ⟨_, rfl, a, HT0.out, Jm.nil _ _⟩
 · have hb : (x.self.st == 4) = false := by simpa using hst
   by_cases hn : n < 1 \/ n > 250 \/ n = x.self.id
   · rw [join_id hst hn]
     have hT1 : ∀ k, Gives w a x ([], x) (.slice none 0 0) (w0.drewN k) := fun k => ⟨a, HT0.out.then (Turned.drewN (Turned.refl HT0.out.node) k), Jm.nil _ _⟩
     have HT1 := Hd hT1; clear hT1; have hcase : n < 1 \/ (1 <= n /\ 250 < n) \/ (1 <= n /\ n <= 250 /\ n = x.self.id) := by omega
     clear hst hn; rcases hcase with h1 | ⟨h1, h2⟩ | ⟨h1, h2, h3⟩
     · go_enter Tryz.func36, Tryz.ntmps36
       go_wp2; rw [HW0.out]; exact bodyPost_ret (v := .tuple #[.slice none 0 0, errV 3]) (by simp [results, Tryz.results36, go_sem]; rfl) rfl ⟨_, rfl, HT1.out 0⟩
     · go_enter Tryz.func36, Tryz.ntmps36
       go_wp2; rw [HW0.out]; exact bodyPost_ret (v := .tuple #[.slice none 0 0, errV 3]) (by simp [results, Tryz.results36, go_sem]; rfl) rfl ⟨_, rfl, HT1.out 0⟩
     · have h3b : (n == x.self.id) = true := by simpa using h3
       clear h3; go_enter Tryz.func36, Tryz.ntmps36; go_wp2; rw [HW0.out]; exact bodyPost_ret (v := .tuple #[.slice none 0 0, errV 3]) (by simp [results, Tryz.results36, go_sem]; rfl) rfl ⟨_, rfl, HT1.out 0⟩
   · rw [join_ok hst hn]
     have h1 : 1 <= n := by omega
     have h2 : n <= 250 := by omega
     have h3b : (n == x.self.id) = false := by simp only [beq_eq_false_iff_ne, ne_eq]; omega
     clear hst hn; go_enter Tryz.func36, Tryz.ntmps36
     go_wp2_with (first
      | (go_at_call 59; rw [HW0.out]; refine (next_any (by omega) a (.slice none 0 0) _ HT0.out.node).mono ?_; rintro e w2 ⟨rfl, hT2⟩
         have hsz2 := hT2.chg.size; have HT2 := Hd hT2; clear hT2)
      | (go_at_call 58; refine (send_high a (.slice none 0 0) w.heap.size [] _ HT2.out.node (Jm.nil _ _) (by omega) (by simp) n 4 0 0 (x.seq + 1) 0 (by omega) [] none 0 (fun i k hk => by simp at hk) (by simp)).mono ?_; rintro e w3 ⟨rfl, ov3, hT3⟩
         have d20 : w3.cell? ⟨a.b, 20, none⟩ = some ov3 := hT3.node.blk.cell (by omega)
         have HT3 := Hd hT3; clear hT3))
     exact bodyPost_ret (v := .tuple #[ov3, errV 0]) (by simp [results, Tryz.results36, go_sem]; rfl) rfl ⟨_, rfl, Gives.of ((HT0.out.st (Jm.nil _ _)).trans ((St.turned HT0.out.node (Jm.nil _ _) HT2.out).trans HT3.out))⟩
