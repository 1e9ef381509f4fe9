/-
  Texts of the proof: RfUpd, RfSend, RfJoin. No condition.
-/
import Derived.Test.YtfngdplkcppabaaGreatDoorPart01
import Derived.Test.YtfngdplkcppabaaGreatDoorPart19
import Derived.Test.YtfngdplkcppabaaGreatDoorPart02
import Derived.Test.YtfngdplkcppabaaGreatDoorPart14
set_option linter.all false
set_option maxRecDepth 100000
set_option maxHeartbeats 4000000
namespace Go.Proofs.YtfngdplkcppabaaGreatDoor
open Go.RowKit
theorem uCells_app (l1 l2 : List Upd) : Kz (l1 ++ l2) = Kz l1 ++ Kz l2 := by simp [Kz]
theorem uCells_len (l : List Upd) : (Kz l).length = l.length * 4 := flatl (F := uF) (fun _ => rfl) l
theorem uCells_one (l : List Upd) : ∀ v ∈ Kz l, v.oneCell' = true := by
 intro v hv; simp only [Kz, List.mem_flatMap, List.mem_cons, List.not_mem_nil, or_false] at hv; obtain ⟨k, _, rfl | rfl | rfl | rfl⟩ := hv <;> rfl
structure SameMem (w w' : World) : Prop where
 heap : w'.heap = w.heap
 os : w'.os = w.os
 tape : w'.tape = w.tape
 output : w'.output = w.output
theorem SameMem.refl (w : World) : SameMem w w := ⟨rfl, rfl, rfl, rfl⟩
theorem SameMem.drewN {w w' : World} (h : SameMem w w') (n : Nat) : SameMem w (w'.drewN n) := ⟨h.heap, h.os, h.tape, h.output⟩
theorem SameMem.below {B : Nat} {a w w' : World} (h : SameMem w w') (hb : Below B a w) : Below B a w' := ⟨h.os.trans hb.os, h.tape.trans hb.tape, h.output.trans hb.output, by rw [h.heap]; exact hb.size, fun k hk => by rw [h.heap]; exact hb.block k hk⟩
theorem SameMem.row {w w' : World} {B e s n : Nat} {v : Value} {xs : List Value} (h : SameMem w w') (ho : w.ownsRow B e s v n xs) : w'.ownsRow B e s v n xs := Je ho (fun _ _ => by rw [h.heap])
theorem own_len {w : World} {B e n : Nat} {v : Value} {l : List Upd} (h : w.ownsRow B e 4 v n (Kz l)) : l.length = n := by
 have := h.1; rw [uCells_len] at this; omega
def lenS : Value -> Nat
 | .slice _ n _ => n
 | _ => 0
def ordQ (x : Nd) : List Upd := x.queue.mergeSort Kv
theorem eraseIdx_parts (l : List Upd) (b : Nat) : Kz (l.eraseIdx b) = Kz (l.take b) ++ Kz (l.drop (b + 1)) := by
 rw [List.eraseIdx_eq_take_drop_succ, uCells_app]
theorem rupdates_any {Bo B b : Nat} {w : World} {f : Nat -> Value} {x : Nd} {ps : List Pk} (h : RfAt w B b f x) (hout : OutR w Bo (f 24) ps) (ho : Ok x) :
  Calls Tryz.prog 87 #[.pointer (some ⟨b, 0, none⟩)] w fun e w' => ∃ v f', e = .returned v /\ w'.ownsRow w.heap.size 58 3 v x.first.length (Kd (x.first.map (·.k))) /\ RSt Bo B b w f w' f' x.take ps := by
 have hS := RSt.refl h hout; obtain ⟨qa, qc, e19⟩ := Kg h.que; obtain ⟨qn, hqn⟩ : ∃ qn, x.queue.length = qn := ⟨_, rfl⟩; rw [hqn] at e19; have hq8 : qn <= 8 := by rw [<- hqn]; exact ho.qlen
 have c19 : w.cell? ⟨b, 19, none⟩ = some (.slice qa qn qc) := by rw [<- e19]; exact h.blk.cell (by omega)
 have c5 : ∀ wx, Below w.heap.size w wx -> wx.cell? ⟨b, 5, none⟩ = some (.int .i64 x.c.sends) := fun wx hb => by
  rw [hb.cell (p := ⟨b, 5, none⟩) h.blk.lt, <- h.c5]; exact h.blk.cell (by omega)
 have hque := h.que; rw [e19, hqn] at hque; have hsrc := Ki.row hque; have hql : (Kz x.queue).length = qn * 4 := by rw [uCells_len, hqn]
 have hbl := h.blk.lt; have hBs : B <= w.heap.size := by have := h.lo; omega
 have HS := Hd hS; have HSRC := Hd hsrc; have HQL := Hd hql; have HQN := Hd hqn; have HO := Hd ho; have HC5 := Hd c5; have E19 := Hd e19; have k3 : 0 + qn <= maxLen := by unfold maxLen; omega
 have K3 := Hd k3; obtain ⟨i0, hi, hz0, hz1, hz2⟩ := info_parts info_upd; obtain ⟨j0, hj, jz0, jz1, jz2⟩ := info_parts info_rkey; clear h hout ho hS hque hsrc hql hqn c5 e19 k3; go_enter Tryz.func87, Tryz.ntmps87; go_wp2_with (at_builtin; go_loud (refine Km _ rfl _ _ 90 rfl w.heap.size 166 i0 _ 4 32 Tryz.underlying90 hi hz0 hz1 hz2 rfl (by decide) (.slice none 0 0) 0 [] rfl (World.ownsRow_nil _ _ _ _) qa qn qc _ rfl HQL.out HSRC.out (uCells_one _) K3.out (by omega) (Nat.le_refl _) ?_))
 intro a1 c1 w1 hl1 hto1; have hb1 : Below w.heap.size w w1 := Below.grown (Below.refl _ _) hto1.grown (Nat.le_refl _) (fun j hj => by simp [Value.ownBlock] at hj)
 have HL1 := Hd hl1; have HB1 := Hd hb1; clear hl1 hto1 hb1; go_wp2_with fail
 go_loopw [3, 4, 5] (fun s3 s4 s5 wr => ∃ (n : Nat) (l : List Upd), n <= 4 /\ n <= (ordQ x).length /\ Pick x.queue n l /\ wr.ownsRow w.heap.size 58 3 s3 n (Kd (((ordQ x).take n).map (·.k))) /\ wr.ownsRow w.heap.size 166 4 s4 l.length (Kz l) /\
   wr.ownsRow w.heap.size 166 4 s5 (backs x.c.sends ((ordQ x).take n)).length (Kz (backs x.c.sends ((ordQ x).take n))) /\ (∀ g, s5.ownBlock = some g -> s4.ownBlock ≠ some g) /\ Below w.heap.size w wr) (fun _ s4 _ _ => lenS s4)
 case atStart => exact ⟨0, x.queue, Nat.zero_le _, Nat.zero_le _, Pick.start _, World.ownsRow_nil _ _ _ _, by rw [HQN.out]; simpa using HL1.out, World.ownsRow_nil _ _ _ _, fun g hg => by simp [Value.ownBlock] at hg, HB1.out⟩
 case round =>
  clear HB1 HL1; obtain ⟨n, l, hn4, hno, hpick, hr3, hr4, hr5, hne, hb⟩ := hrel; obtain ⟨oa, oc, rfl⟩ := Kg hr3; obtain ⟨ra, rc, rfl⟩ := Kg hr4; obtain ⟨sa, sc, rfl⟩ := Kg hr5; obtain ⟨ln, hln⟩ : ∃ ln, l.length = ln := ⟨_, rfl⟩; obtain ⟨sn, hsn⟩ : ∃ sn, (backs x.c.sends ((ordQ x).take n)).length = sn := ⟨_, rfl⟩; rw [hln] at hr4 hne ⊢; rw [hsn] at hr5 hne ⊢; have hl8 : ln <= 8 := by rw [<- hln, hpick.len]; have := HQN.out; omega
  have hs4 : sn <= 4 := by rw [<- hsn]; unfold backs; exact Nat.le_trans (List.length_filter_le _ _) (by rw [List.length_map, List.length_take]; omega)
  have HPICK := Hd hpick; have HR3 := Hd hr3; have HR4 := Hd hr4; have HR5 := Hd hr5; have HNE := Hd hne; have HB := Hd hb; have HLN := Hd hln; have HSN := Hd hsn; have hsz := hb.size; clear hpick hr3 hr4 hr5 hne hb hln hsn; by_cases hgo : n < 4 /\ 0 < ln
  · obtain ⟨hlt, hl0⟩ := hgo
    · go_wp2_with fail
      go_loopw [6, 7] (fun s6 s7 wx => ∃ (i bst : Nat), 1 <= i /\ i <= ln /\ bst < ln /\ s6 = .int .i64 (bst : Nat) /\ s7 = .int .i64 (i : Nat) /\ (∀ u, l[bst]? = some u -> ∀ (j : Nat) v, j < i -> l[j]? = some v -> Kv u v = true) /\ SameMem wr wx) (fun _ s7 _ => 20 - (intOf s7).toNat)
      case atStart => exact ⟨1, 0, Nat.le_refl _, by omega, hl0, rfl, rfl, fun u hu j v hj hv => by
       obtain rfl : j = 0 := by omega
       rw [hu] at hv; cases hv
       simp [Kv], SameMem.refl _⟩
      case round =>
       obtain ⟨i, bst, hi1, hil, hbst, rfl, rfl, hmin, hwx⟩ := hrel; obtain ⟨u, hu⟩ : ∃ u, l[bst]? = some u := ⟨_, List.getElem?_eq_getElem (by have := HLN.out; omega)⟩
       have hbx : Below w.heap.size w wr := hwx.below HB.out; have hr3x : wr.ownsRow w.heap.size 58 3 (.slice oa n oc) n (Kd (((ordQ x).take n).map (·.k))) := hwx.row HR3.out; have hr4x : wr.ownsRow w.heap.size 166 4 (.slice ra ln rc) ln (Kz l) := hwx.row HR4.out; have hr5x : wr.ownsRow w.heap.size 166 4 (.slice sa sn sc) sn (Kz (backs x.c.sends ((ordQ x).take n))) := hwx.row HR5.out; obtain ⟨g, rfl, hg, u0, u1, u2, u3⟩ := u_at hr4x hu; have HU := Hd hu; have HMIN := Hd hmin; have HWX := Hd hwx; clear hu hmin hwx; by_cases hilt : i < ln
       · obtain ⟨v, hv⟩ : ∃ v, l[i]? = some v := ⟨_, List.getElem?_eq_getElem (by have := HLN.out; omega)⟩
         obtain ⟨g', eg, _, v0, v1, v2, v3⟩ := u_at hr4x hv; cases eg
         have HV := Hd hv; clear hv hbx hr3x hr4x hr5x u1 u2 v1 v2
         have h4 : (decide (v.sent < u.sent) = true) \/ (decide (v.sent < u.sent) = false /\ (v.sent == u.sent) = true /\ decide (v.k.id < u.k.id) = true) \/ (decide (v.sent < u.sent) = false /\ (v.sent == u.sent) = true /\ decide (v.k.id < u.k.id) = false) \/ (decide (v.sent < u.sent) = false /\ (v.sent == u.sent) = false) := by
          rcases Int.decLt v.sent u.sent with h | h <;> rcases Int.decEq v.sent u.sent with h' | h' <;> rcases Int.decLt v.k.id u.k.id with h'' | h'' <;> simp_all
         have hkeep : Kv u v = true -> ∀ u', l[bst]? = some u' -> ∀ (j : Nat) v', j < i + 1 -> l[j]? = some v' -> Kv u' v' = true := fun hle u' hu' j v' hj hv' => by
          rcases Nat.lt_succ_iff_lt_or_eq.1 hj with hj | rfl
          · exact HMIN.out u' hu' j v' hj hv'
          · rw [HU.out] at hu'; cases hu'
            rw [HV.out] at hv'; cases hv'; exact hle
         have htake : Kv v u = true -> ∀ u', l[i]? = some u' -> ∀ (j : Nat) v', j < i + 1 -> l[j]? = some v' -> Kv u' v' = true := fun hle u' hu' j v' hj hv' => by
          rw [HV.out] at hu'; cases hu'; rcases Nat.lt_succ_iff_lt_or_eq.1 hj with hj | rfl
          · exact updLe_tr' _ _ _ hle (HMIN.out u HU.out j v' hj hv')
          · rw [HV.out] at hv'; cases hv'; simp [Kv]
         have HKEEP := Hd hkeep; have HTAKE := Hd htake; clear hkeep htake; rcases h4 with h1 | ⟨h1, h2, h3⟩ | ⟨h1, h2, h3⟩ | ⟨h1, h2⟩
         · go_wp2_with fail
           go_quiet (fail); go_wp2; go_roundw
           case rel => exact ⟨i + 1, i, by omega, by omega, by omega, rfl, by go_num, HTAKE.out (by simp only [decide_eq_true_eq] at h1; simp only [Kv, decide_eq_true_eq]; omega), HWX.out.drewN _⟩
           case measure => simp [intOf]; omega
         · go_wp2_with fail
           go_quiet (fail); go_wp2; go_roundw
           case rel => exact ⟨i + 1, i, by omega, by omega, by omega, rfl, by go_num, HTAKE.out (by simp only [decide_eq_true_eq, beq_iff_eq] at h2 h3; simp only [Kv, decide_eq_true_eq]; omega), HWX.out.drewN _⟩
           case measure => simp [intOf]; omega
         · go_wp2_with fail
           go_quiet (fail); go_wp2; go_roundw
           case rel => exact ⟨i + 1, bst, by omega, by omega, by omega, rfl, by go_num, HKEEP.out (by simp only [beq_iff_eq, decide_eq_false_iff_not] at h2 h3; simp only [Kv, decide_eq_true_eq]; omega), HWX.out.drewN _⟩
           case measure => simp [intOf]; omega
         · go_wp2_with fail
           go_quiet (fail); go_wp2; go_roundw
           case rel => exact ⟨i + 1, bst, by omega, by omega, by omega, rfl, by go_num, HKEEP.out (by simp only [beq_eq_false_iff_ne, decide_eq_false_iff_not] at h1 h2; simp only [Kv, decide_eq_true_eq]; omega), HWX.out.drewN _⟩
           case measure => simp [intOf]; omega
       · have hie : i = ln := by omega
         have hmin' : ∀ v ∈ l, Kv u v = true := fun v hv => by
          obtain ⟨j, hj⟩ := List.mem_iff_getElem?.1 hv; exact HMIN.out u HU.out j v (by have := (List.getElem?_eq_some_iff.1 hj).1; have := HLN.out; omega) hj
         obtain ⟨hun, hpk2⟩ := HPICK.out.more HO.out.qnd HU.out hmin'; have hno2 : n + 1 <= (ordQ x).length := (List.getElem?_eq_some_iff.1 hun).1; have hmem : u ∈ x.queue := (List.mergeSort_perm x.queue Kv).mem_iff.1 (List.mem_of_getElem? hun); have hsent := (HO.out.qkey u hmem).2; have hcfs := (cfg_bounds' HO.out.cfg).2.2.2.2.2
         have htk : (ordQ x).take (n + 1) = (ordQ x).take n ++ [u] := by
          have : (ordQ x)[n]? = some u := hun; rw [List.take_add_one, this]; rfl
         have wsn : IntKind.i64.wrap (u.sent + 1) = u.sent + 1 := IntWalk.i64_in _ (by omega)
         have hszx := hbx.size; obtain ⟨⟨uid, uinc, ust⟩, usent⟩ := u; simp only at u0 u1 u2 u3 wsn hsent; have hr3a := (hr3x.alloc (.cells #[.int .i64 uid, .int .i64 uinc, .int .i64 ust, .int .i64 usent] 166)).alloc (.cells #[.int .i64 uid, .int .i64 uinc, .int .i64 ust] 58); have hr4a := (hr4x.alloc (.cells #[.int .i64 uid, .int .i64 uinc, .int .i64 ust, .int .i64 usent] 166)).alloc (.cells #[.int .i64 uid, .int .i64 uinc, .int .i64 ust] 58); have hr5a := (hr5x.alloc (.cells #[.int .i64 uid, .int .i64 uinc, .int .i64 ust, .int .i64 usent] 166)).alloc (.cells #[.int .i64 uid, .int .i64 uinc, .int .i64 ust] 58); have hub : ((wr.alloc (.cells #[.int .i64 uid, .int .i64 uinc, .int .i64 ust, .int .i64 usent] 166)).alloc (.cells #[.int .i64 uid, .int .i64 uinc, .int .i64 ust] 58)).heap[wr.heap.size]? = some (.cells #[.int .i64 uid, .int .i64 uinc, .int .i64 ust, .int .i64 usent] 166 (0, 0)) := Kp _ (Kc wr _)
         have hnew : Ki ((wr.alloc (.cells #[.int .i64 uid, .int .i64 uinc, .int .i64 ust, .int .i64 usent] 166)).alloc (.cells #[.int .i64 uid, .int .i64 uinc, .int .i64 ust] 58)) (some ⟨wr.heap.size + 1, 0, none⟩) [.int .i64 uid, .int .i64 uinc, .int .i64 ust] := by
          have := Jx (wr.alloc (.cells #[.int .i64 uid, .int .i64 uinc, .int .i64 ust, .int .i64 usent] 166)) [.int .i64 uid, .int .i64 uinc, .int .i64 ust] 58
          simpa using this
         have k3 : n + 1 <= maxLen := by unfold maxLen; omega
         have K3 := Hd k3; have HR3A := Hd hr3a; have HR4A := Hd hr4a; have HR5A := Hd hr5a; have HUB := Hd hub; have HNEW := Hd hnew; have HBX := Hd hbx; have HPK2 := Hd hpk2; have HTK := Hd htk; have hs3lt : ∀ k, (Value.slice oa n oc).ownBlock = some k -> k < wr.heap.size := fun k hk => (hr3x.lt k hk).2
         have HS3LT := Hd hs3lt; have hs5lt : ∀ k, (Value.slice sa sn sc).ownBlock = some k -> k < wr.heap.size := fun k hk => (hr5x.lt k hk).2
         have HS5LT := Hd hs5lt; clear hie hmin' hun hpk2 hmem htk hr3x hr4x hr5x hr3a hr4a hr5a hub hnew hbx hs3lt hs5lt k3 HMIN HWX HR3 HR4 HR5; go_wp2_with (at_builtin; go_loud (refine Km _ rfl _ _ 31 rfl w.heap.size 58 j0 _ 3 24 Tryz.underlying31 hj jz0 jz1 jz2 rfl (by decide) (.slice oa n oc) n _ rfl HR3A.out (some ⟨wr.heap.size + 1, 0, none⟩) 1 1 _ rfl rfl HNEW.out (by simp [Value.oneCell']) K3.out (by omega) (by simp; omega) ?_))
         intro a2 c2 w2 hl2 hto2; have hb2 : Below w.heap.size w w2 := ((HBX.out.alloc hszx _).alloc (by simp; omega) _).grown hto2.grown (by simp; omega) (fun j hj => (HR3A.out.lt j hj).1)
         have hub2 : w2.heap[wr.heap.size]? = some (.cells #[.int .i64 uid, .int .i64 uinc, .int .i64 ust, .int .i64 usent] 166 (0, 0)) := (hto2.block (Kb HUB.out) (fun e => by have := HS3LT.out _ e; omega)).trans HUB.out
         have hr4b := hto2.other HR4A.out (own_ne HR3A.out HR4A.out (by decide))
         have hr5b := hto2.other HR5A.out (own_ne HR3A.out HR5A.out (by decide))
         have y3 := Ka hub2 3; simp only [List.getElem?_toArray, List.getElem?_cons_succ, List.getElem?_cons_zero] at y3; have z3 := Kr hub2 3; have hub3 : (w2.setCell ⟨wr.heap.size, 3, none⟩ (.int .i64 (usent + 1))).heap[wr.heap.size]? = some (.cells #[.int .i64 uid, .int .i64 uinc, .int .i64 ust, .int .i64 (usent + 1)] 166 (0, 0)) := Kf hub2; have hcs : Chg (fun k _ => k = wr.heap.size) w2 (w2.setCell ⟨wr.heap.size, 3, none⟩ (.int .i64 (usent + 1))) := (Chg.refl _ _).setCell _ (fun _ _ => rfl)
         have hr3c : (w2.setCell ⟨wr.heap.size, 3, none⟩ (.int .i64 (usent + 1))).ownsRow w.heap.size 58 3 (.slice a2 (n + 1) c2) (n + 1) (Kd (((ordQ x).take (n + 1)).map (·.k))) := by
          refine Kq ?_ hcs (fun g' o hg' e => ?_)
          · rw [HTK.out, List.map_append]
            show w2.ownsRow _ _ _ _ _ (Kd (_ ++ [_]))
            rw [rkeys_snoc]; have hl2' := hl2; rw [<- List.map_take] at hl2'; exact hl2'
          · subst e
            obtain ⟨_, cur, hgc⟩ := Ke hl2 hg'; rw [hub2] at hgc; simp only [Option.some.injEq, Obj.cells.injEq] at hgc; exact absurd hgc.2.1 (by decide)
         have hr4c : (w2.setCell ⟨wr.heap.size, 3, none⟩ (.int .i64 (usent + 1))).ownsRow w.heap.size 166 4 (.slice (some ⟨g, 0, none⟩) ln rc) ln (Kz l) := Kq hr4b hcs (fun g' o hg' e => by
          simp only [Value.ownBlock, Option.some.injEq] at hg'; omega)
         have hr5c : (w2.setCell ⟨wr.heap.size, 3, none⟩ (.int .i64 (usent + 1))).ownsRow w.heap.size 166 4 (.slice sa sn sc) sn (Kz (backs x.c.sends ((ordQ x).take n))) := Kq hr5b hcs (fun g' o hg' e => by
          have := HS5LT.out g' hg'; omega)
         have hb3 : Below w.heap.size w (w2.setCell ⟨wr.heap.size, 3, none⟩ (.int .i64 (usent + 1))) := hb2.setCell (by show w.heap.size <= wr.heap.size; omega) _
         obtain ⟨w3, hw3⟩ : ∃ w3, w2.setCell ⟨wr.heap.size, 3, none⟩ (.int .i64 (usent + 1)) = w3 := ⟨_, rfl⟩; rw [hw3] at hub3 hr3c hr4c hr5c hb3; have HW3 := Hd hw3; have HUB3 := Hd hub3; have HR3C := Hd hr3c; have HR4C := Hd hr4c; have HR5C := Hd hr5c; have HB3 := Hd hb3; have hsz2 : wr.heap.size < w2.heap.size := Kb hub2; clear hw3 hub3 hr3c hr4c hr5c hb3 hcs hr4b hr5b hub2 hb2 hl2 hto2 HR3A HR4A HR5A HUB HNEW; go_wp2_with fail
         rw [HW3.out]; have x5 := HC5.out _ HB3.out; have e0 := Ka HUB3.out 0; have e1 := Ka HUB3.out 1; have e2 := Ka HUB3.out 2; have e3 := Ka HUB3.out 3; simp only [List.getElem?_toArray, List.getElem?_cons_succ, List.getElem?_cons_zero] at e0 e1 e2 e3; go_quiet (fail); go_upto_if 90 with (fail)
         go_cut [5] (fun s5 wx => wx.ownsRow w.heap.size 166 4 s5 (backs x.c.sends ((ordQ x).take (n + 1))).length (Kz (backs x.c.sends ((ordQ x).take (n + 1)))) /\ wx.ownsRow w.heap.size 58 3 (.slice a2 (n + 1) c2) (n + 1) (Kd (((ordQ x).take (n + 1)).map (·.k))) /\
          wx.ownsRow w.heap.size 166 4 (.slice (some ⟨g, 0, none⟩) ln rc) ln (Kz l) /\ Below w.heap.size w wx)
         case first =>
          by_cases hlts : usent + 1 < x.c.sends
          · have hbk : backs x.c.sends ((ordQ x).take (n + 1)) = backs x.c.sends ((ordQ x).take n) ++ [⟨⟨uid, uinc, ust⟩, usent + 1⟩] := by
             rw [HTK.out, backs_snoc, if_pos hlts]
            have HBK := Hd hbk; have hrw : ∀ k, ((w3.alloc (.cells #[.int .i64 uid, .int .i64 uinc, .int .i64 ust, .int .i64 (usent + 1)] 166)).drewN k).ownsRow w.heap.size 166 4 (.slice sa sn sc) sn (Kz (backs x.c.sends ((ordQ x).take n))) := fun k => Je (HR5C.out.alloc _) (fun _ _ => rfl)
            have hnew : ∀ k, Ki ((w3.alloc (.cells #[.int .i64 uid, .int .i64 uinc, .int .i64 ust, .int .i64 (usent + 1)] 166)).drewN k) (some ⟨w3.heap.size, 0, none⟩) [.int .i64 uid, .int .i64 uinc, .int .i64 ust, .int .i64 (usent + 1)] := fun k => Jx w3 [.int .i64 uid, .int .i64 uinc, .int .i64 ust, .int .i64 (usent + 1)] 166
            have HRW := Hd hrw; have HNEW := Hd hnew; have k4 : sn + 1 <= maxLen := by unfold maxLen; omega
            have K4 := Hd k4; have hsz3 := HB3.out.size; clear hbk hrw hnew k4; go_wp2_with (at_builtin; go_loud (refine Km _ rfl _ _ 90 rfl w.heap.size 166 i0 _ 4 32 Tryz.underlying90 hi hz0 hz1 hz2 rfl (by decide) (.slice sa sn sc) sn _ rfl (HRW.out _) (some ⟨w3.heap.size, 0, none⟩) 1 1 _ rfl rfl (HNEW.out _) (by simp [Value.oneCell']) K4.out (by omega) (by simp; omega) ?_))
            intro a4 c4 w4 hl4 hto4; have hgl4 : ∀ k, (Value.slice sa sn sc).ownBlock = some k -> (Value.slice (some ⟨g, 0, none⟩) ln rc).ownBlock ≠ some k := HNE.out; have hr4d := hto4.other (Je (HR4C.out.alloc (.cells #[.int .i64 uid, .int .i64 uinc, .int .i64 ust, .int .i64 (usent + 1)] 166)) (fun _ _ => rfl)) hgl4
            have hr3d := hto4.other (Je (HR3C.out.alloc (.cells #[.int .i64 uid, .int .i64 uinc, .int .i64 ust, .int .i64 (usent + 1)] 166)) (fun _ _ => rfl)) (own_ne (HRW.out 0) (HR3C.out.alloc _) (by decide))
            have hb4 : Below w.heap.size w w4 := (Below.drewR (HB3.out.alloc (by omega) _) _).grown hto4.grown (by simp; omega) (fun j hj => (HR5C.out.lt j hj).1)
            have HL4 := Hd hl4; have HR3D := Hd hr3d; have HR4D := Hd hr4d; have HB4 := Hd hb4; clear hl4 hto4 hgl4 hr4d hr3d hb4; go_wp2; go_meet
            case rel => exact ⟨by rw [HBK.out, uCells_snoc, List.length_append, HSN.out]; exact HL4.out, HR3D.out, HR4D.out, HB4.out⟩
          · have hbk : backs x.c.sends ((ordQ x).take (n + 1)) = backs x.c.sends ((ordQ x).take n) := by
             rw [HTK.out, backs_snoc, if_neg hlts, List.append_nil]
            have HBK := Hd hbk; clear hbk; go_wp2; go_meet
            case rel => exact ⟨by rw [HBK.out, HSN.out]; exact Je HR5C.out (fun _ _ => rfl), Je HR3C.out (fun _ _ => rfl), Je HR4C.out (fun _ _ => rfl), Below.drewR HB3.out _⟩
         case rest =>
          obtain ⟨hr5, hr3, hr4, hb⟩ := hcut; obtain ⟨ta, tc, rfl⟩ := Kg hr5; obtain ⟨tn, htn⟩ : ∃ tn, (backs x.c.sends ((ordQ x).take (n + 1))).length = tn := ⟨_, rfl⟩; rw [htn] at hr5 ⊢
          have hlc : ln <= rc := by
           rcases hr4.2 with ⟨e1, _⟩ | ⟨g', cap, cur0, e1, _, _, hnc, _⟩
           · simp at e1
           · simp only [Value.slice.injEq] at e1; rw [e1.2.2]; exact hnc
          have hspl : Kz l = Kz (l.take bst) ++ Kz (l.drop bst) := by rw [<- uCells_app, List.take_append_drop]
          have hspl2 : Kz l = Kz (l.take (bst + 1)) ++ Kz (l.drop (bst + 1)) := by rw [<- uCells_app, List.take_append_drop]
          have hl1 : (Kz (l.take bst)).length = bst * 4 := by rw [uCells_len, List.length_take]; have := HLN.out; omega
          have hl2 : (Kz (l.take (bst + 1))).length = (bst + 1) * 4 := by rw [uCells_len, List.length_take]; have := HLN.out; omega
          have hl3 : (Kz (l.drop (bst + 1))).length = (ln - (bst + 1)) * 4 := by rw [uCells_len, List.length_drop]; have := HLN.out; omega
          have hsrc1 : Ki wc (some ⟨g, 0, none⟩) (Kz (l.take bst)) := Ki.part (xs := []) (zs := Kz (l.drop bst)) (by rw [List.nil_append, <- hspl]; exact hr4) rfl
          have hsrc3 : Ki wc (some ⟨g, (bst + 1) * 4, none⟩) (Kz (l.drop (bst + 1))) := Ki.part (xs := Kz (l.take (bst + 1))) (zs := []) (by rw [List.append_nil, <- hspl2]; exact hr4) hl2
          have hler : (l.eraseIdx bst).length = bst + (ln - (bst + 1)) := by rw [List.length_eraseIdx, if_pos (by have := HLN.out; omega)]; have := HLN.out; omega
          have w1b : IntKind.i64.wrap ((bst : Int) + 1) = (bst : Int) + 1 := IntWalk.i64_in _ (by omega)
          have k3 : 0 + bst <= maxLen := by unfold maxLen; omega
          have k5 : bst + (ln - (bst + 1)) <= maxLen := by unfold maxLen; omega
          have K3' := Hd k3; have K5' := Hd k5; have HL1 := Hd hl1; have HL3 := Hd hl3; have HSRC1 := Hd hsrc1; have HSRC3 := Hd hsrc3; have HLER := Hd hler; have HRT := Hd hr5; have HRO := Hd hr3; have HBC := Hd hb; have HTN := Hd htn; have hszc := hb.size; clear hr5 hr3 hr4 hb hspl hspl2 hl1 hl2 hl3 hsrc1 hsrc3 hler htn k3 k5 x5 e0 e1 e2 e3 u0 u1 u2 u3; go_wp2_with (at_builtin; go_loud (refine Km _ rfl _ _ 90 rfl wc.heap.size 166 i0 _ 4 32 Tryz.underlying90 hi hz0 hz1 hz2 rfl (by decide) (.slice none 0 0) 0 [] rfl (World.ownsRow_nil _ _ _ _) (some ⟨g, 0, none⟩) bst rc _ rfl HL1.out HSRC1.out (uCells_one _) K3'.out (by omega) (Nat.le_refl _) ?_))
          intro a6 c6 w6 hl6 hto6; have hb6 : Below wc.heap.size wc w6 := Below.grown (Below.refl _ _) hto6.grown (Nat.le_refl _) (fun j hj => by simp [Value.ownBlock] at hj)
          have hsrc : Ki w6 (if rc = bst + 1 then some ⟨g, 0, none⟩ else some ⟨g, (bst + 1) * 4, none⟩) (Kz (l.drop (bst + 1))) := by
           by_cases hck : rc = bst + 1
           · have hd : l.drop (bst + 1) = [] := List.drop_eq_nil_of_le (by have := HLN.out; omega)
             rw [hd]; intro j v hj
             simp [Kz] at hj
           · rw [if_neg hck]; exact HSRC3.out.below hb6
          have HSRC' := Hd hsrc; have HL6 := Hd hl6; have HB6 := Hd hb6; have hsz6 := hb6.size; clear hl6 hto6 hb6 hsrc; go_wp2_with (at_builtin; go_loud (refine Km _ rfl _ _ 90 rfl wc.heap.size 166 i0 _ 4 32 Tryz.underlying90 hi hz0 hz1 hz2 rfl (by decide) (.slice a6 bst c6) bst _ rfl HL6.out (if rc = bst + 1 then some ⟨g, 0, none⟩ else some ⟨g, (bst + 1) * 4, none⟩) (ln - (bst + 1)) (rc - (bst + 1)) _ rfl HL3.out HSRC'.out (uCells_one _) K5'.out (by omega) (by omega) ?_))
          all_goals
           intro a7 c7 w7 hl7 hto7; have hb7 : Below wc.heap.size wc w7 := HB6.out.grown hto7.grown (by omega) (fun j hj => (HL6.out.lt j hj).1)
           have HL7 := Hd hl7; have HB7 := Hd hb7; clear hl7 hto7 hb7; go_wp2; go_roundw
           case rel =>
            exact ⟨n + 1, l.eraseIdx bst, by omega, hno2, HPK2.out, Ks HRO.out HB7.out, by rw [HLER.out, eraseIdx_parts]; exact Jl HL7.out (by omega), by rw [HTN.out]; exact Ks HRT.out HB7.out, fun g' h1 h2 => by
             have := (HRT.out.lt g' h1).2; have := (HL7.out.lt g' h2).1; omega, HBC.out.trans (HB7.out.mono hszc)⟩
           case measure => simp [lenS]; omega
  · have he : n = 4 \/ l = [] := by
     by_cases h4 : n = 4
     · exact .inl h4
     · exact .inr (List.length_eq_zero_iff.1 (by have := HLN.out; omega))
    have hfirst := HPICK.out.first hn4 he; have htake := HPICK.out.take HO.out hn4 he; have hfl : x.first.length = n := by rw [<- hfirst, List.length_take]; exact Nat.min_eq_left hno
    have hsrc := Ki.row HR5.out; have hsl : (Kz (backs x.c.sends ((ordQ x).take n))).length = sn * 4 := by rw [uCells_len, HSN.out]
    have k3 : ln + sn <= maxLen := by unfold maxLen; omega
    have K3 := Hd k3; have HSRC5 := Hd hsrc; have HSL := Hd hsl; have HFIRST := Hd hfirst; have HTAKE := Hd htake; have HFL := Hd hfl; clear he hfirst htake hfl hsrc hsl k3; have hways : (n < 4 /\ ln = 0) \/ ¬ n < 4 := by omega
    clear hgo; rcases hways with ⟨h4, h0⟩ | h4
    all_goals
     try subst h0
     go_wp2_with (at_builtin; go_loud (refine Km _ rfl _ _ 90 rfl w.heap.size 166 i0 _ 4 32 Tryz.underlying90 hi hz0 hz1 hz2 rfl (by decide) (.slice ra _ rc) _ _ rfl HR4.out sa sn sc _ rfl HSL.out HSRC5.out (uCells_one _) K3.out (by omega) (by omega) ?_))
     intro a9 c9 w9 hl9 hto9; have hb9 : Below w.heap.size w w9 := HB.out.grown hto9.grown (by omega) (fun j hj => (HR4.out.lt j hj).1)
     have hS9 := HS.out.below hb9; have y19 := hS9.at_.blk.cell (i := 19) (by omega)
     rw [E19.out] at y19; have z19 := hS9.at_.blk.free 19; have hr9 := hto9.other HR3.out (own_ne HR4.out HR3.out (by decide))
     rw [<- uCells_app] at hl9; have hl10 := Jl hl9 hBs; rw [<- own_len hl9] at hl10; have hT := hS9.cell (hS9.at_.setQueue (l := l ++ backs x.c.sends ((ordQ x).take n)) hl10) (by omega) (fun k hk _ => (hl9.lt k (by rw [own_len hl9] at hk; exact hk)).1)
     rw [own_len hl9] at hT; have hr10 := fun v => own_cell (i := 19) (v := v) hS9.at_.blk hr9 (by decide)
     obtain ⟨f9, hT9⟩ : ∃ f9, RSt Bo B b w f _ f9 _ ps := ⟨_, hT⟩; have HT := Hd hT9; have HR10 := Hd hr10; clear hl9 hl10 hto9 hb9 hS9 hr9 hT hT9 hr10; go_wp2; go_ret
     refine ⟨_, f9, rfl, ?_, ?_⟩
     · rw [HFL.out, <- HFIRST.out]; exact HR10.out _
     · rw [HTAKE.out]; exact HT.out
def refTypes : List TypeId := [93, 149, 3, 166, 147, 58]
theorem RfAt.typed {w w' : World} {B b : Nat} {f : Nat -> Value} {x : Nd} (h : RfAt w B b f x) {S : Nat -> Obj -> Prop} (hc : Chg S w w') (hS : ∀ k cs t fr, w.heap[k]? = some (.cells cs t fr) -> S k (.cells cs t fr) -> t ∉ refTypes) : RfAt w' B b f x := by
 have hrow : ∀ {t s n : Nat} {v : Value} {xs : List Value}, w.ownsRow B t s v n xs -> t ∈ refTypes -> w'.ownsRow B t s v n xs := fun ho ht => Jf ho hc (fun k o hk hs cs fr e => by subst e; exact hS k cs _ fr hk hs ht)
 exact
  { h with
    blk := h.blk.heap (by obtain ⟨cs, hb⟩ := h.blk.block; rw [hb]; exact hc.kept b _ hb (fun hs => hS b cs _ _ hb hs (by simp [refTypes])))
    ds := by
     obtain ⟨a, c, e, hi⟩ := h.ds; exact ⟨a, c, e, hi.typed hc (fun k o hk hs cs fr e' => by subst e'; exact hS k cs _ fr hk hs (by simp [refTypes]))⟩
    oth := hrow h.oth (by simp [refTypes])
    pas := hrow h.pas (by simp [refTypes])
    que := hrow h.que (by simp [refTypes])
    rel := hrow h.rel (by simp [refTypes])
    evs := hrow h.evs (by simp [refTypes]) }
theorem rpCells_app (l1 l2 : List (Int × ByteArray)) : Kk (l1 ++ l2) = Kk l1 ++ Kk l2 := by simp [Kk]
section
variable {Bo B b : Nat} {w w1 w2 : World} {f f1 : Nat -> Value} {x x1 : Nd} {ps : List Pk}
theorem RSt.appOut (h : RSt Bo B b w f w1 f1 x1 ps) {p : Pk} {g n c : Nat} (hto : AppTo w1 w2 (f1 24) g) (hv : w2.ownsRow Bo 60 2 (.slice (some ⟨g, 0, none⟩) n c) (ps.length + 1) (Kk (ps.map wirePk) ++ [.int .i64 p.1, .string (strOfNums (Jr p.2))])) :
  w2.cell? ⟨b, 24, none⟩ = some (f1 24) /\ w2.frozen? ⟨b, 24, none⟩ = false /\ RSt Bo B b w f (w2.setCell ⟨b, 24, none⟩ (.slice (some ⟨g, 0, none⟩) n c)) (upd f1 24 (.slice (some ⟨g, 0, none⟩) n c)) x1 (ps ++ [p]) := by
 have hc : Chg (fun k o => Bo <= k /\ isPkR o) w1 w2 := by
  refine (Chg.refl _ w1).grown hto.grown (fun k o e ho => ?_)
  obtain ⟨hB, cur, hg⟩ := Ke h.out e; rw [hg] at ho; cases ho; exact ⟨hB, _, _, rfl⟩
 have h2 : RfAt w2 B b f1 x1 := h.at_.typed hc (fun k cs t fr _ hs => by
  obtain ⟨_, c', f', e⟩ := hs; simp only [Obj.cells.injEq] at e; rw [e.2.1]; decide)
 refine ⟨h2.blk.cell (by omega), h2.blk.free _, h2.setOut _ _ _, ?_, ?_, ?_, ?_, (Kh _ _ _ (by omega)).trans h.six⟩
 · rw [Ku]
   refine own_cell h2.blk ?_ (by decide)
   rw [List.length_append, List.map_append, rpCells_app]; exact hv
 · exact (h.chg.trans (hc.mono (fun _ _ _ => .inr))).setCell _ (fun _ _ => .inl (.inl rfl))
 · intro k hk
   unfold RFoot at hk; rw [Kh _ _ _ (by omega), Kh _ _ _ (by omega), Kh _ _ _ (by omega), Kh _ _ _ (by omega), Kh _ _ _ (by omega)] at hk
   exact h.own k hk
 · intro k hk
   unfold RWr at hk; rw [Kh _ _ _ (by omega), Kh _ _ _ (by omega), Kh _ _ _ (by omega)] at hk
   exact h.ownW k hk
theorem RSt.kept (h : RSt Bo B b w f w1 f1 x1 ps) {k : Nat} {cs : Array Value} {t : TypeId} {fr : Nat × Nat} (hk : w.heap[k]? = some (.cells cs t fr)) (h0 : RfAt w B b f x) (ht : t ∉ refTypes) (hp : t ≠ 60) : w1.heap[k]? = some (.cells cs t fr) := by
 refine h.chg.kept k _ hk (fun hs => ?_)
 rcases hs with hs | ⟨_, c, f', e⟩
 · obtain ⟨cs', t', hk', ht'⟩ := h0.foot_type hs.foot
   rw [hk] at hk'; simp only [Option.some.injEq, Obj.cells.injEq] at hk'; exact ht (hk'.2.1 ▸ ht')
 · simp only [Obj.cells.injEq] at e
   exact hp e.2.1
end
theorem keysRow_at {w : World} {B n c : Nat} {a : Option Addr} {l : List K} (h : w.ownsRow B 58 3 (.slice a n c) n (Kd l)) : Jq w a l := (Ki.row h).keys
theorem rsend_any {Bo B b : Nat} {w : World} {f : Nat -> Value} {x : Nd} {ps : List Pk} (h : RfAt w B b f x) (hout : OutR w Bo (f 24) ps) (ho : Ok x) (hBo : Bo <= w.heap.size) (hps : ps.length < 1000) (dst kind seq tgt : Int) (hs : 0 <= seq /\ seq <= 4294967295)
  (ups : List K) (ua : Option Addr) (un uc : Nat) (hun : ups.length = un) (hu8 : un <= 8) (hk : Jq w ua ups) (hki : ∀ k ∈ ups, 0 <= k.inc /\ k.inc <= 4294967295) :
  Calls Tryz.prog 61 #[.pointer (some ⟨b, 0, none⟩), .int .i64 dst, .agg #[.int .i64 kind, .int .i64 0, .int .i64 0, .int .i64 seq, .int .i64 tgt, .slice ua un uc]] w fun e w' => e = .returned (.tuple #[]) /\ ∃ f', RSt Bo B b w f w' f' (x.sent ⟨kind, 0, 0, seq, tgt, ups⟩) (ps ++ [(dst, x.msg ⟨kind, 0, 0, seq, tgt, ups⟩)]) := by
 have hS0 := RSt.refl h hout; have c10 : ∀ o, (w.alloc o).cell? ⟨b, 10, none⟩ = some (.int .i64 x.self.id) := fun o => by rw [<- h.s10]; exact (h.blk.alloc o).cell (by omega)
 have c11 : ∀ o, (w.alloc o).cell? ⟨b, 11, none⟩ = some (.int .i64 x.self.inc) := fun o => by rw [<- h.s11]; exact (h.blk.alloc o).cell (by omega)
 have hbl := h.blk.lt; have hself := ho.self; have HS0 := Hd hS0; have HO := Hd ho; have HK := Hd hk; have HKI := Hd hki; have HUN := Hd hun; clear h hout ho hk hki hun hS0; go_enter Tryz.func61, Tryz.ntmps61; go_upto_if 22 with (fail); obtain ⟨w1, hw1⟩ : ∃ w1, w.alloc (.cells #[.int .i64 kind, .int .i64 x.self.id, .int .i64 x.self.inc, .int .i64 seq, .int .i64 tgt, .slice ua un uc] 33) = w1 := ⟨_, rfl⟩; rw [hw1]; have hb1 : Below w.heap.size w w1 := by rw [<- hw1]; exact (Below.refl _ _).alloc (Nat.le_refl _) _
 have hx1 : w1.heap[w.heap.size]? = some (.cells #[.int .i64 kind, .int .i64 x.self.id, .int .i64 x.self.inc, .int .i64 seq, .int .i64 tgt, .slice ua un uc] 33 (0, 0)) := by rw [<- hw1]; exact Kc w _
 have HS1 := Hd (HS0.out.below hb1); have HX1 := Hd hx1; have HK1 := Hd (HK.out.below hb1); have hsz1 := hb1.size; clear hw1 hb1 hx1 c10 c11; obtain ⟨m, hm⟩ : ∃ m : M, (⟨kind, 0, 0, seq, tgt, ups⟩ : M) = m := ⟨_, rfl⟩; have hmu : (x.msg m).ups = if kind < 4 then x.first.map (·.k) else ups := by rw [<- hm]; rfl
 have HM := Hd hm; have HMU := Hd hmu; clear hmu hm; go_cut [] (fun wx => ∃ f1 ua' uc', RSt Bo B b w f wx f1 (x.sent m) ps /\ wx.heap[w.heap.size]? = some (.cells #[.int .i64 kind, .int .i64 x.self.id, .int .i64 x.self.inc, .int .i64 seq, .int .i64 tgt, .slice ua' (x.msg m).ups.length uc'] 33 (0, 0)) /\ Jq wx ua' (x.msg m).ups)
 case first =>
  by_cases h4 : kind < 4
  · have hup := rupdates_any HS1.out.at_ HS1.out.out HO.out
    have HUP := Hd hup; have hsnt : x.sent m = x.take := by rw [<- HM.out]; unfold Nd.sent; rw [if_pos h4]
    have HSN := Hd hsnt; have hmul : (x.msg m).ups = x.first.map (·.k) := by rw [HMU.out, if_pos h4]
    have HML := Hd hmul; clear hup hsnt hmul
    go_wp2_with (go_at_call 87; refine HUP.out.mono ?_; rintro e w2 ⟨v, f2, rfl, hrow, hT⟩
                 have hx2 := hT.kept HX1.out HS1.out.at_ (by decide) (by decide)
                 have cx := Ka hx2 5; simp only [List.getElem?_toArray, List.getElem?_cons_succ, List.getElem?_cons_zero] at cx; have fx := Kr hx2 5; obtain ⟨va, vc, rfl⟩ := Kg hrow; have HX2 := Hd hx2; have HROW := Hd hrow; have HT := Hd (HS1.out.trans hT); clear hx2 hrow hT)
    go_meet
    case rel =>
     have hlen : (x.msg m).ups.length = x.first.length := by rw [HML.out, List.length_map]
     have hc := (Chg.refl (fun k _ => k = w.heap.size) w2).setCell (p := ⟨w.heap.size, 5, none⟩) (.slice va x.first.length vc) (fun _ _ => rfl)
     refine ⟨f2, va, vc, ?_, ?_, ?_⟩
     · rw [HSN.out]
       refine ⟨HT.out.at_.typed hc (fun k cs t fr hk e => ?_), Kq HT.out.out hc (fun k o hk e => ?_), ?_, HT.out.own, HT.out.ownW, HT.out.six⟩
       · subst e
         rw [HX2.out] at hk; simp only [Option.some.injEq, Obj.cells.injEq] at hk; rw [<- hk.2.1]; decide
       · subst e
         obtain ⟨_, cur, hg⟩ := Ke HT.out.out hk; rw [HX2.out] at hg; simp only [Option.some.injEq, Obj.cells.injEq] at hg; exact absurd hg.2.1 (by decide)
       · exact ⟨hc.os.trans HT.out.chg.os, hc.tape.trans HT.out.chg.tape, hc.output.trans HT.out.chg.output, Nat.le_trans HT.out.chg.size hc.size, fun k o hk hs => hc.kept k o (HT.out.chg.kept k o hk hs) (fun e => by have := Kb hk; omega)⟩
     · rw [hlen]; exact Kf HX2.out
     · rw [HML.out]
       refine keysRow_at (n := x.first.length) (B := w1.heap.size) (Kq HROW.out hc (fun k o hk e => ?_))
       subst e; obtain ⟨_, cur, hg⟩ := Ke HROW.out hk; rw [HX2.out] at hg; simp only [Option.some.injEq, Obj.cells.injEq] at hg; exact absurd hg.2.1 (by decide)
  · have hsnt : x.sent m = x := by rw [<- HM.out]; unfold Nd.sent; rw [if_neg h4]
    have HSN := Hd hsnt; have hmul : (x.msg m).ups = ups := by rw [HMU.out, if_neg h4]
    have HML := Hd hmul; clear hsnt hmul; go_wp2; go_meet
    case rel => exact ⟨f, ua, uc, by rw [HSN.out]; exact HS1.out, by rw [HML.out, HUN.out]; exact HX1.out, by rw [HML.out]; exact HK1.out⟩
 case rest =>
  obtain ⟨f1, ua', uc', hS2, hx2, hk2⟩ := hcut; have d0 := Ka hx2 0; have d1 := Ka hx2 1; have d2 := Ka hx2 2; have d3 := Ka hx2 3; have d4 := Ka hx2 4; have d5 := Ka hx2 5; simp only [List.getElem?_toArray, List.getElem?_cons_succ, List.getElem?_cons_zero] at d0 d1 d2 d3 d4 d5; have hmsg : x.msg m = ⟨kind, x.self.id, x.self.inc, seq, tgt, (x.msg m).ups⟩ := by rw [<- HM.out]; rfl
  have hu8' : (x.msg m).ups.length <= 8 := by
   rw [HMU.out]
   split
   · rw [List.length_map]; have := first_len x; omega
   · rw [HUN.out]; exact hu8
  have hui : ∀ k ∈ (x.msg m).ups, 0 <= k.inc /\ k.inc <= 4294967295 := fun k hk => by
   rw [HMU.out] at hk
   split at hk
   · have := (HO.out.firstKeys k hk).2.1; omega
   · exact HKI.out k hk
  have hby := rbytes_any kind x.self.id x.self.inc seq tgt (x.msg m).ups ua' uc' wc (by omega) hk2 (by have := hself.2.1; omega) hs hui
  rw [<- hmsg] at hby; obtain ⟨S, hS⟩ : ∃ S, strOfNums (Jr (x.msg m)) = S := ⟨_, rfl⟩; rw [hS] at hby; obtain ⟨un', hun'⟩ : ∃ un', (x.msg m).ups.length = un' := ⟨_, rfl⟩; rw [hun'] at hby d5; have HBY := Hd hby; have HS := Hd hS; have HS2 := Hd hS2; obtain ⟨i0, hi, hz0, hz1, hz2⟩ := info_parts info_rpk; clear hS2 hx2 hk2 hmsg hu8' hui hby hS hun' HS1 HX1 HK1 HS0 HK HKI HUN HMU; go_wp2_with fail
  refine HBY.out.mono ?_; rintro e w3 ⟨rfl, hb3⟩; have hS3 := HS2.out.below hb3; obtain ⟨oa, oc, e24⟩ := Kg hS3.out; obtain ⟨on, hon⟩ : ∃ on, ps.length = on := ⟨_, rfl⟩; rw [hon] at e24; have c24 : w3.cell? ⟨b, 24, none⟩ = some (.slice oa on oc) := by rw [<- e24]; exact hS3.at_.blk.cell (by omega)
  have hrow : (w3.alloc (.cells #[.int .i64 dst, .string S] 60)).ownsRow Bo 60 2 (.slice oa on oc) on (Kk (ps.map wirePk)) := by have := hS3.out; rw [e24] at this; unfold OutR at this; rw [hon] at this; exact this.alloc _
  have HROW := Hd hrow; have HNEW := Hd (Kt w3 [.int .i64 dst, .string S] 60 (n := w3.heap.size) rfl); have HS3 := Hd (hS3.below ((Below.refl _ w3).alloc (Nat.le_refl _) (.cells #[.int .i64 dst, .string S] 60))); have E24 := Hd e24; have HON := Hd hon; have hon1 : on < 1000 := by omega
  have k3 : on + 1 <= maxLen := by unfold maxLen; omega
  have K3 := Hd k3; have hsz3 : Bo <= w3.heap.size := by have := hS3.chg.size; omega
  clear hb3 hS3 e24 hrow hon k3; go_wp2_with (at_builtin; refine wpList_append_to _ rfl _ _ 37 rfl Bo 60 i0 _ 2 24 Tryz.underlying37 hi hz0 hz1 hz2 rfl (by decide) (.slice oa on oc) on _ rfl HROW.out ⟨w3.heap.size, 0, none⟩ 1 1 _ rfl rfl HNEW.out (by simp [Value.oneCell']) (by omega) K3.out (by omega) (by simp; omega) ?_)
  intro g gc w4 hl4 hto4; obtain ⟨y24, z24, hS5⟩ := HS3.out.appOut (p := (dst, x.msg m)) (n := on + 1) (c := gc) (by rw [E24.out]; exact hto4) (by rw [HON.out]; show w4.ownsRow _ _ _ _ _ (_ ++ [_, .string (strOfNums (Jr (x.msg m)))]); rw [HS.out]; exact hl4)
  rw [E24.out] at y24; have HS5 := Hd hS5; clear hl4 hto4 hS5; go_wp2
  ((try simp only [Exit.inBlock, Exit.then]); first | refine bodyPost_ret (results_none rfl _ _ _) rfl ?_ | refine bodyPost_end (results_none rfl _ _ _) rfl ?_)
  exact ⟨rfl, _, by rw [HM.out]; exact HS5.out⟩
theorem rheard_any {Bo B b : Nat} {w : World} {f : Nat -> Value} {x : Nd} {ps : List Pk} (h : RfAt w B b f x) (hout : OutR w Bo (f 24) ps) (ho : Ok x) {C : Int} (hb : Bd C x) (hC : C <= 100000000000) (k : K) (hk : Jp k) :
  Calls Tryz.prog 71 #[.pointer (some ⟨b, 0, none⟩), .agg #[.int .i64 k.id, .int .i64 k.inc, .int .i64 k.st]] w fun e w' => e = .returned (.tuple #[]) /\ ∃ f', RSt Bo B b w f w' f' (x.hear k) ps := by
 by_cases hid : k.id = x.self.id
 · have e : x.hear k = x.refute k := by unfold Nd.hear; rw [if_pos hid]
   rw [e]; exact rheard_self h hout ho hb hC k hk hid
 · have hidb : (k.id == x.self.id) = false := by simpa using hid
   cases hf : Jo x.others k.id with
   | none =>
    by_cases hl : x.others.length = 7
    · have e : x.hear k = x := by unfold Nd.hear; rw [if_neg hid]; simp only [hf, if_pos hl]
      rw [e]; exact rheard_full h hout ho k hidb hf hl
    · have e : x.hear k = x.taken k := by unfold Nd.hear; rw [if_neg hid]; simp only [hf, if_neg hl]
      rw [e]; exact rheard_taken h hout ho hb hC k hk hidb (.inr ⟨hf, by have := ho.len; omega⟩)
   | some m =>
    cases hl : lessK m.k k with
    | false =>
     have e : x.hear k = x := by unfold Nd.hear; rw [if_neg hid]; simp [hf, hl]
     rw [e]; exact rheard_old h hout ho k hidb m hf hl
    | true =>
     have e : x.hear k = x.taken k := by unfold Nd.hear; rw [if_neg hid]; simp only [hf, hl, if_true]
     rw [e]; exact rheard_taken h hout ho hb hC k hk hidb (.inl ⟨m, hf, hl⟩)
theorem rdraw_any {Bo B b : Nat} {w : World} {f : Nat -> Value} {x : Nd} {ps : List Pk} (h : RfAt w B b f x) (hout : OutR w Bo (f 24) ps) {C : Int} (hbd : Bd C x) (hC : C <= 100000000000) (hdl : x.ds.length <= 1000000) (n : Int) (hn : 1 <= n /\ n <= 1000) :
  Calls Tryz.prog 109 #[.pointer (some ⟨b, 0, none⟩), .int .i64 n] w fun e w' => e = .returned (.int .i64 (x.draw n).1) /\ ∃ f', RSt Bo B b w f w' f' (x.draw n).2 ps := by
 obtain ⟨len, hlen⟩ : ∃ len, x.ds.length = len := ⟨_, rfl⟩; obtain ⟨da, dc, e6, hi⟩ := h.ds; rw [hlen] at e6 hdl; have c6 : w.cell? ⟨b, 6, none⟩ = some (.slice da len dc) := by rw [<- e6]; exact h.blk.cell (by omega)
 have hS := RSt.refl h hout; by_cases hds : x.ds = []
 · have e : x.draw n = (0, x) := by unfold Nd.draw; rw [if_pos hds]
   rw [e]; obtain rfl : len = 0 := by rw [<- hlen, hds]; rfl
   have HS := Hd hS; clear h hout hlen hi e6 hS e hds; go_enter Tryz.func109, Tryz.ntmps109; go_wp2; go_ret
   exact ⟨rfl, f, HS.out⟩
 · have e : x.draw n = (rawDraw x.ds x.at_ n, { x with at_ := x.at_ + 1 }) := by unfold Nd.draw; rw [if_neg hds]
   rw [e]; have hpos : 0 < len := by rw [<- hlen]; exact List.length_pos_iff.2 hds
   obtain ⟨at_, hat⟩ : ∃ k, x.at_ = k := ⟨_, rfl⟩; have hidx : at_ % len < x.ds.length := by rw [hlen]; exact Nat.mod_lt _ hpos
   obtain ⟨kv, hkv⟩ : ∃ kv, x.ds[at_ % len] = kv := ⟨_, rfl⟩; have hfit : fits kv := h.df kv (by rw [<- hkv]; exact List.getElem_mem hidx)
   unfold fits at hfit; obtain ⟨pb, po, hda, hpb, cv⟩ := hi.1 (at_ % len) (.int .i64 kv) (by rw [List.getElem?_map, List.getElem?_eq_getElem hidx, hkv]; rfl)
   subst hda; have c7 : w.cell? ⟨b, 7, none⟩ = some (.int .i64 (at_ : Int)) := by rw [<- hat, <- h.n7]; exact h.blk.cell (by omega)
   have f7 := h.blk.free 7
   have hraw : rawDraw x.ds x.at_ n = (if kv < 0 then -(kv + 1) else kv) % n := by
    unfold rawDraw; rw [hlen, hat, List.getD_eq_getElem?_getD, List.getElem?_eq_getElem hidx, hkv]; rfl
   have hatb : (at_ : Int) <= C := by rw [<- hat]; exact hbd.at_
   have w1 : IntKind.i64.wrap ((at_ : Int) + 1) = ((at_ + 1 : Nat) : Int) := by rw [IntWalk.i64_in _ (by omega)]; omega
   have r1 : ((at_ : Int).tmod (len : Int)) = ((at_ % len : Nat) : Int) := by rw [Int.tmod_eq_emod_of_nonneg (by omega)]; rfl
   have hT := fun nq => (hS.drewN nq).cell ((hS.drewN nq).at_.setAt (at_ + 1)) (by omega) (fun k hk => by simp [Value.ownBlock] at hk)
   have HT := Hd hT; have HRAW := Hd hraw; have HAT := Hd hat; have hml : at_ % len < len := Nat.mod_lt _ hpos; have hl2 : ((len : Int) == 0) = false := by simp; omega
   clear h hout e hds hlen hat hkv hidx hraw hi e6 hS hT hbd; go_enter Tryz.func109, Tryz.ntmps109; go_wp2; go_quiet (fail); by_cases hk : kv < 0
   · have w2 : IntKind.i64.wrap (kv + 1) = kv + 1 := IntWalk.i64_in _ (by omega)
     have w3 : IntKind.i64.wrap (-(kv + 1)) = -(kv + 1) := IntWalk.i64_in _ (by omega)
     have hge : 0 <= -(kv + 1) := by omega
     obtain ⟨y, hy⟩ : ∃ y, -(kv + 1) = y := ⟨_, rfl⟩; rw [hy] at w3 hge; have r2 : y.tmod n = y % n := Int.tmod_eq_emod_of_nonneg hge; have hn0 : (n == 0) = false := by simp; omega
     go_wp2; go_ret
     refine ⟨?_, _, by rw [HAT.out]; exact HT.out _⟩
     rw [HRAW.out, if_pos hk, hy]; rfl
   · have hge : 0 <= kv := by omega
     have r2 : kv.tmod n = kv % n := Int.tmod_eq_emod_of_nonneg hge; have hn0 : (n == 0) = false := by simp; omega
     go_wp2; go_ret
     refine ⟨?_, _, by rw [HAT.out]; exact HT.out _⟩
     rw [HRAW.out, if_neg (by omega)]; rfl
theorem rleave_any {B b : Nat} {w : World} {f : Nat -> Value} {x : Nd} (h : RfAt w B b f x) (ho : Ok x) {C : Int} (hb : Bd C x) (hC : C <= 100000000000) :
  Calls Tryz.prog 40 #[.pointer (some ⟨b, 0, none⟩)] w fun e w' => e = .returned (.int .i64 x.leave.1) /\ ∃ f', RSq B b w f w' f' x.leave.2 := by
 have c12 : w.cell? ⟨b, 12, none⟩ = some (.int .i64 x.self.st) := by rw [<- h.s12]; exact h.blk.cell (by omega)
 have c11 : w.cell? ⟨b, 11, none⟩ = some (.int .i64 x.self.inc) := by rw [<- h.s11]; exact h.blk.cell (by omega)
 have c10 : w.cell? ⟨b, 10, none⟩ = some (.int .i64 x.self.id) := by rw [<- h.s10]; exact h.blk.cell (by omega)
 have f12 := h.blk.free 12; have hS := RSq.refl h; by_cases h4 : x.self.st = 4
 · have e : x.leave = (4, x) := by unfold Nd.leave; rw [if_pos h4]
   rw [e]; rw [h4] at c12; have HS := Hd hS; clear h ho hb hS e h4; go_enter Tryz.func40, Tryz.ntmps40; go_wp2; go_ret
   exact ⟨rfl, f, HS.out⟩
 · have e : x.leave = (0, ({ x with self := { x.self with st := 4 } } : Nd).changed { x.self with st := 4 }) := by unfold Nd.leave; rw [if_neg h4]
   rw [e]; have h4b : (x.self.st == 4) = false := by simpa using h4
   have hS2 := hS.cell (hS.at_.setSt 4) (by omega) (fun k hk => by simp [Value.ownBlock] at hk)
   have hch := rchanged_q hS2.at_ ho.qlen ho.evs ⟨hb.lost.1, by have := hb.lost.2; show x.lost <= _; omega⟩ ⟨x.self.id, x.self.inc, 4⟩
   have HS2 := Hd hS2; have HCH := Hd hch; clear h ho hb hS e h4 hS2 hch; go_enter Tryz.func40, Tryz.ntmps40; go_wp2_with (go_at_call 65; refine HCH.out.mono ?_; rintro e w2 ⟨rfl, f2, hT2⟩)
   go_ret
   exact ⟨rfl, f2, HS2.out.trans hT2⟩
theorem rjoin_any {B b : Nat} {w : World} {f : Nat -> Value} {x : Nd} (h : RfAt w B b f x) (ho : Ok x) {C : Int} (hb : Bd C x) (hC : C <= 4000000000) (n : Int) :
  Calls Tryz.prog 37 #[.pointer (some ⟨b, 0, none⟩), .int .i64 n] w fun e w' => ∃ f' v, e = .returned (.tuple #[v, .int .i64 (x.join n).2.1]) /\ RSt w.heap.size B b w f w' f' (x.join n).2.2 (x.join n).1 /\ OutR w' w.heap.size v (x.join n).1 := by
 obtain ⟨oa, on, oc, e24⟩ := h.o24; have c24 : w.cell? ⟨b, 24, none⟩ = some (.slice oa on oc) := by rw [<- e24]; exact h.blk.cell (by omega)
 have f24 := h.blk.free 24; have hR1 := h.setOut none 0 0
 have hS1 : RSt w.heap.size B b w f (w.setCell ⟨b, 24, none⟩ (.slice none 0 0)) (upd f 24 (.slice none 0 0)) x [] := by
  refine ⟨hR1, by rw [Ku]; exact World.ownsRow_nil _ _ _ _, (Chg.refl _ _).setCell _ (fun _ _ => .inl (.inl rfl)), fun k hk => ?_, fun k hk => ?_, Kh _ _ _ (by omega)⟩
  · unfold RFoot at hk
    rw [Kh _ _ _ (by omega), Kh _ _ _ (by omega), Kh _ _ _ (by omega), Kh _ _ _ (by omega), Kh _ _ _ (by omega)] at hk
    exact .inl hk
  · unfold RWr at hk
    rw [Kh _ _ _ (by omega), Kh _ _ _ (by omega), Kh _ _ _ (by omega)] at hk
    exact .inl hk
 obtain ⟨w1, hw1⟩ : ∃ w1, w.setCell ⟨b, 24, none⟩ (.slice none 0 0) = w1 := ⟨_, rfl⟩; rw [hw1] at hS1; have hsz1 : w1.heap.size = w.heap.size := by rw [<- hw1]; simp
 have c12 : w1.cell? ⟨b, 12, none⟩ = some (.int .i64 x.self.st) := by rw [<- hS1.at_.s12]; exact hS1.at_.blk.cell (by omega)
 have c10 : w1.cell? ⟨b, 10, none⟩ = some (.int .i64 x.self.id) := by rw [<- hS1.at_.s10]; exact hS1.at_.blk.cell (by omega)
 have HW1 := Hd hw1; have HS1 := Hd hS1; have HSZ1 := Hd hsz1; clear h hR1 hS1 hw1 hsz1 e24; by_cases h4 : x.self.st = 4
 · have e : x.join n = ([], 4, x) := by unfold Nd.join; rw [if_pos h4]
   rw [e]; rw [h4] at c12; clear e h4 ho hb; go_enter Tryz.func37, Tryz.ntmps37; go_wp2_with (go_at_call 47; rw [HW1.out]; refine (rid_any n _).mono ?_; rintro e w2 ⟨rfl, rfl⟩)
   go_ret2
   exact ⟨_, _, rfl, HS1.out, World.ownsRow_nil _ _ _ _⟩
 · have h4b : (x.self.st == 4) = false := by simpa using h4
   by_cases hn : n < 1 \/ n > 250 \/ n = x.self.id
   · have e : x.join n = ([], 3, x) := by unfold Nd.join; rw [if_neg h4, if_pos hn]
     rw [e]
     have hways : (Kl n 1 250 = false) \/ (Kl n 1 250 = true /\ (n == x.self.id) = true) := by
      unfold Kl; by_cases ha : 1 <= n <;> by_cases hb : n <= 250 <;> simp [ha, hb]; omega
     clear e h4 ho hb hn; rcases hways with hw | ⟨hw, hid⟩
     all_goals
      have hrid := rid_any n w1; rw [hw] at hrid; have HRID := Hd hrid; clear hrid hw; go_enter Tryz.func37, Tryz.ntmps37; go_wp2_with (go_at_call 47; rw [HW1.out]; refine HRID.out.mono ?_; rintro e w2 ⟨rfl, rfl⟩)
      go_ret2
      exact ⟨_, _, rfl, HS1.out, World.ownsRow_nil _ _ _ _⟩
   · have e : x.join n = ([(n, x.next.msg ⟨4, 0, 0, x.seq + 1, 0, []⟩)], 0, x.next) := by unfold Nd.join; rw [if_neg h4, if_neg hn]
     rw [e]; have hw : Kl n 1 250 = true := by unfold Kl; simp; omega
     have hid : (n == x.self.id) = false := by simp; omega
     have hrid := rid_any n w1; rw [hw] at hrid; have hsq := hb.seq; have hnx := rnext_any HS1.out.at_ HS1.out.out (by omega)
     have HRID := Hd hrid; have HNX := Hd hnx; have HO := Hd ho.next; clear e h4 ho hn hrid hw hnx hb; go_enter Tryz.func37, Tryz.ntmps37
     go_wp2_with (first
      | (go_at_call 47; rw [HW1.out]; refine HRID.out.mono ?_; rintro e w2 ⟨rfl, rfl⟩)
      | (go_at_call 60; refine HNX.out.mono ?_; rintro e w3 ⟨rfl, f3, hT3⟩; have HT3 := Hd hT3; clear hT3)
      | (go_at_call 61; refine (rsend_any HT3.out.at_ HT3.out.out HO.out (by have := HT3.out.chg.size; have := HSZ1.out; omega) (by simp) n 4 (x.seq + 1) 0 (by omega) [] none 0 0 rfl (by omega) (fun i k hk => by simp at hk) (fun k hk => by simp at hk)).mono ?_; rintro e w4 ⟨rfl, f4, hT4⟩
         have hout4 := hT4.out; obtain ⟨ra, rc, e24⟩ := Kg hout4; have c24' := hT4.at_.blk.cell (i := 24) (by omega)
         rw [e24] at c24' hout4; have HT4 := Hd hT4; have HOUT4 := Hd hout4; clear hT4 hout4 e24))
     go_ret2
     refine ⟨f4, _, rfl, ?_, HOUT4.out⟩; exact (HS1.out.trans HT3.out).trans HT4.out
