/-
  gossipkeep.Finds. THE WALK.
-/
import Derived.Test.YtfngdplkcppabaaGreatPart24
set_option linter.all false
namespace Go.Proofs.YtfngdplkcppabaaGreat
open Go.RowKit

theorem gs_set {M : List Bx} {q : Bx} (hq : M[0]? = some q) (j : Nat) (a : Ad) (x : Nd) {z : Bx} (hz : M[j]? = some z) : (M.set j ⟨z.g, a, x⟩)[0]?.map Bx.g = some q.g := by
  by_cases e : j = 0
  · subst e
    rw [List.getElem?_set_self (List.getElem?_eq_some_iff.1 hz).1]
    rw [hq] at hz; cases hz; rfl
  · rw [List.getElem?_set_ne e, hq]; rfl
theorem bx_at {M : List Bx} {i : Nat} {x : Nd} (h : (M.map Bx.x)[i]? = some x) : ∃ q, M[i]? = some q ∧ q.x = x := by
  rw [List.getElem?_map] at h
  obtain ⟨q, hq, e⟩ := Option.map_eq_some_iff.1 h
  exact ⟨q, hq, e⟩
theorem findS_made {k : Nat} {c g : Int} {ds : List Int} {xs : List Nd} (h : Mid k 10000 c (ds.take 50) k 0 xs) (hk : 2 ≤ k ∧ k ≤ 6) (hg : 2 ≤ g ∧ g ≤ k) :
    FindS k g (cfgOf 1 c).period (cfgOf 1 c).susp (1 + (cfgOf 1 c).period * ((k : Int) - 1)) 10000 0 [] xs := by
  obtain ⟨x, hx⟩ : ∃ x, xs[0]? = some x := ⟨_, List.getElem?_eq_getElem (by rw [h.len]; omega)⟩
  obtain ⟨y1, y2, y3, y4⟩ := h.young 0 x hx
  have hkn : Known k 1 x := fun j h1 h2 h3 => by
    have := h.kn 0 (j - 1).toNat x hx (by omega) (by omega) (.inl (by omega))
    rw [show ((j - 1).toNat : Int) + 1 = j by omega] at this; exact this
  have hb := cfg_bounds (cfgOf_ok c (self := 1) (by omega))
  have hD : 0 ≤ 1 + (cfgOf 1 c).period * ((k : Int) - 1) := by
    have := Int.mul_nonneg (show 0 ≤ (cfgOf 1 c).period by omega) (show 0 ≤ (k : Int) - 1 by omega)
    omega
  obtain ⟨f1, f2⟩ := find_young (g := g) (P := (cfgOf 1 c).period) (S := (cfgOf 1 c).susp) (D := 1 + (cfgOf 1 c).period * ((k : Int) - 1)) (show Young k 1 x from y1) hkn (by rw [y2]; rfl) (by rw [y2]; rfl) hg hD
  refine ⟨h.len, ⟨x, hx, .inl ⟨f1, f2, by simp⟩, y1.clock, y4, by rw [y3, List.length_take]; omega⟩, fun a z hz ha => ?_⟩
  obtain ⟨z1, _, _, z4⟩ := h.young a z hz
  exact ⟨fun hne => z1.calm.mono g hne, z4⟩
set_option maxRecDepth 100000 in
set_option maxHeartbeats 8000000 in
theorem finds_any (n c silent : Int) (hn : -9223372036854775808 ≤ n ∧ n ≤ 9223372036854775807) (hc : -9223372036854775808 ≤ c ∧ c ≤ 9223372036854775807) (hs : -9223372036854775808 ≤ silent ∧ silent ≤ 9223372036854775807)
    (ds : List Int) (hfit : ∀ v ∈ ds, fitsI v) (da : Option Addr) (dn dc : Nat) (w : World) (hdn : ds.length = dn) (hl : dn ≤ 9223372036854775807) (hd : CellsAt w da (ds.map (Value.int .i64))) :
    Calls Tryz.prog 4 #[.int .i64 n, .int .i64 c, .slice da dn dc, .int .i64 silent] w fun e w' => e = .returned (.bool true) ∧ Below w.heap.size w w' := by
  have p1 := pickI_bd n 5 (by omega)
  obtain ⟨k, hk⟩ : ∃ k : Nat, 2 + pickI n 5 = (k : Int) := ⟨(2 + pickI n 5).toNat, by omega⟩
  have hk6 : 2 ≤ k ∧ k ≤ 6 := by omega
  have wk : IntKind.i64.wrap (2 + pickI n 5) = (k : Int) := by rw [IntWalk.i64_in _ (by omega)]; exact hk
  have wk1 : IntKind.i64.wrap ((k : Int) - 1) = (k : Int) - 1 := IntWalk.i64_in _ (by omega)
  have p2 := pickI_bd silent ((k : Int) - 1) (by omega)
  obtain ⟨g, hg⟩ : ∃ g, 2 + pickI silent ((k : Int) - 1) = g := ⟨_, rfl⟩
  have wg : IntKind.i64.wrap (2 + pickI silent ((k : Int) - 1)) = g := by rw [IntWalk.i64_in _ (by omega)]; exact hg
  have hg2 : 2 ≤ g ∧ g ≤ k := by omega
  have hmade := made_any k hk6 c hc ds hfit da dn dc w hdn hl hd
  have hcf := cfg_bounds (cfgOf_ok c (self := 1) (by omega))
  have hP11 : (cfgOf 1 c).period ≤ 11 := by
    have := pickI_bd c 1073741824 (by omega)
    show 4 + pickI c 1073741824 % 8 ≤ 11; omega
  obtain ⟨P, hP⟩ : ∃ P, (cfgOf 1 c).period = P := ⟨_, rfl⟩
  obtain ⟨S, hS⟩ : ∃ S, (cfgOf 1 c).susp = S := ⟨_, rfl⟩
  rw [hP, hS] at hcf
  rw [hP] at hP11
  have hkP : 0 ≤ 2 * (k : Int) * (P + 1) ∧ 2 * (k : Int) * (P + 1) ≤ 144 ∧ 1 + P * ((k : Int) - 1) + S < 2 * (k : Int) * (P + 1) + S + 2 := by
    have : k = 2 ∨ k = 3 ∨ k = 4 ∨ k = 5 ∨ k = 6 := by omega
    rcases this with e | e | e | e | e <;> subst e <;> omega
  obtain ⟨T, hT⟩ : ∃ T : Nat, 2 * (k : Int) * (P + 1) + S + 2 = (T : Int) := ⟨(2 * (k : Int) * (P + 1) + S + 2).toNat, by omega⟩
  have w2k : IntKind.i64.wrap (2 * (k : Int)) = 2 * (k : Int) := IntWalk.i64_in _ (by omega)
  have wP1 : IntKind.i64.wrap (P + 1) = P + 1 := IntWalk.i64_in _ (by omega)
  obtain ⟨kp, hkp⟩ : ∃ kp, 2 * (k : Int) * (P + 1) = kp := ⟨_, rfl⟩
  have wkp : IntKind.i64.wrap (2 * (k : Int) * (P + 1)) = kp := by rw [IntWalk.i64_in _ (by omega)]; exact hkp
  rw [hkp] at hkP hT
  have wS : IntKind.i64.wrap (kp + S) = kp + S := IntWalk.i64_in _ (by omega)
  have wT : IntKind.i64.wrap (kp + S + 2) = (T : Int) := by rw [IntWalk.i64_in _ (by omega)]; exact hT
  have hT700 : T ≤ 700 := by omega
  have HM := Lib.hid hmade
  have HP := Lib.hid hP
  have HS := Lib.hid hS
  have HKP := Lib.hid hkP
  have HTT := Lib.hid hT
  clear hmade hd hdn hfit hk hg hP hS hkp hT hkP
  go_enter Tryz.func4, Tryz.ntmps4
  go_wp2_with fail
  refine (pick_any n 5 _ hn.1 hn.2 (by decide)).mono ?_
  rintro e w0 ⟨rfl, rfl⟩
  go_wp2_with fail
  refine HM.out.mono ?_
  rintro e w1 ⟨v, l, rfl, hNs, hMid, hb1⟩
  have hll : l.length = k := by rw [← hMid.len, List.length_map]
  obtain ⟨rg, cp, rfl⟩ := hNs.sl (by omega)
  rw [hll] at hNs ⊢
  obtain ⟨q, hq⟩ : ∃ q, l[0]? = some q := ⟨l[0], List.getElem?_eq_getElem (by omega)⟩
  have cq := hNs.cell hq
  have hF := findS_made hMid hk6 hg2
  rw [HP.out, HS.out] at hF
  have HNS := Lib.hid hNs
  have HF := Lib.hid hF
  have HB1 := Lib.hid hb1
  have HQ := Lib.hid hq
  clear hNs hMid hb1 hF hq
  go_wp2_with fail
  refine (pick_any silent _ _ hs.1 hs.2 (by omega)).mono ?_
  rintro e w2 ⟨rfl, rfl⟩
  go_wp2_with fail
  refine (config_any 1 c _ hc.1 hc.2).mono ?_
  rintro e w3 ⟨rfl, hb3⟩
  unfold Cfg.v
  rw [HP.out, HS.out]
  have HB3 := Lib.hid hb3
  clear hb3
  go_wp2_with fail
  have hb31 : Below w.heap.size w w3 := HB1.out.trans (HB3.out.mono HB1.out.size)
  have hNl : Ns (w3.alloc (.cells #[.int .i64 (cfgOf 1 c).self, .int .i64 P, .int .i64 (cfgOf 1 c).wait, .int .i64 S, .int .i64 (cfgOf 1 c).prox, .int .i64 (cfgOf 1 c).sends] 50)) w.heap.size (.slice (some ⟨rg, 0, none⟩) k cp) l := (HNS.out.below HB3.out).below ((Below.refl _ _).alloc (Nat.le_refl _) _)
  have HNL := Lib.hid hNl
  have HB31 := Lib.hid (hb31.alloc hb31.size (.cells #[.int .i64 (cfgOf 1 c).self, .int .i64 P, .int .i64 (cfgOf 1 c).wait, .int .i64 S, .int .i64 (cfgOf 1 c).prox, .int .i64 (cfgOf 1 c).sends] 50))
  clear hNl hb31 cq
  go_loopw [15] (fun s15 wr => ∃ (t : Nat) (M : List Bx), t ≤ T ∧ s15 = .int .i64 (t : Nat) ∧ Ns wr w.heap.size (.slice (some ⟨rg, 0, none⟩) k cp) M ∧ FindS k g P S (1 + P * ((k : Int) - 1)) (10000 + 100 * (t : Int)) t [] (M.map Bx.x) ∧ M[0]?.map Bx.g = some q.g ∧ Below w.heap.size w wr)
    (fun s15 _ => 1000 - (intOf s15).toNat)
  case atStart => exact ⟨0, l, Nat.zero_le _, rfl, HNL.out, HF.out, by rw [HQ.out]; rfl, HB31.out⟩
  case round =>
    obtain ⟨t, M, htT, rfl, hNs, hF, hgq, hb⟩ := hrel
    obtain ⟨q0, hq0, hg0⟩ := Option.map_eq_some_iff.1 hgq
    have hsz := hb.size
    have cb := hNs.box hq0
    rw [hg0] at cb
    by_cases htl : t < T
    · obtain ⟨hok, hbd, hds, hlen, hF4⟩ := hF.tick (by omega) rfl (x_at hq0)
      obtain ⟨ov, hnode⟩ := hNs.nodeOf hq0
      have htick := tick_any hok hbd (by omega) (by omega) q0.a ov wr hnode
      have HTICK := Lib.hid htick
      have HN0 := Lib.hid hNs
      have HQ0 := Lib.hid hq0
      have HG0 := Lib.hid hg0
      have HF4 := Lib.hid hF4
      have HBW := Lib.hid hb
      clear hNs hF hgq hq0 hg0 hb hok hbd hds hF4 hnode htick
      go_wp2_with fail
      refine HTICK.out.mono ?_
      rintro e w4 ⟨v, rfl, hG⟩
      obtain ⟨a4, hN4, hO4, hB4, hT4⟩ := HN0.out.gives hsz HQ0.out hG
      obtain ⟨ps, hps⟩ : ∃ ps, q0.x.tick.1 = ps := ⟨_, rfl⟩
      rw [hps] at hO4 hlen
      obtain ⟨oa, oc, rfl⟩ := hO4.sl
      have hF4' := HF4.out
      rw [hps] at hF4'
      have hgs := (gs_set HQ0.out 0 a4 q0.x.tick.2 HQ0.out).trans (by rw [HG0.out])
      have hx4 : (M.set 0 ⟨q0.g, a4, q0.x.tick.2⟩).map Bx.x = (M.map Bx.x).set 0 q0.x.tick.2 := by rw [map_set_x]
      rw [← hx4] at hF4'
      have HN4 := Lib.hid hN4
      have HO4 := Lib.hid hO4
      have HF5 := Lib.hid hF4'
      have HGS := Lib.hid hgs
      have HB4 := Lib.hid (HBW.out.trans hB4)
      clear hG hN4 hO4 hB4 hT4 hps hF4' hgs hx4 cb
      go_wp2_with fail
      go_loopw [17] (fun s17 wr => ∃ (i : Nat) (M2 : List Bx) (B : Nat), i ≤ ps.length ∧ s17 = .int .i64 (i : Nat) ∧ Ns wr w.heap.size (.slice (some ⟨rg, 0, none⟩) k cp) M2 ∧ FindS k g P S (1 + P * ((k : Int) - 1)) (10000 + 100 * (t : Int) + 20 + 20 * (i : Int)) ((t : Int) + 1) (ps.drop i) (M2.map Bx.x) ∧ M2[0]?.map Bx.g = some q.g ∧ OutRow wr B (.slice oa ps.length oc) ps ∧ Below w.heap.size w wr)
        (fun s17 _ => 10 - (intOf s17).toNat)
      case atStart => exact ⟨0, _, _, Nat.zero_le _, rfl, HN4.out, by simpa using HF5.out, HGS.out, HO4.out, HB4.out⟩
      case round =>
        clear HN4 HO4 HF5 HGS HB4 HTICK HN0 HQ0 HG0 HF4 HBW hsz
        obtain ⟨i, M2, B, hip, rfl, hNs, hF, hgq, hO, hb⟩ := hrel
        obtain ⟨q0, hq0, hg0⟩ := Option.map_eq_some_iff.1 hgq
        have hsz := hb.size
        by_cases hil : i < ps.length
        · obtain ⟨pk, hpk⟩ : ∃ pk, ps[i]? = some pk := ⟨_, List.getElem?_eq_getElem hil⟩
          have hdrop : ps.drop i = pk :: ps.drop (i + 1) := by
            rw [List.drop_eq_getElem_cons hil]
            obtain ⟨_, e⟩ := List.getElem?_eq_some_iff.1 hpk
            rw [e]
          rw [hdrop] at hF
          obtain ⟨og, rfl, o0, o1⟩ := hO.at_ hpk
          by_cases hsk : pk.1 = g ∨ pk.1 < 1 ∨ (k : Int) < pk.1
          · have HF := Lib.hid (hF.skip hsk)
            have HNI := Lib.hid hNs
            have HO := Lib.hid hO
            have HBI := Lib.hid hb
            have HGQ := Lib.hid hgq
            clear hF hNs hO hb hgq hpk hdrop hq0
            rcases hsk with e | e | e
            · have eb : (pk.1 == g) = true := by simpa using e
              clear e
              go_wp2
              go_roundw
              case rel => exact ⟨i + 1, M2, B, by omega, by go_num, HNI.out, HF.out.mono (by omega), HGQ.out, HO.out, HBI.out⟩
              case measure => simp [intOf]; omega
            · go_wp2
              all_goals
                go_roundw
                case rel => exact ⟨i + 1, M2, B, by omega, by go_num, HNI.out, HF.out.mono (by omega), HGQ.out, HO.out, HBI.out⟩
                case measure => simp [intOf]; omega
            · go_wp2
              all_goals
                go_roundw
                case rel => exact ⟨i + 1, M2, B, by omega, by go_num, HNI.out, HF.out.mono (by omega), HGQ.out, HO.out, HBI.out⟩
                case measure => simp [intOf]; omega
          · have hpg : pk.1 ≠ g := fun e => hsk (.inl e)
            have hpr : 1 ≤ pk.1 ∧ pk.1 ≤ k := by omega
            obtain ⟨j, x0, y, hje, hj1, hjk, hx0, hy, hoky, hby, hwp, hFB⟩ := hF.go (by omega) hpg hpr
            obtain ⟨qj, hqj, hqy⟩ := bx_at hy
            subst hqy
            obtain ⟨q00, hq00, hq0x⟩ := bx_at hx0
            obtain rfl : q0 = q00 := Option.some.inj (hq0.symm.trans hq00)
            subst hq0x
            have cj := hNs.cell hqj
            have cbj := hNs.box hqj
            obtain ⟨ovj, hnj⟩ := (hNs.drewN 1).nodeOf hqj
            have hpb : (pk.1 == g) = false := by simpa using hpg
            have wj : IntKind.i64.wrap (pk.1 - 1) = (j : Int) := by rw [IntWalk.i64_in _ (by omega)]; omega
            have hrec := receive_any hoky hby (by omega) qj.a ovj (wr.drewN 1) hnj (strOfNums (msgBytes pk.2)) (by have := bytes_size hwp; unfold maxLen; omega) (fun m' hm' => by rw [decode_bytes hwp] at hm'; cases hm'; exact mok_of hwp)
            rw [decode_bytes hwp] at hrec
            have HREC := Lib.hid hrec
            have HFB := Lib.hid hFB
            have HNI := Lib.hid (hNs.drewN 1)
            have HO := Lib.hid hO
            have HNJ := Lib.hid hnj
            have HBI := Lib.hid hb
            have HQJ := Lib.hid hqj
            have HQ0 := Lib.hid hq0
            have HG0 := Lib.hid hg0
            clear hrec hFB hNs hO hnj hb hqj hq0 hg0 hgq hF hpk hdrop hsk hpg hx0 hy hoky hby hwp hq00
            go_upto_region 17 with (fail)
            (refine wp_tail 17 (by kernel_rfl) (by kernel_rfl) ?_; simp only [List.take_succ_cons, List.take_zero, List.drop_succ_cons, List.drop_zero])
            iterate 17 still_step
            refine wpStill_nil ?_
            go_wp2_with fail
            refine HREC.out.mono ?_
            rintro e w5 ⟨v, rfl, hG⟩
            obtain ⟨aj, hN5, hO5, hB5, hT5⟩ := HNI.out.gives (show w.heap.size ≤ wr.heap.size from hsz) HQJ.out hG
            obtain ⟨bk, hbk⟩ : ∃ bk, (qj.x.receive (some pk.2)).1 = bk := ⟨_, rfl⟩
            have hFB := HFB.out
            rw [hbk] at hO5 hFB
            obtain ⟨ba, bc, rfl⟩ := hO5.sl
            have hOo : OutRow w5 B (.slice (some ⟨og, 0, none⟩) ps.length oc) ps := OutRow.turned (w := wr.drewN 1) (own_heap HO.out (fun _ _ => rfl)) HNJ.out hT5
            have hx5 : (M2.set j ⟨qj.g, aj, (qj.x.receive (some pk.2)).2⟩).map Bx.x = (M2.map Bx.x).set j (qj.x.receive (some pk.2)).2 := by rw [map_set_x]
            rw [← hx5] at hFB
            have hgs := (gs_set HQ0.out j aj (qj.x.receive (some pk.2)).2 HQJ.out).trans (by rw [HG0.out])
            have hb5 : Below w.heap.size w w5 := HBI.out.trans (below_ofDrew hB5)
            have hbl := hFB.one
            have HN5 := Lib.hid hN5
            have HO5 := Lib.hid hO5
            have HOO := Lib.hid hOo
            have HFB5 := Lib.hid hFB
            have HGS5 := Lib.hid hgs
            have HB5 := Lib.hid hb5
            clear hG hN5 hO5 hB5 hT5 hFB hOo hx5 hgs hb5 hbk o0 o1 cj cbj
            go_wp2_with fail
            go_loopw [19] (fun s19 wr => ∃ (m : Nat) (M3 : List Bx) (B1 B2 : Nat), m ≤ bk.length ∧ s19 = .int .i64 (m : Nat) ∧ Ns wr w.heap.size (.slice (some ⟨rg, 0, none⟩) k cp) M3 ∧ FindB k g P S (1 + P * ((k : Int) - 1)) (10000 + 100 * (t : Int) + 20 + 20 * (i : Int) + 10 + 10 * (m : Int)) ((t : Int) + 1) q0.x bk m (ps.drop (i + 1)) (M3.map Bx.x) ∧ M3[0]?.map Bx.g = some q.g ∧
                OutRow wr B1 (.slice (some ⟨og, 0, none⟩) ps.length oc) ps ∧ OutRow wr B2 (.slice ba bk.length bc) bk ∧ Below w.heap.size w wr)
              (fun s19 _ => 10 - (intOf s19).toNat)
            case atStart => exact ⟨0, _, _, _, Nat.zero_le _, rfl, HN5.out, by simpa using HFB5.out, HGS5.out, HOO.out, HO5.out, HB5.out⟩
            case round =>
              clear HN5 HO5 HOO HFB5 HGS5 HB5 HREC HFB HNI HO HNJ HBI HQJ HQ0 HG0 hsz
              obtain ⟨m, M3, B1, B2, hmb, rfl, hNs, hF, hgq, hO, hOb, hb⟩ := hrel
              obtain ⟨q1, hq1, hg1⟩ := Option.map_eq_some_iff.1 hgq
              have hsz := hb.size
              by_cases hml : m < bk.length
              · obtain ⟨b, hbm⟩ : ∃ b, bk[m]? = some b := ⟨_, List.getElem?_eq_getElem hml⟩
                obtain ⟨bg, rfl, b0, b1⟩ := hOb.at_ hbm
                by_cases hb1 : b.1 = 1
                · obtain ⟨hwb, hF2⟩ := hF.hear (by omega) hbm hb1
                  have hok := hF.ok
                  have hbd := hF.bd
                  have hq1x : q1.x = feed q0.x (bk.take m) := Option.some.inj ((x_at hq1).symm.trans hF.first)
                  rw [← hq1x] at hok hbd hF2
                  have cb := hNs.box hq1
                  rw [hg1] at cb
                  obtain ⟨ov1, hn1⟩ := (hNs.drewN 1).nodeOf hq1
                  have hb1b : (b.1 == 1) = true := by simpa using hb1
                  rw [hb1] at b0
                  have hrec := receive_any hok hbd (by omega) q1.a ov1 (wr.drewN 1) hn1 (strOfNums (msgBytes b.2)) (by have := bytes_size hwb; unfold maxLen; omega) (fun m' hm' => by rw [decode_bytes hwb] at hm'; cases hm'; exact mok_of hwb)
                  rw [decode_bytes hwb] at hrec
                  have HREC := Lib.hid hrec
                  have HF2 := Lib.hid hF2
                  have HNI := Lib.hid (hNs.drewN 1)
                  have HO := Lib.hid hO
                  have HOB := Lib.hid hOb
                  have HN1 := Lib.hid hn1
                  have HBI := Lib.hid hb
                  have HQ1 := Lib.hid hq1
                  have HG1 := Lib.hid hg1
                  clear hrec hF2 hNs hO hOb hn1 hb hq1 hg1 hgq hF hbm hb1 hok hbd hq1x hwb
                  go_upto_region 22 with (fail)
                  (refine wp_tail 9 (by kernel_rfl) (by kernel_rfl) ?_; simp only [List.take_succ_cons, List.take_zero, List.drop_succ_cons, List.drop_zero])
                  iterate 9 still_step
                  refine wpStill_nil ?_
                  go_wp2_with fail
                  refine HREC.out.mono ?_
                  rintro e w6 ⟨v, rfl, hG⟩
                  obtain ⟨a6, hN6, hO6, hB6, hT6⟩ := HNI.out.gives (show w.heap.size ≤ wr.heap.size from hsz) HQ1.out hG
                  have hOo : OutRow w6 B1 (.slice (some ⟨og, 0, none⟩) ps.length oc) ps := OutRow.turned (w := wr.drewN 1) (own_heap HO.out (fun _ _ => rfl)) HN1.out hT6
                  have hOk : OutRow w6 B2 (.slice (some ⟨bg, 0, none⟩) bk.length bc) bk := OutRow.turned (w := wr.drewN 1) (own_heap HOB.out (fun _ _ => rfl)) HN1.out hT6
                  have hx6 : (M3.set 0 ⟨q1.g, a6, (q1.x.receive (some b.2)).2⟩).map Bx.x = (M3.map Bx.x).set 0 (q1.x.receive (some b.2)).2 := by rw [map_set_x]
                  have hgs := (gs_set HQ1.out 0 a6 (q1.x.receive (some b.2)).2 HQ1.out).trans (by rw [HG1.out])
                  have HN6 := Lib.hid hN6
                  have HOO := Lib.hid hOo
                  have HOK := Lib.hid hOk
                  have HX6 := Lib.hid hx6
                  have HGS := Lib.hid hgs
                  have HB6 := Lib.hid (HBI.out.trans (below_ofDrew hB6))
                  clear hG hN6 hO6 hB6 hT6 hOo hOk hx6 hgs b0 b1 cb
                  go_wp2
                  go_roundw
                  case rel => exact ⟨m + 1, _, B1, B2, by omega, by go_num, HN6.out, by rw [HX6.out]; have := HF2.out; exact { this with bd := this.bd.mono (by omega), oth := fun a z hz ha => ⟨(this.oth a z hz ha).1, (this.oth a z hz ha).2.mono (by omega)⟩ }, HGS.out, HOO.out, HOK.out, HB6.out⟩
                  case measure => simp [intOf]; omega
                · have hF2 := hF.pass hbm hb1
                  have hb1b : (b.1 == 1) = false := by simpa using hb1
                  have HF2 := Lib.hid hF2
                  have HNI := Lib.hid hNs
                  have HO := Lib.hid hO
                  have HOB := Lib.hid hOb
                  have HBI := Lib.hid hb
                  have HGQ := Lib.hid hgq
                  clear hF2 hNs hO hOb hb hq1 hg1 hgq hF hbm hb1
                  go_wp2
                  go_roundw
                  case rel => exact ⟨m + 1, M3, B1, B2, by omega, by go_num, HNI.out, by have := HF2.out; exact { this with bd := this.bd.mono (by omega), oth := fun a z hz ha => ⟨(this.oth a z hz ha).1, (this.oth a z hz ha).2.mono (by omega)⟩ }, HGQ.out, HO.out, HOB.out, HBI.out⟩
                  case measure => simp [intOf]; omega
              · have HF2 := Lib.hid (hF.done (by omega))
                have HNI := Lib.hid hNs
                have HO := Lib.hid hO
                have HBI := Lib.hid hb
                have HGQ := Lib.hid hgq
                clear hNs hO hOb hb hq1 hg1 hgq hF
                go_wp2
                go_roundw
                case rel => exact ⟨i + 1, M3, B1, by omega, by go_num, HNI.out, HF2.out.mono (by omega), HGQ.out, HO.out, HBI.out⟩
                case measure => simp [intOf]; omega
        · have hie : ps.drop i = [] := List.drop_of_length_le (by omega)
          rw [hie] at hF
          have HF := Lib.hid hF
          have HNI := Lib.hid hNs
          have HBI := Lib.hid hb
          have HGQ := Lib.hid hgq
          clear hNs hO hb hq0 hg0 hgq hF hie
          go_wp2
          go_roundw
          case rel => exact ⟨t + 1, M2, by omega, by go_num, HNI.out, HF.out.mono (by omega), HGQ.out, HBI.out⟩
          case measure => simp [intOf]; omega
    · have hteq : (t : Int) = (T : Int) := by omega
      obtain ⟨x, h1, h2, h3, h4, h5⟩ := hF.first
      obtain rfl : q0.x = x := Option.some.inj ((x_at hq0).symm.trans h1)
      have hfind := (sends_done h2).1
      obtain ⟨hlen, hmem⟩ := find_end hfind (by have := HKP.out; have := HTT.out; omega)
      obtain ⟨ov, hnode⟩ := hNs.nodeOf hq0
      have hsee := see_any hfind.calm.ok q0.a ov wr hnode
      have HSEE := Lib.hid hsee
      have HMEM := Lib.hid hmem
      have HBW := Lib.hid hb
      have hl7 := hfind.calm.ok.len
      have wlen : ((q0.x.others.length : Nat) : Int) = (k : Int) - 1 := hlen
      clear hNs hF hgq hq0 hg0 hb h1 h2 h3 h4 h5 hfind hlen hmem hnode hsee
      go_wp2_with fail
      refine HSEE.out.mono ?_
      rintro e w7 ⟨v, rfl, hrow7, hb7⟩
      obtain ⟨va, vc, rfl⟩ := ownsRow_sl hrow7
      have hk7 := (keysAt_row hrow7).2
      have HK7 := Lib.hid hk7
      have HB7 := Lib.hid hb7
      have hsz7 := hb7.size
      obtain ⟨ln, hln⟩ : ∃ ln : Nat, q0.x.others.length = ln := ⟨_, rfl⟩
      have wl2 : ((ln : Int) == (k : Int) - 1) = true := by rw [← hln]; simpa using wlen
      unfold seeV
      rw [hln]
      have HLN := Lib.hid hln
      have hln7 : ln ≤ 7 := by omega
      clear hrow7 hk7 hb7 hln wlen
      go_wp2_with fail
      clear wl2
      generalize ((ln : Int) != (k : Int) - 1) = bb
      go_loopw [21] (fun s21 wr => ∃ (i : Nat), i ≤ ln ∧ s21 = .int .i64 (i : Nat) ∧ Below w7.heap.size w7 wr ∧ wr.heap[w7.heap.size]? = some (.cells #[.int .i64 q0.x.clock, .int .i64 q0.x.self.id, .int .i64 q0.x.self.inc, .int .i64 q0.x.self.st, .slice va ln vc, .int .i64 (prbTgt q0.x.probe), .int .i64 (q0.x.queue.length : Nat), .int .i64 (q0.x.relays.length : Nat), .int .i64 q0.x.dropped, .int .i64 q0.x.lost] 46 (0, 0)))
        (fun s21 _ => 10 - (intOf s21).toNat)
      case atStart => exact ⟨0, Nat.zero_le _, rfl, (Below.refl _ _).alloc (Nat.le_refl _) _, heap_alloc_eq w7 _⟩
      case round =>
        obtain ⟨i, hi, rfl, hbr, hst⟩ := hrel
        have sc := cells_at hst
        have HBR := Lib.hid hbr
        have HST := Lib.hid hst
        by_cases hil : i < ln
        · obtain ⟨m, hm⟩ : ∃ m, q0.x.others[i]? = some m := ⟨_, List.getElem?_eq_getElem (by rw [HLN.out]; exact hil)⟩
          obtain ⟨h1, h2⟩ := HMEM.out m (List.mem_of_getElem? hm)
          obtain ⟨b, off, rfl, hlt, c0, c1, c2⟩ := HK7.out i m.k (by rw [List.getElem?_map, hm]; rfl)
          rw [← hbr.cell hlt] at c0 c2
          clear hbr hst hm c1
          by_cases e : m.k.id = g
          · rw [e] at c0
            rw [h1 e] at c2
            clear h1 h2 e
            go_wp2
            go_roundw
            case rel => exact ⟨i + 1, by omega, by go_num, HBR.out, HST.out⟩
            case measure => simp [intOf]; omega
          · rw [h2 e] at c2
            have HNE := Lib.hid e
            clear h1 h2 e
            go_wp2
            all_goals
              first
              | exact absurd ‹m.k.id = g› HNE.out
              | (go_roundw
                 case rel => exact ⟨i + 1, by omega, by go_num, HBR.out, HST.out⟩
                 case measure => simp [intOf]; omega)
        · clear hbr hst
          go_wp2
          go_ret
          exact ⟨rfl, HBW.out.trans ((HB7.out.mono hsz).trans (HBR.out.mono (by omega)))⟩
end Go.Proofs.YtfngdplkcppabaaGreat
