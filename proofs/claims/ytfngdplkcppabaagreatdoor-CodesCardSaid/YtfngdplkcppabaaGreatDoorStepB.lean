/-
  gossiplaw: step: Decode.
-/
import Derived.Test.YtfngdplkcppabaaGreatDoorStep
namespace Go.Proofs.YtfngdplkcppabaaGreatDoor
open Go.RowKit

set_option maxRecDepth 100000 in
set_option maxHeartbeats 2000000 in
theorem step_decode (B0 b n : Nat) (w : World) (f : Nat → Value) (d : Sd) (h : SAt B0 b n w f d) (hg : ErrType w) (o : Sop) (ho : o.Ok) (hk : o.kind = 6) (hn : n ≤ 100000) :
    Calls Tryz.prog 10 #[.pointer (some ⟨b, 0, none⟩), o.v] w (StepPost B0 b n w f) := by
  obtain ⟨kind, x, oa, ob, oc, od, oe, s⟩ := o
  simp only at hk
  subst hk
  obtain ⟨_, _, ha, hbb, hcc, hdd, hee, hs⟩ := ho
  simp only at ha hbb hcc hdd hee hs
  obtain ⟨w1, hw1⟩ : ∃ w1, w.alloc (.cells #[.int .i64 6, .int .i64 x, .int .i64 oa, .int .i64 ob, .int .i64 oc, .int .i64 od, .int .i64 oe, .string s] 28) = w1 := ⟨_, rfl⟩
  have hb1 : Below w.heap.size w w1 := by rw [← hw1]; exact (Below.refl _ _).alloc (Nat.le_refl _) _
  have hx1 : w1.heap[w.heap.size]? = some (.cells #[.int .i64 6, .int .i64 x, .int .i64 oa, .int .i64 ob, .int .i64 oc, .int .i64 od, .int .i64 oe, .string s] 28 (0, 0)) := by rw [← hw1]; exact heap_alloc_eq w _
  have hsz1 : w1.heap.size = w.heap.size + 1 := by rw [← hw1]; simp
  have hB0 : B0 ≤ w.heap.size := by have := h.hB; have := h.blk.lt; omega
  have hlt := h.blk.lt
  have H := Lib.hid h
  have HS1 := Lib.hid (h.below hb1)
  have HX1 := Lib.hid (cells_at hx1)
  have HXB := Lib.hid hx1
  have HSZ1 := Lib.hid hsz1
  have HB1 := Lib.hid hb1
  have HW1 := Lib.hid hw1
  have HG1 := Lib.hid (hg.below hb1)
  clear hb1 hx1 hsz1 h hw1 hg
  have hnk : ¬ ownKind 6 := by decide
  have HCON := Lib.hid (owner_none b w1 ⟨6, x, oa, ob, oc, od, oe, s⟩ hnk)
  clear hnk
  unfold Sop.v at *
  go_enter Tryz.func10, Tryz.ntmps10
  go_wp2_with fail
  rw [HW1.out]
  refine HCON.out.mono ?_
  rintro e w2 ⟨rfl, hb2⟩
  have x0 : w2.cell? ⟨w.heap.size, 0, none⟩ = some (.int .i64 6) := (hb2.cell (by have := HSZ1.out; simp; omega)).trans (HX1.out 0)
  have x2 : w2.cell? ⟨w.heap.size, 2, none⟩ = some (.int .i64 oa) := (hb2.cell (by have := HSZ1.out; simp; omega)).trans (HX1.out 2)
  have HB2 := Lib.hid (HB1.out.trans (hb2.mono HB1.out.size))
  have HG2 := Lib.hid (HG1.out.below hb2)
  have HTX := Lib.hid (text_any B0 b n w2 f d (HS1.out.below hb2) oa ha (by omega))
  clear hb2
  go_wp2_with fail
  refine HTX.out.mono ?_
  rintro e w3 ⟨t, rfl, ht, hb3⟩
  have HB3 := Lib.hid (HB2.out.trans (hb3.mono HB2.out.size))
  have HDE := Lib.hid (decoded_any t w3 (by unfold maxLen; omega) (HG2.out.below hb3))
  have hsz3 : w.heap.size ≤ w3.heap.size := HB3.out.size
  clear hb3 x0 x2 ht
  go_wp2_with fail
  refine HDE.out.mono ?_
  rintro e w4 ⟨m, a6, nu, c6, v, rfl, hmu, hnu, hrk, hrow, hb4⟩
  obtain ⟨la, lc, rfl⟩ := ownsRow_sl hrow
  have hB4 : Below w.heap.size w w4 := HB3.out.trans (hb4.mono HB3.out.size)
  have hS4 := H.out.below hB4
  have y1 := hS4.blk.cell (i := 1) (by omega)
  have y2 := hS4.blk.cell (i := 2) (by omega)
  have y3 := hS4.blk.cell (i := 3) (by omega)
  have y4 := hS4.blk.cell (i := 4) (by omega)
  have y5 := hS4.blk.cell (i := 5) (by omega)
  have y6 := hS4.blk.cell (i := 6) (by omega)
  have fr := hS4.blk.free
  have hsz4 : w3.heap.size ≤ w4.heap.size := hb4.size
  have HS4 := Lib.hid hS4
  have HB4 := Lib.hid hB4
  have HRK := Lib.hid hrk
  have HROW := Lib.hid hrow
  have HMU := Lib.hid hmu
  clear hb4 hB4 hS4 hrk hrow hmu
  unfold M.agg
  go_wp2_with fail
  obtain ⟨w5, hw5⟩ : ∃ w5, (((((w4.setCell ⟨b, 1, none⟩ (.int .i64 m.kind)).setCell ⟨b, 2, none⟩ (.int .i64 m.frm)).setCell ⟨b, 3, none⟩ (.int .i64 m.inc)).setCell ⟨b, 4, none⟩ (.int .i64 m.seq)).setCell ⟨b, 5, none⟩ (.int .i64 m.tgt)).setCell ⟨b, 6, none⟩ (.slice a6 nu c6) = w5 := ⟨_, rfl⟩
  rw [hw5]
  have hc5 : Chg (fun k _ => k = b) w4 w5 := by
    rw [← hw5]
    exact ((((((Chg.refl (fun k _ => k = b) w4).setCell (p := ⟨b, 1, none⟩) _ (fun _ _ => rfl)).setCell (p := ⟨b, 2, none⟩) _ (fun _ _ => rfl)).setCell (p := ⟨b, 3, none⟩) _ (fun _ _ => rfl)).setCell (p := ⟨b, 4, none⟩) _ (fun _ _ => rfl)).setCell (p := ⟨b, 5, none⟩) _ (fun _ _ => rfl)).setCell (p := ⟨b, 6, none⟩) _ (fun _ _ => rfl)
  obtain ⟨F, hF⟩ : ∃ F, upd (upd (upd (upd (upd (upd f 1 (.int .i64 m.kind)) 2 (.int .i64 m.frm)) 3 (.int .i64 m.inc)) 4 (.int .i64 m.seq)) 5 (.int .i64 m.tgt)) 6 (.slice a6 nu c6) = F := ⟨_, rfl⟩
  have hblk5 : WB w5 b F := by
    rw [← hw5, ← hF]
    exact (((((HS4.out.blk.set (i := 1) (by omega) (.int .i64 m.kind)).set (i := 2) (by omega) (.int .i64 m.frm)).set (i := 3) (by omega) (.int .i64 m.inc)).set (i := 4) (by omega) (.int .i64 m.seq)).set (i := 5) (by omega) (.int .i64 m.tgt)).set (i := 6) (by omega) (.slice a6 nu c6)
  have hF16 : F 16 = f 16 := by rw [← hF]; simp [upd]
  have hF17 : F 17 = f 17 := by rw [← hF]; simp [upd]
  have hF20 : F 20 = .int .i64 d.mark := by rw [← hF]; simpa [upd] using H.out.m20
  have hlx5 := own_chg HS4.out.lx hc5 (fun g o e h => HS4.out.blk.neOwn HS4.out.lx (by decide) (h ▸ e))
  have hly5 := own_chg HS4.out.ly hc5 (fun g o e h => HS4.out.blk.neOwn HS4.out.ly (by decide) (h ▸ e))
  have hrow5 := own_chg HROW.out hc5 (fun g o e h => HS4.out.blk.neOwn HROW.out (by decide) (h ▸ e))
  have hrk5 := HRK.out.typed hc5 (fun k o hk e cs fr ho => by
    subst e
    obtain ⟨cs', hb'⟩ := HS4.out.blk.block
    rw [hb'] at hk; cases hk; cases ho)
  have hln := H.out.ln
  have hmb := H.out.mb
  have hsz5 : w4.heap.size ≤ w5.heap.size := hc5.size
  have hB0w : B0 ≤ w5.heap.size := by omega
  have hkeep := keep_any b F (f 16) (f 17) d.xs d.ys d.xs.length d.mark m.ups la nu lc B0 w3.heap.size w5 hblk5 hF16 hF17 hF20 hlx5 hly5 HS4.out.lne (by omega) (by omega) (by omega) hB0w (by omega) hrow5
  have HKEEP := Lib.hid hkeep
  have HC5 := Lib.hid hc5
  have HF := Lib.hid hF
  have HRK5 := Lib.hid hrk5
  have HBLK5 := Lib.hid hblk5
  have HLX5 := Lib.hid hlx5
  have HLY5 := Lib.hid hly5
  have HROW5 := Lib.hid hrow5
  clear hw5 hc5 hF hblk5 hF16 hF17 hF20 hlx5 hly5 hrow5 hrk5 hkeep y1 y2 y3 y4 y5 y6 fr
  refine HKEEP.out.mono ?_
  rintro e w6 ⟨lv, wv, v2, u1, u2, rfl, hblk6, hlx6, hly6, hne6, hh1, hh2, hC6⟩
  -- what has turned since the step began
  have hown : ∀ (g : Nat), (Value.slice la nu lc).ownBlock = some g → w.heap.size ≤ g := fun g e => by have := (HROW.out.lt g e).1; omega
  have hcF : Chg (fun k _ => k = b ∨ (f 16).ownBlock = some k ∨ (f 17).ownBlock = some k ∨ w.heap.size ≤ k) w w6 := by
    have h1 : Chg (fun k _ => k = b ∨ (f 16).ownBlock = some k ∨ (f 17).ownBlock = some k ∨ w.heap.size ≤ k) w w4 := ⟨HB4.out.os, HB4.out.tape, HB4.out.output, HB4.out.size, fun k o hk _ => (HB4.out.block k (heap_lt hk)).trans hk⟩
    refine (h1.trans (HC5.out.mono (fun k o _ e => .inl e))).trans (hC6.mono (fun k o _ h => ?_))
    rcases h with h | h | h | h | h
    · exact .inl h
    · exact .inr (.inl h)
    · exact .inr (.inr (.inl h))
    · exact .inr (.inr (.inr (hown k h)))
    · have := HB4.out.size; exact .inr (.inr (.inr (by omega)))
  have hT : ∀ k o, w.heap[k]? = some o → (k = b ∨ (f 16).ownBlock = some k ∨ (f 17).ownBlock = some k ∨ w.heap.size ≤ k) → B0 ≤ k ∧ ∃ cs t fr, o = .cells cs t fr ∧ t ∈ [41, 46] := by
    intro k o hk hs
    rcases hs with rfl | hs | hs | hs
    · obtain ⟨cs, hb⟩ := H.out.blk.block
      rw [hb] at hk; cases hk; exact ⟨H.out.hB, _, _, _, rfl, by simp⟩
    · obtain ⟨hB, cur, hg⟩ := ownsRow_blk H.out.lx hs
      rw [hg] at hk; cases hk; exact ⟨hB, _, _, _, rfl, by simp⟩
    · obtain ⟨hB, cur, hg⟩ := ownsRow_blk H.out.ly hs
      rw [hg] at hk; cases hk; exact ⟨hB, _, _, _, rfl, by simp⟩
    · have := heap_lt hk; omega
  have KK := H.out.kept hcF (fun k o hk hs => (hT k o hk hs).2)
  have hrk6 := HRK5.out.typed hC6 (fun k o hk hs cs fr ho => by
    subst ho
    rcases hs with hs | hs | hs | hs | hs
    · subst hs
      obtain ⟨cs', hb'⟩ := HBLK5.out.block
      rw [hb'] at hk; simp only [Option.some.injEq, Obj.cells.injEq] at hk; exact absurd hk.2.1 (by decide)
    · obtain ⟨_, cur, hg⟩ := ownsRow_blk HLX5.out hs
      rw [hg] at hk; simp only [Option.some.injEq, Obj.cells.injEq] at hk; exact absurd hk.2.1 (by decide)
    · obtain ⟨_, cur, hg⟩ := ownsRow_blk HLY5.out hs
      rw [hg] at hk; simp only [Option.some.injEq, Obj.cells.injEq] at hk; exact absurd hk.2.1 (by decide)
    · obtain ⟨_, cur, hg⟩ := ownsRow_blk HROW5.out hs
      rw [hg] at hk; simp only [Option.some.injEq, Obj.cells.injEq] at hk; exact absurd hk.2.1 (by decide)
    · have := heap_lt hk; omega)
  have hyl : d.ys.length = d.xs.length := by have := H.out.ly.1; omega
  have hxs : (d.xs ++ [.slice la nu lc, v2]).length = d.xs.length + 2 := by simp
  obtain ⟨la6, lc6, e16⟩ := ownsRow_sl hlx6
  obtain ⟨wa6, wc6, e17⟩ := ownsRow_sl hly6
  obtain ⟨G, hG⟩ : ∃ G, upd (upd (upd F 16 lv) 17 wv) 20 (.int .i64 (d.mark + nu + 2)) = G := ⟨_, rfl⟩
  rw [hG] at hblk6
  have g1 : G 1 = .int .i64 m.kind := by rw [← hG, ← HF.out]; simp [upd]
  have g2 : G 2 = .int .i64 m.frm := by rw [← hG, ← HF.out]; simp [upd]
  have g3 : G 3 = .int .i64 m.inc := by rw [← hG, ← HF.out]; simp [upd]
  have g4 : G 4 = .int .i64 m.seq := by rw [← hG, ← HF.out]; simp [upd]
  have g5 : G 5 = .int .i64 m.tgt := by rw [← hG, ← HF.out]; simp [upd]
  have g6 : G 6 = .slice a6 nu c6 := by rw [← hG, ← HF.out]; simp [upd]
  have g16 : G 16 = lv := by rw [← hG]; simp [upd]
  have g17 : G 17 = wv := by rw [← hG]; simp [upd]
  have g20 : G 20 = .int .i64 (d.mark + nu + 2) := by rw [← hG]; simp [upd]
  have g14 : G 14 = f 14 := by rw [← hG, ← HF.out]; simp [upd]
  have hS := H.out.turnML (d' := { d with m := m, xs := d.xs ++ [.slice la nu lc, v2], ys := d.ys ++ [u1, u2], mark := d.mark + nu + 2 }) KK hblk6
    (fun i _ h1 h2 h3 h4 h5 h6 h16 h17 h20 => by rw [← hG, ← HF.out]; simp [upd, h1, h2, h3, h4, h5, h6, h16, h17, h20]) rfl rfl rfl rfl rfl (by decide) (by decide) (by decide) (by decide) (by decide)
    g1 g2 g3 g4 g5 ⟨a6, c6, by rw [g6, HMU.out], hrk6⟩ (by show m.ups.length ≤ n + 1 + 8; have := HMU.out; omega)
    ⟨la6, lc6, by rw [g16, e16, hxs]⟩ ⟨wa6, wc6, by rw [g17, e17, hxs]⟩ (by rw [g16, hxs]; exact hlx6) (by rw [g17, hxs]; exact hly6) (by rw [hxs]; omega) (by rw [g16, g17]; exact hne6)
    (fun i v u hv hu => by
      by_cases hi : i < d.xs.length
      · rw [List.getElem?_append_left hi] at hv
        rw [List.getElem?_append_left (by omega)] at hu
        refine ((H.out.lh i v u hv hu).chg hcF (fun k cs fr hk hck hs => ?_)).mono hcF.size
        obtain ⟨_, cs', t', fr', eo, ht'⟩ := hT k _ hck hs
        simp only [Obj.cells.injEq] at eo
        rw [← eo.2.1] at ht'
        exact absurd ht' (by decide)
      · rw [List.getElem?_append_right (by omega)] at hv
        rw [List.getElem?_append_right (by omega), hyl] at hu
        obtain ⟨j, hj⟩ : ∃ j, i - d.xs.length = j := ⟨_, rfl⟩
        rw [hj] at hv hu
        rcases j with _ | _ | j
        · simp only [List.getElem?_cons_zero, Option.some.injEq] at hv hu; rw [← hv, ← hu]; exact hh1
        · simp only [List.getElem?_cons_succ, List.getElem?_cons_zero, Option.some.injEq] at hv hu; rw [← hv, ← hu]; exact hh2
        · simp at hv)
    g20 (by show 0 ≤ d.mark + (nu : Int) + 2 ∧ d.mark + (nu : Int) + 2 ≤ 100 * ((n + 1 : Nat) : Int); omega)
  have hCF : Chg (SQ B0 b) w w6 := ⟨hcF.os, hcF.tape, hcF.output, hcF.size, fun k o hk hs => hcF.kept k o hk (fun h => hs (by
    obtain ⟨hB, cs, t', fr, eo, ht'⟩ := hT k o hk h
    refine ⟨hB, .inr ⟨cs, t', fr, eo, ?_⟩⟩
    simp only [List.mem_cons, List.not_mem_nil, or_false] at ht'
    rcases ht' with rfl | rfl <;> simp [rowTypes]))⟩
  have HS := Lib.hid hS
  have HCF := Lib.hid hCF
  have HG14 := Lib.hid g14
  clear hblk6 hlx6 hly6 hne6 hh1 hh2 hC6 hown hcF hT KK hrk6 hG g1 g2 g3 g4 g5 g6 g16 g17 g20 g14 hS hCF e16 e17
  obtain ⟨p16, q16, z16⟩ := HS.out.l16
  obtain ⟨p17, q17, z17⟩ := HS.out.l17
  obtain ⟨p18, q18, z18⟩ := HS.out.l18
  obtain ⟨p19, q19, z19⟩ := HS.out.l19
  have a16 := HS.out.lx
  have a17 := HS.out.ly
  have a18 := HS.out.lo
  have a19 := HS.out.lk
  rw [z16] at a16
  rw [z17] at a17
  rw [z18] at a18
  rw [z19] at a19
  have hlon := HS.out.lon
  have hlnn := HS.out.ln
  have HLK := Lib.hid (looks_any b G p16 p17 p18 p19 q16 q17 q18 q19 _ _ _ _ _ _ B0 w6.heap.size w6 HS.out.blk z16 z17 z18 z19 a16 a17 a18 a19 (by omega) (by omega) HS.out.lh HS.out.lp)
  clear z16 z17 z18 z19 a16 a17 a18 a19
  go_wp2_with fail
  refine HLK.out.mono ?_
  rintro e w7 ⟨rfl, hb7⟩
  have HS7 := Lib.hid (HS.out.below hb7)
  have HB7 := Lib.hid (HCF.out.trans ⟨hb7.os, hb7.tape, hb7.output, hb7.size, fun k o hk _ => (hb7.block k (heap_lt hk)).trans hk⟩)
  clear hb7
  go_wp2
  go_ret
  exact ⟨rfl, _, _, HS7.out.mono (by omega), HG14.out, HB7.out⟩

set_option maxRecDepth 100000 in
set_option maxHeartbeats 1000000 in
/-- Any other kind does nothing. -/
theorem step_skip (B0 b n : Nat) (w : World) (f : Nat → Value) (d : Sd) (h : SAt B0 b n w f d) (o : Sop) (hk : ¬ ownKind o.kind) (h5 : o.kind ≠ 5) (h6 : o.kind ≠ 6) (h9 : o.kind ≠ 9) (h11 : o.kind ≠ 11) (hr : o.kind < 10 ∨ 18 < o.kind)
    (na : Option Addr) (nl nc : Nat) (hn : f 14 = .slice na nl nc) :
    Calls Tryz.prog 10 #[.pointer (some ⟨b, 0, none⟩), o.v] w (StepPost B0 b n w f) := by
  have hw1 : Below w.heap.size w (w.alloc (.cells #[.int .i64 o.kind, .int .i64 o.x, .int .i64 o.a, .int .i64 o.b, .int .i64 o.c, .int .i64 o.d, .int .i64 o.e, .string o.s] 28)) := (Below.refl _ _).alloc (Nat.le_refl _) _
  have HCON := Lib.hid (owner_none b (w.alloc (.cells #[.int .i64 o.kind, .int .i64 o.x, .int .i64 o.a, .int .i64 o.b, .int .i64 o.c, .int .i64 o.d, .int .i64 o.e, .string o.s] 28)) o hk)
  have hx1 := cells_at (heap_alloc_eq w (.cells #[.int .i64 o.kind, .int .i64 o.x, .int .i64 o.a, .int .i64 o.b, .int .i64 o.c, .int .i64 o.d, .int .i64 o.e, .string o.s] 28)) 0
  simp only [List.getElem?_toArray, List.getElem?_cons_zero] at hx1
  obtain ⟨kind, x, oa, ob, oc, od, oe, s⟩ := o
  simp only at hk h5 h6 h9 h11 hr hx1 hw1 HCON
  have b5 : (kind == 5) = false := beq_eq_false_iff_ne.2 h5
  have b6 : (kind == 6) = false := beq_eq_false_iff_ne.2 h6
  have b9 : (kind == 9) = false := beq_eq_false_iff_ne.2 h9
  have b11 : (kind == 11) = false := beq_eq_false_iff_ne.2 h11
  have H := Lib.hid h
  have HX1 := Lib.hid hx1
  have HB1 := Lib.hid hw1
  have HN := Lib.hid hn
  clear hw1 h hk h5 h6 h9 h11 hx1 hn
  unfold Sop.v at *
  go_enter Tryz.func10, Tryz.ntmps10
  go_wp2_with fail
  refine HCON.out.mono ?_
  rintro e w2 ⟨rfl, hb2⟩
  have hS2 := (H.out.below HB1.out).below hb2
  have x0 : w2.cell? ⟨w.heap.size, 0, none⟩ = some (.int .i64 kind) := (hb2.cell (by simp)).trans HX1.out
  have c14 : w2.cell? ⟨b, 14, none⟩ = some (.slice na nl nc) := by rw [← HN.out]; exact hS2.blk.cell (by omega)
  have HB2 := Lib.hid (HB1.out.trans (hb2.mono HB1.out.size))
  have HS2 := Lib.hid hS2
  clear hb2 hS2
  have hfin : StepPost B0 b n w f (.returned (.bool true)) w2 := ⟨rfl, f, d, HS2.out.mono (by omega), rfl, Below.andChg HB2.out (Chg.refl _ _)⟩
  have HFIN := Lib.hid hfin
  clear hfin
  by_cases h0 : nl = 0
  · subst h0
    go_wp2
    go_ret
    exact HFIN.out
  · have hz : ((nl : Int) == 0) = false := by simp; omega
    rcases hr with hr | hr
    · go_wp2
      go_ret
      exact HFIN.out
    · have hr' : ¬ kind < 10 := by omega
      go_wp2
      go_ret
      exact HFIN.out
end Go.Proofs.YtfngdplkcppabaaGreatDoor
