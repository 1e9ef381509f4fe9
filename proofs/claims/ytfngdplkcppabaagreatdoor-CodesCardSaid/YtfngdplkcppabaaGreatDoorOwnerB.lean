/-
  gossiplaw: owner: an update more, a draw more.
-/
import Derived.Test.YtfngdplkcppabaaGreatDoorOwner
namespace Go.Proofs.YtfngdplkcppabaaGreatDoor
open Go.RowKit


set_option maxRecDepth 100000 in
set_option maxHeartbeats 1000000 in
theorem owner_update (B0 b n : Nat) (w : World) (f : Nat → Value) (d : Sd) (h : SAt B0 b n w f d) (o : Sop) (ho : o.Ok) (hk : o.kind = 4) (hn : n ≤ 100000) :
    Calls Tryz.prog 11 #[.pointer (some ⟨b, 0, none⟩), o.v] w (OwnPost B0 b n w f) := by
  obtain ⟨kind, x, oa, ob, oc, od, oe, s⟩ := o
  simp only at hk
  subst hk
  obtain ⟨_, _, ha, hbb, hcc, hdd, hee, hs⟩ := ho
  simp only at ha hbb hcc hdd hee hs
  obtain ⟨w1, hw1⟩ : ∃ w1, w.alloc (.cells #[.int .i64 4, .int .i64 x, .int .i64 oa, .int .i64 ob, .int .i64 oc, .int .i64 od, .int .i64 oe, .string s] 28) = w1 := ⟨_, rfl⟩
  have hb1 : Below w.heap.size w w1 := by rw [← hw1]; exact (Below.refl _ _).alloc (Nat.le_refl _) _
  have hx1 : w1.heap[w.heap.size]? = some (.cells #[.int .i64 4, .int .i64 x, .int .i64 oa, .int .i64 ob, .int .i64 oc, .int .i64 od, .int .i64 oe, .string s] 28 (0, 0)) := by rw [← hw1]; exact heap_alloc_eq w _
  have hsz1 : w1.heap.size = w.heap.size + 1 := by rw [← hw1]; simp
  have hB0 : B0 ≤ w.heap.size := by have := h.hB; have := h.blk.lt; omega
  have hlt := h.blk.lt
  have H := Lib.hid h
  have HS1 := Lib.hid (h.below hb1)
  have HX1 := Lib.hid (cells_at hx1)
  have HSZ1 := Lib.hid hsz1
  have HB1 := Lib.hid hb1
  have HW1 := Lib.hid hw1
  clear hb1 hx1 hsz1 h hw1
  obtain ⟨a6, c6, e6, hk6⟩ := HS1.out.m6
  have hmn := HS1.out.mn
  obtain ⟨m, hm⟩ : ∃ m, d.m.ups.length = m := ⟨_, rfl⟩
  rw [hm] at e6 hmn
  have cc6 : w1.cell? ⟨b, 6, none⟩ = some (.slice a6 m c6) := by rw [← e6]; exact HS1.out.blk.cell (by omega)
  have HC6 := Lib.hid hk6.1.cells
  have HM := Lib.hid hm
  have k3 : 0 + m ≤ maxLen := by unfold maxLen; omega
  have k4 : (0 + m) * 24 ≤ 140737488355328 := by omega
  have k5 : 0 + m + 1 ≤ maxLen := by unfold maxLen; omega
  have K3 := Lib.hid k3
  have K4 := Lib.hid k4
  have K5 := Lib.hid k5
  have hkl : (keyCells d.m.ups).length = m * 3 := by rw [keyCells_length]; omega
  have HKL := Lib.hid hkl
  obtain ⟨i0, hi, hz0, hz1, hz2⟩ := info_parts info_rkey
  clear e6 hk6 hm k3 k4 k5 hkl
  unfold Sop.v
  go_enter Tryz.func11, Tryz.ntmps11
  go_upto_region 13 with (fail)
  rw [HW1.out]
  have x2 := HX1.out 2
  have x3 := HX1.out 3
  have x4 := HX1.out 4
  simp only [List.getElem?_toArray, List.getElem?_cons_succ, List.getElem?_cons_zero] at x2 x3 x4
  go_wp2_with (at_builtin; refine wpList_append_any _ rfl _ _ 31 rfl B0 58 i0 _ 3 24 Tryz.underlying31 hi hz0 hz1 hz2 rfl (by decide) (.slice none 0 0) 0 [] rfl (World.ownsRow_nil _ _ _ _) a6 m c6 _ rfl HKL.out HC6.out (keyCells_one _) K3.out K4.out (by have := HSZ1.out; omega) ?_)
  intro a7 c7 w2 hl2 hto2
  have hg2 : w1.grownBy w2 none := hto2.grown
  have hblk2 := HS1.out.blk.grown hg2 (by simp)
  have y2 := (hg2.cell_far ⟨w.heap.size, 2, none⟩ (by have := HSZ1.out; simp; omega) (by simp)).trans x2
  have y3 := (hg2.cell_far ⟨w.heap.size, 3, none⟩ (by have := HSZ1.out; simp; omega) (by simp)).trans x3
  have y4 := (hg2.cell_far ⟨w.heap.size, 4, none⟩ (by have := HSZ1.out; simp; omega) (by simp)).trans x4
  have hnew := cells_new w2 [.int .i64 oa, .int .i64 ob, .int .i64 oc] 58 (n := w2.heap.size) rfl
  have HL2 := Lib.hid (hl2.alloc (.cells #[.int .i64 oa, .int .i64 ob, .int .i64 oc] 58))
  have HNEW := Lib.hid hnew
  have HB2 := Lib.hid hblk2
  have HG2 := Lib.hid hg2
  have HTO2 := Lib.hid hto2
  have hsz2 := hg2.size
  clear hl2 hto2 hg2 hblk2 hnew x2 x3 x4 cc6
  go_wp2_with (at_builtin; refine wpList_append_to _ rfl _ _ 31 rfl B0 58 i0 _ 3 24 Tryz.underlying31 hi hz0 hz1 hz2 rfl (by decide) (.slice a7 m c7) m _ rfl HL2.out ⟨w2.heap.size, 0, none⟩ 1 1 _ rfl rfl HNEW.out (by simp [Value.oneCell']) (by omega) (by have := K5.out; omega) (by omega) (by have := HSZ1.out; simp; omega) ?_)
  intro g c9 w3 hl3 hto3
  have hn9 : (Value.slice a7 m c7).ownBlock ≠ some b := (HB2.out.alloc _).neOwn HL2.out (by decide)
  have hblk3 := (HB2.out.alloc (.cells #[.int .i64 oa, .int .i64 ob, .int .i64 oc] 58)).grown hto3.grown hn9
  have hl4 := own_chg hl3 ((Chg.refl (fun k _ => k = b) w3).setCell (p := ⟨b, 6, none⟩) (.slice (some ⟨g, 0, none⟩) (m + 1) c9) (fun _ _ => rfl)) (fun g' o e e' => hblk3.neOwn hl3 (by decide) (e' ▸ e))
  have hw2b : ∀ g', (Value.slice a7 m c7).ownBlock = some g' → w1.heap.size ≤ g' := by
    intro g' e
    rcases HTO2.out with ⟨rfl, n', c', e'⟩ | ⟨g'', e', h'⟩
    · simp only [Value.slice.injEq] at e'
      rw [← e'.1] at e; simp [Value.ownBlock] at e
    · rw [e'] at e
      simp only [Value.ownBlock, Option.some.injEq] at e
      rcases h' with ⟨h', _⟩ | ⟨h', _⟩
      · simp [Value.ownBlock] at h'
      · omega
  have hc : Chg (fun k _ => k = b ∨ w1.heap.size ≤ k) w1 (w3.setCell ⟨b, 6, none⟩ (.slice (some ⟨g, 0, none⟩) (m + 1) c9)) :=
    ((((Chg.refl _ w1).grown HG2.out (fun k o e => by cases e)).alloc _).grown hto3.grown (fun k o e _ => .inr (hw2b k e))).setCell (p := ⟨b, 6, none⟩) _ (fun _ _ => .inl rfl)
  have hT : ∀ k o, w1.heap[k]? = some o → (k = b ∨ w1.heap.size ≤ k) → k = b := fun k o hk hs => by have := heap_lt hk; omega
  have KK := HS1.out.kept (T := [41]) hc (fun k o hk hs => HS1.out.onlyB k o hk (hT k o hk hs))
  have c6 := hblk3.cell (i := 6) (by omega)
  have fr := hblk3.free 6
  have hF := hblk3.set (i := 6) (by omega) (.slice (some ⟨g, 0, none⟩) (m + 1) c9)
  have hrow : (w3.setCell ⟨b, 6, none⟩ (.slice (some ⟨g, 0, none⟩) (m + 1) c9)).ownsRow B0 58 3 (.slice (some ⟨g, 0, none⟩) (m + 1) c9) (m + 1) (keyCells (d.m.ups ++ [⟨oa, ob, oc⟩])) := by
    have e : keyCells (d.m.ups ++ [⟨oa, ob, oc⟩]) = keyCells d.m.ups ++ [.int .i64 oa, .int .i64 ob, .int .i64 oc] := by simp [keyCells]
    rw [e]; exact hl4
  have hfin : OwnPost B0 b n w f (.returned (.bool true)) (w3.setCell ⟨b, 6, none⟩ (.slice (some ⟨g, 0, none⟩) (m + 1) c9)) := by
    have hmm := HM.out
    have h1 := HS1.out.m1
    have h2 := HS1.out.m2
    have h3 := HS1.out.m3
    have h4 := HS1.out.m4
    have h5 := HS1.out.m5
    have hm6 : ∃ a c, upd f 6 (.slice (some ⟨g, 0, none⟩) (m + 1) c9) 6 = .slice a (d.m.ups ++ [(⟨oa, ob, oc⟩ : K)]).length c ∧ RKeys (w3.setCell ⟨b, 6, none⟩ (.slice (some ⟨g, 0, none⟩) (m + 1) c9)) a (d.m.ups ++ [⟨oa, ob, oc⟩]) :=
      ⟨_, c9, by rw [upd_same]; simp [hmm], RKeys.of_row hrow⟩
    have hm7 : (d.m.ups ++ [(⟨oa, ob, oc⟩ : K)]).length ≤ n + 1 + 8 := by simp; omega
    have hS := HS1.out.turnM (d' := { d with m := { d.m with ups := d.m.ups ++ [⟨oa, ob, oc⟩] } }) KK hF (fun i _ h1 h2 h3 h4 h5 h6 => by simp [upd, h6]) rfl rfl rfl rfl rfl rfl rfl rfl (by decide) (by decide) (by decide) (by decide) (by decide) (by decide) (by decide)
      (by simpa [upd] using h1) (by simpa [upd] using h2) (by simpa [upd] using h3) (by simpa [upd] using h4) (by simpa [upd] using h5) hm6 hm7
    exact ⟨rfl, _, _, hS, by simp [upd], hc.after HB1.out (fun k o hk e => ⟨(hT k o hk e) ▸ H.out.hB, .inl (hT k o hk e)⟩)⟩
  have HFIN := Lib.hid hfin
  clear hl3 hto3 hl4 hw2b hc KK hF hrow hfin hblk3
  go_wp2
  go_ret
  exact HFIN.out

theorem info_int' : (Tryz.prog.info? 3).map (fun i => (i.zero, i.size, i.bytes)) = some (some (.int .i64 0), 1, 8) := by kernel_rfl
theorem IntIn.of_row {w : World} {B n cap : Nat} {a : Option Addr} {l : List Int} (h : w.ownsRow B 3 1 (.slice a n cap) n (l.map (Value.int .i64))) : IntIn w a l := by
  refine ⟨CellsAt.row h, fun b off e _ => ?_⟩
  rcases h.2 with ⟨e', _⟩ | ⟨g, cap', cur, e', _, hg, _⟩
  · simp only [Value.slice.injEq] at e'; rw [e'.1] at e; cases e
  · simp only [Value.slice.injEq] at e'; rw [e'.1] at e; cases e; exact ⟨_, _, hg⟩

set_option maxRecDepth 100000 in
set_option maxHeartbeats 1000000 in
theorem owner_draw (B0 b n : Nat) (w : World) (f : Nat → Value) (d : Sd) (h : SAt B0 b n w f d) (o : Sop) (ho : o.Ok) (hk : o.kind = 7) (hn : n ≤ 100000) :
    Calls Tryz.prog 11 #[.pointer (some ⟨b, 0, none⟩), o.v] w (OwnPost B0 b n w f) := by
  obtain ⟨kind, x, oa, ob, oc, od, oe, s⟩ := o
  simp only at hk
  subst hk
  obtain ⟨_, _, ha, hbb, hcc, hdd, hee, hs⟩ := ho
  simp only at ha hbb hcc hdd hee hs
  obtain ⟨w1, hw1⟩ : ∃ w1, w.alloc (.cells #[.int .i64 7, .int .i64 x, .int .i64 oa, .int .i64 ob, .int .i64 oc, .int .i64 od, .int .i64 oe, .string s] 28) = w1 := ⟨_, rfl⟩
  have hb1 : Below w.heap.size w w1 := by rw [← hw1]; exact (Below.refl _ _).alloc (Nat.le_refl _) _
  have hx1 : w1.heap[w.heap.size]? = some (.cells #[.int .i64 7, .int .i64 x, .int .i64 oa, .int .i64 ob, .int .i64 oc, .int .i64 od, .int .i64 oe, .string s] 28 (0, 0)) := by rw [← hw1]; exact heap_alloc_eq w _
  have hsz1 : w1.heap.size = w.heap.size + 1 := by rw [← hw1]; simp
  have hB0 : B0 ≤ w.heap.size := by have := h.hB; have := h.blk.lt; omega
  have hlt := h.blk.lt
  have H := Lib.hid h
  have HS1 := Lib.hid (h.below hb1)
  have HX1 := Lib.hid (cells_at hx1)
  have HSZ1 := Lib.hid hsz1
  have HB1 := Lib.hid hb1
  have HW1 := Lib.hid hw1
  clear hb1 hx1 hsz1 h hw1
  obtain ⟨a6, c6, e6, hk6⟩ := HS1.out.d7
  have hmn := HS1.out.dn
  obtain ⟨m, hm⟩ : ∃ m, d.ds.length = m := ⟨_, rfl⟩
  rw [hm] at e6 hmn
  have cc6 : w1.cell? ⟨b, 7, none⟩ = some (.slice a6 m c6) := by rw [← e6]; exact HS1.out.blk.cell (by omega)
  have HC6 := Lib.hid hk6.1
  have HM := Lib.hid hm
  have k3 : 0 + m ≤ maxLen := by unfold maxLen; omega
  have k4 : (0 + m) * 8 ≤ 140737488355328 := by omega
  have k5 : 0 + m + 1 ≤ maxLen := by unfold maxLen; omega
  have K3 := Lib.hid k3
  have K4 := Lib.hid k4
  have K5 := Lib.hid k5
  have hkl : (d.ds.map (Value.int .i64)).length = m * 1 := by rw [List.length_map]; omega
  have HKL := Lib.hid hkl
  have h1c : ∀ u ∈ d.ds.map (Value.int .i64), u.oneCell' = true := by
    intro u hu
    obtain ⟨x, _, rfl⟩ := List.mem_map.1 hu
    rfl
  have H1C := Lib.hid h1c
  obtain ⟨L, hL⟩ : ∃ L, d.ds.map (Value.int .i64) = L := ⟨_, rfl⟩
  rw [hL] at HC6 HKL H1C
  have HL := Lib.hid hL
  obtain ⟨i0, hi, hz0, hz1, hz2⟩ := info_parts info_int'
  clear e6 hk6 hm k3 k4 k5 hkl h1c hL
  unfold Sop.v
  go_enter Tryz.func11, Tryz.ntmps11
  go_upto_region 17 with (fail)
  rw [HW1.out]
  have x2 := HX1.out 2
  simp only [List.getElem?_toArray, List.getElem?_cons_succ, List.getElem?_cons_zero] at x2
  go_wp2_with (at_builtin; refine wpList_append_any _ rfl _ _ 24 rfl B0 3 i0 _ 1 8 Tryz.underlying24 hi hz0 hz1 hz2 rfl (by decide) (.slice none 0 0) 0 [] rfl (World.ownsRow_nil _ _ _ _) a6 m c6 _ rfl HKL.out HC6.out H1C.out K3.out K4.out (by have := HSZ1.out; omega) ?_)
  intro a7 c7 w2 hl2 hto2
  have hg2 : w1.grownBy w2 none := hto2.grown
  have hblk2 := HS1.out.blk.grown hg2 (by simp)
  have y2 := (hg2.cell_far ⟨w.heap.size, 2, none⟩ (by have := HSZ1.out; simp; omega) (by simp)).trans x2
  have hnew := cells_new w2 [.int .i64 oa] 3 (n := w2.heap.size) rfl
  have HL2 := Lib.hid (hl2.alloc (.cells #[.int .i64 oa] 3))
  have HNEW := Lib.hid hnew
  have HB2 := Lib.hid hblk2
  have HG2 := Lib.hid hg2
  have HTO2 := Lib.hid hto2
  have hsz2 := hg2.size
  clear hl2 hto2 hg2 hblk2 hnew x2 cc6
  go_wp2_with (at_builtin; refine wpList_append_to _ rfl _ _ 24 rfl B0 3 i0 _ 1 8 Tryz.underlying24 hi hz0 hz1 hz2 rfl (by decide) (.slice a7 m c7) m _ rfl HL2.out ⟨w2.heap.size, 0, none⟩ 1 1 _ rfl rfl HNEW.out (by simp [Value.oneCell']) (by omega) (by have := K5.out; omega) (by omega) (by have := HSZ1.out; simp; omega) ?_)
  intro g c9 w3 hl3 hto3
  have hn9 : (Value.slice a7 m c7).ownBlock ≠ some b := (HB2.out.alloc _).neOwn HL2.out (by decide)
  have hblk3 := (HB2.out.alloc (.cells #[.int .i64 oa] 3)).grown hto3.grown hn9
  have hl4 := own_chg hl3 ((Chg.refl (fun k _ => k = b) w3).setCell (p := ⟨b, 7, none⟩) (.slice (some ⟨g, 0, none⟩) (m + 1) c9) (fun _ _ => rfl)) (fun g' o e e' => hblk3.neOwn hl3 (by decide) (e' ▸ e))
  have hw2b : ∀ g', (Value.slice a7 m c7).ownBlock = some g' → w1.heap.size ≤ g' := by
    intro g' e
    rcases HTO2.out with ⟨rfl, n', c', e'⟩ | ⟨g'', e', h'⟩
    · simp only [Value.slice.injEq] at e'
      rw [← e'.1] at e; simp [Value.ownBlock] at e
    · rw [e'] at e
      simp only [Value.ownBlock, Option.some.injEq] at e
      rcases h' with ⟨h', _⟩ | ⟨h', _⟩
      · simp [Value.ownBlock] at h'
      · omega
  have hc : Chg (fun k _ => k = b ∨ w1.heap.size ≤ k) w1 (w3.setCell ⟨b, 7, none⟩ (.slice (some ⟨g, 0, none⟩) (m + 1) c9)) :=
    ((((Chg.refl _ w1).grown HG2.out (fun k o e => by cases e)).alloc _).grown hto3.grown (fun k o e _ => .inr (hw2b k e))).setCell (p := ⟨b, 7, none⟩) _ (fun _ _ => .inl rfl)
  have hT : ∀ k o, w1.heap[k]? = some o → (k = b ∨ w1.heap.size ≤ k) → k = b := fun k o hk hs => by have := heap_lt hk; omega
  have KK := HS1.out.kept (T := [41]) hc (fun k o hk hs => HS1.out.onlyB k o hk (hT k o hk hs))
  have c6 := hblk3.cell (i := 7) (by omega)
  have fr := hblk3.free 7
  have hF := hblk3.set (i := 7) (by omega) (.slice (some ⟨g, 0, none⟩) (m + 1) c9)
  have hrow : (w3.setCell ⟨b, 7, none⟩ (.slice (some ⟨g, 0, none⟩) (m + 1) c9)).ownsRow B0 3 1 (.slice (some ⟨g, 0, none⟩) (m + 1) c9) (m + 1) ((d.ds ++ [oa]).map (Value.int .i64)) := by
    rw [List.map_append, HL.out]; exact hl4
  have hfin : OwnPost B0 b n w f (.returned (.bool true)) (w3.setCell ⟨b, 7, none⟩ (.slice (some ⟨g, 0, none⟩) (m + 1) c9)) := by
    have hmm := HM.out
    have hm6 : ∃ a c, upd f 7 (.slice (some ⟨g, 0, none⟩) (m + 1) c9) 7 = .slice a (d.ds ++ [oa]).length c ∧ IntIn (w3.setCell ⟨b, 7, none⟩ (.slice (some ⟨g, 0, none⟩) (m + 1) c9)) a (d.ds ++ [oa]) :=
      ⟨_, c9, by rw [upd_same]; simp [hmm], IntIn.of_row hrow⟩
    have hm7 : (d.ds ++ [oa]).length ≤ n + 1 := by simp; omega
    have hm8 : ∀ x ∈ d.ds ++ [oa], fits x := fun x hx => by
      rcases List.mem_append.1 hx with hx | hx
      · exact HS1.out.df x hx
      · simp only [List.mem_cons, List.not_mem_nil, or_false] at hx; subst hx; exact ha
    have hS := HS1.out.turnD (d' := { d with ds := d.ds ++ [oa] }) KK hF (fun i _ h7 => by simp [upd, h7]) rfl rfl rfl rfl rfl rfl rfl rfl (by decide) (by decide) (by decide) (by decide) (by decide) (by decide) (by decide)
      hm6 hm7 hm8
    exact ⟨rfl, _, _, hS, by simp [upd], hc.after HB1.out (fun k o hk e => ⟨(hT k o hk e) ▸ H.out.hB, .inl (hT k o hk e)⟩)⟩
  have HFIN := Lib.hid hfin
  clear hl3 hto3 hl4 hw2b hc KK hF hrow hfin hblk3
  go_wp2
  go_ret
  exact HFIN.out
end Go.Proofs.YtfngdplkcppabaaGreatDoor
