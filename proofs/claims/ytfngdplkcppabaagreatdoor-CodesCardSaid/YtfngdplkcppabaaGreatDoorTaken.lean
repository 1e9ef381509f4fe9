/-
  gossiplaw: take: a packet is on its way no more.
-/
import Derived.Test.YtfngdplkcppabaaGreatDoorOwnerB
namespace Go.Proofs.YtfngdplkcppabaaGreatDoor
open Go.RowKit

theorem info_rpk : (Tryz.prog.info? 60).map (fun i => (i.zero, i.size, i.bytes)) = some (some (.agg #[.int .i64 0, .string ⟨#[]⟩]), 2, 24) := by kernel_rfl
theorem pkCells_one (l : List (Int × ByteArray)) : ∀ v ∈ pkCells l, v.oneCell' = true := by
  intro v hv
  simp only [pkCells, List.mem_flatMap, List.mem_cons, List.not_mem_nil, or_false] at hv
  obtain ⟨k, _, rfl | rfl⟩ := hv <;> rfl

set_option maxRecDepth 100000 in
set_option maxHeartbeats 1000000 in
theorem wtake_any (B0 b n : Nat) (w : World) (f : Nat → Value) (d : Sd) (h : SAt B0 b n w f d) (k : Nat) (hk : k < d.ow.length) :
    Calls Tryz.prog 21 #[.pointer (some ⟨b, 0, none⟩), .int .i64 k] w fun e w' => e = .returned (.agg #[.int .i64 d.ow[k].1, .string d.ow[k].2]) ∧
      ∃ f', SAt B0 b (n + 1) w' f' { d with ow := d.ow.eraseIdx k } ∧ f' 14 = f 14 ∧ Chg (SQ B0 b) w w' := by
  obtain ⟨a, cap, e15⟩ := h.o15
  obtain ⟨m, hm⟩ : ∃ m, d.ow.length = m := ⟨_, rfl⟩
  have hor := h.orow
  have hon := h.on
  rw [hm] at e15 hor hon hk
  rw [e15] at hor
  have c15 : w.cell? ⟨b, 15, none⟩ = some (.slice a m cap) := by rw [← e15]; exact h.blk.cell (by omega)
  obtain ⟨g, cp, cur, ev, hBg, hg, hmc, hcm, hcs, htk⟩ : ∃ g cap' cur, (Value.slice a m cap) = .slice (some ⟨g, 0, none⟩) m cap' ∧ B0 ≤ g ∧ w.heap[g]? = some (.cells cur 60 (0, 0)) ∧ m ≤ cap' ∧ cap' ≤ maxLen ∧ cur.size = cap' * 2 ∧ cur.toList.take (m * 2) = pkCells d.ow := by
    rcases hor.2 with ⟨_, e0⟩ | h'
    · omega
    · exact h'
  simp only [Value.slice.injEq] at ev
  obtain ⟨rfl, _, rfl⟩ := ev
  have hcell : ∀ j v, (pkCells d.ow)[j]? = some v → w.cell? ⟨g, j, none⟩ = some v := by
    intro j v hj
    obtain ⟨b', off, e', _, hc⟩ := CellsAt.row hor j v hj
    cases e'
    rw [Nat.zero_add] at hc; exact hc
  have hk' : k < d.ow.length := by omega
  obtain ⟨q0, q1⟩ := pkCells_at d.ow k d.ow[k] (List.getElem?_eq_getElem hk')
  have d0 := hcell _ _ q0
  have d1 := hcell _ _ q1
  have hlt := h.blk.lt
  have hB0 : B0 ≤ w.heap.size := by have := h.hB; omega
  have H := Lib.hid h
  have HM := Lib.hid hm
  have HC := Lib.hid hcell
  have hmx : cap ≤ 9223372036854775807 := by unfold maxLen at hcm; omega
  obtain ⟨p, hp⟩ : ∃ p, d.ow[k] = p := ⟨_, rfl⟩
  rw [hp] at d0 d1 ⊢
  have HP := Lib.hid hp
  have w1 : IntKind.i64.wrap ((k : Int) + 1) = (k : Int) + 1 := IntWalk.i64_in _ (by omega)
  obtain ⟨i0, hi, hz0, hz1, hz2⟩ := info_parts info_rpk
  have ca : ∀ o, (w.alloc o).cell? ⟨b, 15, none⟩ = some (.slice (some ⟨g, 0, none⟩) m cap) := fun o => by rw [World.cell?_alloc_lt _ _ _ (World.block_lt_of_cell? _ _ c15)]; exact c15
  have da0 : ∀ o, (w.alloc o).cell? ⟨g, k * 2, none⟩ = some (.int .i64 p.1) := fun o => by rw [World.cell?_alloc_lt _ _ _ (World.block_lt_of_cell? _ _ d0)]; exact d0
  have da1 : ∀ o, (w.alloc o).cell? ⟨g, k * 2 + 1, none⟩ = some (.string p.2) := fun o => by rw [World.cell?_alloc_lt _ _ _ (World.block_lt_of_cell? _ _ d1)]; exact d1
  obtain ⟨w1, hw1⟩ : ∃ w1, (w.alloc (.cells #[.int .i64 0, .string ⟨#[]⟩] 60)).alloc (.cells #[.int .i64 p.1, .string p.2] 60) = w1 := ⟨_, rfl⟩
  have hb1 : Below w.heap.size w w1 := by rw [← hw1]; exact ((Below.refl _ _).alloc (Nat.le_refl _) _).alloc (by simp) _
  have hx1 : w1.heap[w.heap.size + 1]? = some (.cells #[.int .i64 p.1, .string p.2] 60 (0, 0)) := by rw [← hw1]; exact heap_new _ _ (by simp)
  have hx0 : w1.heap[w.heap.size]? = some (.cells #[.int .i64 0, .string ⟨#[]⟩] 60 (0, 0)) := by rw [← hw1]; exact heap_old _ (heap_alloc_eq w _)
  have hsz1 : w1.heap.size = w.heap.size + 2 := by rw [← hw1]; simp
  have hg1 : g < w1.heap.size := by have := heap_lt hg; omega
  have HS1 := Lib.hid (h.below hb1)
  have HB1 := Lib.hid hb1
  have HX1 := Lib.hid hx1
  have HX0 := Lib.hid hx0
  have HSZ1 := Lib.hid hsz1
  have HW1 := Lib.hid hw1
  -- the cells ahead of k, and behind
  have hsrc1 : CellsAt w1 (some ⟨g, 0, none⟩) (pkCells (d.ow.take k)) := by
    intro j v hj
    refine ⟨g, 0, rfl, hg1, ?_⟩
    rw [Nat.zero_add]
    refine (hb1.cell (p := ⟨g, j, none⟩) (heap_lt hg)).trans (hcell j v ?_)
    have e : pkCells d.ow = pkCells (d.ow.take k) ++ pkCells (d.ow.drop k) := by
      conv => lhs; rw [← List.take_append_drop k d.ow]
      simp only [pkCells, List.flatMap_append]
    rw [e, List.getElem?_append_left]
    · exact hj
    · rcases Nat.lt_or_ge j (pkCells (d.ow.take k)).length with h' | h'
      · exact h'
      · rw [List.getElem?_eq_none h'] at hj; cases hj
  have hsrc2 : CellsAt w1 (some ⟨g, (k + 1) * 2, none⟩) (pkCells (d.ow.drop (k + 1))) := by
    intro j v hj
    refine ⟨g, (k + 1) * 2, rfl, hg1, ?_⟩
    refine (hb1.cell (p := ⟨g, (k + 1) * 2 + j, none⟩) (heap_lt hg)).trans (hcell _ v ?_)
    have e : pkCells d.ow = pkCells (d.ow.take (k + 1)) ++ pkCells (d.ow.drop (k + 1)) := by
      conv => lhs; rw [← List.take_append_drop (k + 1) d.ow]
      simp only [pkCells, List.flatMap_append]
    have hl : (pkCells (d.ow.take (k + 1))).length = (k + 1) * 2 := by rw [pkCells_length, List.length_take]; omega
    rw [e, List.getElem?_append_right (by omega), hl]
    rw [show (k + 1) * 2 + j - (k + 1) * 2 = j by omega]; exact hj
  have hl1 : (pkCells (d.ow.take k)).length = k * 2 := by rw [pkCells_length, List.length_take]; omega
  have hl2 : (pkCells (d.ow.drop (k + 1))).length = (m - (k + 1)) * 2 := by rw [pkCells_length, List.length_drop]; omega
  have HSRC1 := Lib.hid hsrc1
  have HSRC2 := Lib.hid hsrc2
  have HL1 := Lib.hid hl1
  have HL2 := Lib.hid hl2
  have k3 : 0 + k ≤ maxLen := by unfold maxLen; omega
  have k5 : k + (m - (k + 1)) ≤ maxLen := by unfold maxLen; omega
  have K3 := Lib.hid k3
  have K5 := Lib.hid k5
  clear h hor hg htk hm hcell hp e15 q0 q1 hcs hb1 hx1 hx0 hsz1 hw1 hsrc1 hsrc2 hl1 hl2 k3 k5
  go_enter Tryz.func21, Tryz.ntmps21
  go_wp2_with (at_builtin; go_loud (rw [HW1.out]; refine wpList_append_any _ rfl _ _ 37 rfl B0 60 i0 _ 2 24 Tryz.underlying37 hi hz0 hz1 hz2 rfl (by decide) (.slice none 0 0) 0 [] rfl (World.ownsRow_nil _ _ _ _) (some ⟨g, 0, none⟩) k cap _ rfl HL1.out HSRC1.out (pkCells_one _) K3.out (by omega) (by have := HSZ1.out; omega) ?_))
  intro a7 c7 w2 hl2 hto2
  have hg2 : w1.grownBy w2 none := hto2.grown
  have hB2 : Below w1.heap.size w1 w2 := ⟨hg2.os, hg2.tape, hg2.output, hg2.size, fun k hk => hg2.block k hk (by simp)⟩
  have e15 : w2.cell? ⟨b, 15, none⟩ = some (.slice (some ⟨g, 0, none⟩) m cap) := by
    rw [hB2.cell (by have := HSZ1.out; simp; omega), HB1.out.cell hlt]; exact c15
  have hsrc : CellsAt w2 (if cap = k + 1 then some ⟨g, 0, none⟩ else some ⟨g, (k + 1) * 2, none⟩) (pkCells (d.ow.drop (k + 1))) := by
    by_cases hck : cap = k + 1
    · have hd : d.ow.drop (k + 1) = [] := List.drop_eq_nil_of_le (by have := HM.out; omega)
      rw [hd]
      intro j v hj
      simp [pkCells] at hj
    · rw [if_neg hck]; exact HSRC2.out.below hB2
  have HSRC3 := Lib.hid hsrc
  have HLa := Lib.hid hl2
  have HB2 := Lib.hid hB2
  have HTO2 := Lib.hid hto2
  have hsz2 := hg2.size
  clear hsrc hl2 hB2 hto2 hg2 c15 d0 d1 ca da0 da1
  go_wp2_with (at_builtin; go_loud (refine wpList_append_any _ rfl _ _ 37 rfl B0 60 i0 _ 2 24 Tryz.underlying37 hi hz0 hz1 hz2 rfl (by decide) (.slice a7 k c7) k _ rfl HLa.out (if cap = k + 1 then some ⟨g, 0, none⟩ else some ⟨g, (k + 1) * 2, none⟩) (m - (k + 1)) (cap - (k + 1)) _ rfl HL2.out HSRC3.out (pkCells_one _) K5.out (by omega) (by have := HSZ1.out; omega) ?_))
  all_goals
    intro a8 c8 w3 hl3 hto3
    have hw2b : ∀ g', (Value.slice a7 k c7).ownBlock = some g' → w1.heap.size ≤ g' := by
      intro g' e
      rcases HTO2.out with ⟨rfl, n', c', e'⟩ | ⟨g'', e', h'⟩
      · simp only [Value.slice.injEq] at e'
        rw [← e'.1] at e; simp [Value.ownBlock] at e
      · rw [e'] at e
        simp only [Value.ownBlock, Option.some.injEq] at e
        rcases h' with ⟨h', _⟩ | ⟨h', _⟩
        · simp [Value.ownBlock] at h'
        · omega
    have hB3 : Below w1.heap.size w1 w3 := HB2.out.grown hto3.grown hsz2 (fun g' e => hw2b g' e)
    have hblk3 := HS1.out.blk.under hB3 HS1.out.blk.lt
    have hx3 := (hB3.block _ (heap_lt HX1.out)).trans HX1.out
    have hx30 := (hB3.block _ (heap_lt HX0.out)).trans HX0.out
    have y15 := hblk3.cell (i := 15) (by omega)
    have fr15 := hblk3.free 15
    have hnb : w.heap.size ≠ b := by omega
    have hnb1 : w.heap.size + 1 ≠ b := by omega
    have hbn : b ≠ w.heap.size := by omega
    have hbn1 : b ≠ w.heap.size + 1 := by omega
    have bx0 := cells_at hx3 0
    have bx1 := cells_at hx3 1
    have by0 := cells_at hx30 0
    have by1 := cells_at hx30 1
    have fy := unfrozen hx30
    simp only [List.getElem?_toArray, List.getElem?_cons_succ, List.getElem?_cons_zero] at bx0 bx1 by0 by1
    obtain ⟨ml, hml⟩ : ∃ ml, k + (m - (k + 1)) = ml := ⟨_, rfl⟩
    rw [hml] at hl3 ⊢
    obtain ⟨w5, hw5⟩ : ∃ w5, ((w3.setCell ⟨b, 15, none⟩ (.slice a8 ml c8)).setCell ⟨w.heap.size, 0, none⟩ (.int .i64 p.1)).setCell ⟨w.heap.size, 1, none⟩ (.string p.2) = w5 := ⟨_, rfl⟩
    have hc5 : Chg (fun x _ => x = b ∨ x = w.heap.size) w3 w5 := by
      rw [← hw5]
      exact (((Chg.refl _ w3).setCell (p := ⟨b, 15, none⟩) _ (fun _ _ => .inl rfl)).setCell (p := ⟨w.heap.size, 0, none⟩) _ (fun _ _ => .inr rfl)).setCell (p := ⟨w.heap.size, 1, none⟩) _ (fun _ _ => .inr rfl)
    have hF : WB w5 b (upd f 15 (.slice a8 ml c8)) := by
      rw [← hw5]; exact ((hblk3.set (i := 15) (by omega) _).other hnb _).other hnb _
    have hrow5 : w5.ownsRow B0 60 2 (.slice a8 ml c8) ml (pkCells (d.ow.eraseIdx k)) := by
      have e : pkCells (d.ow.eraseIdx k) = pkCells (d.ow.take k) ++ pkCells (d.ow.drop (k + 1)) := by
        rw [List.eraseIdx_eq_take_drop_succ]; simp only [pkCells, List.flatMap_append]
      rw [e]
      refine own_chg hl3 hc5 (fun g' o eg hx => ?_)
      rcases hx with hx | hx
      · exact hblk3.neOwn hl3 (by decide) (hx ▸ eg)
      · have hge : w1.heap.size ≤ g' := by
          rcases hto3.where_ eg with e' | e'
          · exact hw2b g' e'
          · omega
        have := HSZ1.out
        omega
    have hcF : Chg (fun x _ => x = b ∨ w.heap.size ≤ x) w w5 := by
      have h1 : Chg (fun x _ => x = b ∨ w.heap.size ≤ x) w w3 := ⟨hB3.os.trans HB1.out.os, hB3.tape.trans HB1.out.tape, hB3.output.trans HB1.out.output, Nat.le_trans HB1.out.size hB3.size, fun x o hx _ =>
        (hB3.block x (by have := heap_lt hx; have := HSZ1.out; omega)).trans ((HB1.out.block x (heap_lt hx)).trans hx)⟩
      exact h1.trans (hc5.mono (fun x o _ h => h.imp id (fun h => by omega)))
    have hT : ∀ x o, w.heap[x]? = some o → (x = b ∨ w.heap.size ≤ x) → x = b := fun x o hx hs => by have := heap_lt hx; omega
    have KK := H.out.kept (T := [41]) hcF (fun x o hx hs => H.out.onlyB x o hx (hT x o hx hs))
    have hlen : (d.ow.eraseIdx k).length = ml := by rw [List.length_eraseIdx, if_pos (by have := HM.out; omega)]; have := HM.out; omega
    have hS := H.out.turnO (d' := { d with ow := d.ow.eraseIdx k }) KK hF (fun i _ h15 => by simp [upd, h15]) rfl rfl rfl rfl rfl rfl rfl rfl (by decide) (by decide) (by decide) (by decide) (by decide) (by decide) (by decide)
      ⟨a8, c8, by rw [upd_same, hlen]⟩ (by rw [upd_same, hlen]; exact hrow5) (by show (d.ow.eraseIdx k).length ≤ 60; omega) (fun q hq => H.out.oz q (List.mem_of_mem_eraseIdx hq))
    have HS := Lib.hid hS
    have HCF : Hid (Chg (SQ B0 b) w w5) := ⟨hcF.os, hcF.tape, hcF.output, hcF.size, fun x o hx hs => hcF.kept x o hx (fun h => hs ⟨(hT x o hx h) ▸ H.out.hB, .inl (hT x o hx h)⟩)⟩
    have hx5 : w5.heap[w.heap.size]? = some (.cells #[.int .i64 p.1, .string p.2] 60 (0, 0)) := by
      rw [← hw5]
      have h0 : (w3.setCell ⟨b, 15, none⟩ (.slice a8 ml c8)).heap[w.heap.size]? = some (.cells #[.int .i64 0, .string ⟨#[]⟩] 60 (0, 0)) := by
        rw [heap_setCell_ne _ _ _ _ _ hnb]; exact hx30
      exact heap_setCell_eq (heap_setCell_eq h0)
    have r0 := cells_at hx5 0
    have r1 := cells_at hx5 1
    simp only [List.getElem?_toArray, List.getElem?_cons_succ, List.getElem?_cons_zero] at r0 r1
    have HW5 := Lib.hid hw5
    clear hx5 hl3 hto3 hw2b hB3 hblk3 hx3 hx30 hw5 hc5 hF hrow5 hcF hT KK hS hml hlen
    go_wp2
    rw [HW5.out]
    exact bodyPost_ret (v := .agg #[.int .i64 p.1, .string p.2]) (by simp [results, Tryz.results21, go_sem, r0, r1]) rfl ⟨rfl, _, HS.out, upd_other _ _ _ (by omega), HCF.out⟩
end Go.Proofs.YtfngdplkcppabaaGreatDoor
