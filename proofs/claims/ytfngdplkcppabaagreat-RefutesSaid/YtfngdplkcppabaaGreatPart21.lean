/-
  node.See.
  gossipkeep.made: nodes that know each other.
  gossipkeep.Refutes. THE WALK.
-/
import Derived.Test.YtfngdplkcppabaaGreatPart15
import Derived.Deep.RegionHeld3
import Derived.Test.YtfngdplkcppabaaGreatPart20
set_option linter.all false
namespace Go.Proofs.YtfngdplkcppabaaGreat
open Go.RowKit

theorem Below.drewN' {B : Nat} {w w' : World} (h : Below B w w') (n : Nat) : Below B w (w'.drewN n) := ⟨h.os, h.tape, h.output, h.size, h.block⟩
theorem queueLen_any {x : Nd} (a : Ad) (ov : Value) (w : World) (h : NodeAt w a ov x) :
    Calls Tryz.prog 25 #[.pointer (some ⟨a.bq, 0, none⟩)] w fun e w' => e = .returned (.int .i64 (x.queue.length : Nat)) ∧ w' = w := by
  have c1 := cells_at h.queue 1
  simp only [List.getElem?_toArray, List.getElem?_cons_succ, List.getElem?_cons_zero] at c1
  have hln : ∀ ty, (Builtin.len_ #[104] ty #[.map (some a.bm)]).run Tryz.prog w = .ok (.int .i64 (x.queue.length : Nat)) w := fun ty => by
    rw [h.news.len Tryz.underlying104 ty, qPairs_len]
  clear h
  go_enter Tryz.func25, Tryz.ntmps25
  go_wp2
  go_ret
  exact ⟨rfl, rfl⟩
set_option maxHeartbeats 2000000 in
theorem ten_set {w : World} {b : Nat} {a0 a1 a2 a3 a4 a5 a6 a7 a8 a9 : Value} {t : TypeId} {f : Nat × Nat} (h : w.heap[b]? = some (.cells #[a0, a1, a2, a3, a4, a5, a6, a7, a8, a9] t f)) (v0 v1 v2 v3 v4 v5 v6 v7 v8 v9 : Value) {R : World → Prop}
    (hR : ∀ W, W.heap[b]? = some (.cells #[v0, v1, v2, v3, v4, v5, v6, v7, v8, v9] t f) → Chg (fun k _ => k = b) w W → R W) : R ((((((((((w.setCell ⟨b, 0, none⟩ v0).setCell ⟨b, 1, none⟩ v1).setCell ⟨b, 2, none⟩ v2).setCell ⟨b, 3, none⟩ v3).setCell ⟨b, 4, none⟩ v4).setCell ⟨b, 5, none⟩ v5).setCell ⟨b, 6, none⟩ v6).setCell ⟨b, 7, none⟩ v7).setCell ⟨b, 8, none⟩ v8).setCell ⟨b, 9, none⟩ v9) := by
  have h0 := heap_setCell_eq (i := 0) (v := v0) h
  simp only [List.setIfInBounds_toArray, List.set_cons_zero] at h0
  have h1 := heap_setCell_eq (i := 1) (v := v1) h0
  simp only [List.setIfInBounds_toArray, List.set_cons_succ, List.set_cons_zero] at h1
  have h2 := heap_setCell_eq (i := 2) (v := v2) h1
  simp only [List.setIfInBounds_toArray, List.set_cons_succ, List.set_cons_zero] at h2
  have h3 := heap_setCell_eq (i := 3) (v := v3) h2
  simp only [List.setIfInBounds_toArray, List.set_cons_succ, List.set_cons_zero] at h3
  have h4 := heap_setCell_eq (i := 4) (v := v4) h3
  simp only [List.setIfInBounds_toArray, List.set_cons_succ, List.set_cons_zero] at h4
  have h5 := heap_setCell_eq (i := 5) (v := v5) h4
  simp only [List.setIfInBounds_toArray, List.set_cons_succ, List.set_cons_zero] at h5
  have h6 := heap_setCell_eq (i := 6) (v := v6) h5
  simp only [List.setIfInBounds_toArray, List.set_cons_succ, List.set_cons_zero] at h6
  have h7 := heap_setCell_eq (i := 7) (v := v7) h6
  simp only [List.setIfInBounds_toArray, List.set_cons_succ, List.set_cons_zero] at h7
  have h8 := heap_setCell_eq (i := 8) (v := v8) h7
  simp only [List.setIfInBounds_toArray, List.set_cons_succ, List.set_cons_zero] at h8
  have h9 := heap_setCell_eq (i := 9) (v := v9) h8
  simp only [List.setIfInBounds_toArray, List.set_cons_succ, List.set_cons_zero] at h9
  exact hR _ h9 (((((((((((Chg.refl (fun k _ => k = b) w).setCell _ (fun _ _ => rfl)).setCell _ (fun _ _ => rfl)).setCell _ (fun _ _ => rfl)).setCell _ (fun _ _ => rfl)).setCell _ (fun _ _ => rfl)).setCell _ (fun _ _ => rfl)).setCell _ (fun _ _ => rfl)).setCell _ (fun _ _ => rfl)).setCell _ (fun _ _ => rfl)).setCell _ (fun _ _ => rfl))
def prbTgt : Option Prb → Int
  | none => 0
  | some p => p.tgt
/-- What See tells. -/
def seeV (x : Nd) (v : Value) : Value :=
  .agg #[.int .i64 x.clock, .int .i64 x.self.id, .int .i64 x.self.inc, .int .i64 x.self.st, v, .int .i64 (prbTgt x.probe), .int .i64 (x.queue.length : Nat), .int .i64 (x.relays.length : Nat), .int .i64 x.dropped, .int .i64 x.lost]
set_option maxRecDepth 100000 in
set_option maxHeartbeats 2000000 in
theorem see_any {x : Nd} (ho : Ok x) (a : Ad) (ov : Value) (w : World) (h : NodeAt w a ov x) :
    Calls Tryz.prog 13 #[.pointer (some ⟨a.b, 0, none⟩)] w fun e w' => ∃ v, e = .returned (seeV x v) ∧ w'.ownsRow w.heap.size 31 3 v x.others.length (keyCells (x.others.map (·.k))) ∧ Below w.heap.size w w' := by
  have H := Lib.hid h
  have HO := Lib.hid ho
  clear h ho
  go_enter Tryz.func13, Tryz.ntmps13
  go_wp2
  obtain ⟨w1, hw1⟩ : ∃ w1, w.alloc (.cells #[.int .i64 0, .int .i64 0, .int .i64 0, .int .i64 0, .slice none 0 0, .int .i64 0, .int .i64 0, .int .i64 0, .int .i64 0, .int .i64 0] 46) = w1 := ⟨_, rfl⟩
  rw [hw1]
  have H1 := Lib.hid (show NodeAt w1 a ov x by rw [← hw1]; exact H.out.below ((Below.refl _ _).alloc (Nat.le_refl _) _))
  have hB1 := Lib.hid (show Below w.heap.size w w1 by rw [← hw1]; exact (Below.refl _ _).alloc (Nat.le_refl _) _)
  have hX1 := Lib.hid (show w1.heap[w.heap.size]? = some (.cells #[.int .i64 0, .int .i64 0, .int .i64 0, .int .i64 0, .slice none 0 0, .int .i64 0, .int .i64 0, .int .i64 0, .int .i64 0, .int .i64 0] 46 (0, 0)) by rw [← hw1]; exact heap_alloc_eq w _)
  clear hw1
  have hql : Hid (∀ (W : World), W.heap = w1.heap → NodeAt W a ov x) := Lib.hid (fun W hW => H1.out.keep (fun k _ => by rw [hW]))
  have hqa : Hid (∀ o (W : World), W.heap = (w1.alloc o).heap → NodeAt W a ov x) := Lib.hid (fun o W hW => (H1.out.below ((Below.refl _ _).alloc (Nat.le_refl _) o)).keep (fun k _ => by rw [hW]))
  have hs : ∀ w', NodeAt w' a ov x → (w'.cell? ⟨a.b, 7, none⟩ = some (.int .i64 x.self.id) ∧ w'.cell? ⟨a.b, 8, none⟩ = some (.int .i64 x.self.inc) ∧ w'.cell? ⟨a.b, 9, none⟩ = some (.int .i64 x.self.st) ∧ w'.cell? ⟨a.b, 11, none⟩ = some (.pointer (some ⟨a.bq, 0, none⟩)) ∧ w'.cell? ⟨a.b, 13, none⟩ = some (.int .i64 x.clock) ∧ w'.cell? ⟨a.b, 17, none⟩ = some (.map (some a.br)) ∧ w'.cell? ⟨a.b, 18, none⟩ = some (.int .i64 x.dropped) ∧ w'.cell? ⟨a.b, 19, none⟩ = some (.int .i64 x.lost) ∧ ∀ ty, (Builtin.len_ #[75] ty #[.map (some a.br)]).run Tryz.prog w' = .ok (.int .i64 (x.relays.length : Nat)) w') := fun w' h => ⟨h.blk.cell (by omega), h.blk.cell (by omega), h.blk.cell (by omega), h.blk.cell (by omega), h.blk.cell (by omega), h.blk.cell (by omega), h.blk.cell (by omega), h.blk.cell (by omega), fun ty => len_rel h ty⟩
  have HK := Lib.hid (fun (W : World) (hW : W.heap = w1.heap) => hs W (hql.out W hW))
  have HKA := Lib.hid (fun o (W : World) (hW : W.heap = (w1.alloc o).heap) => hs W (hqa.out o W hW))
  clear hs
  go_cut [3] (fun s2 wx => s2 = .pointer (some ⟨w1.heap.size, 0, none⟩) ∧ ∃ n, wx = (w1.alloc (.cells #[.int .i64 x.clock, .int .i64 x.self.id, .int .i64 x.self.inc, .int .i64 x.self.st, .slice none 0 0, .int .i64 0, .int .i64 (x.queue.length : Nat), .int .i64 (x.relays.length : Nat), .int .i64 x.dropped, .int .i64 x.lost] 46)).drewN n)
  case first =>
    go_region_held3 (fun w' => w'.cell? ⟨a.b, 7, none⟩ = some (.int .i64 x.self.id) ∧ w'.cell? ⟨a.b, 8, none⟩ = some (.int .i64 x.self.inc) ∧ w'.cell? ⟨a.b, 9, none⟩ = some (.int .i64 x.self.st) ∧ w'.cell? ⟨a.b, 11, none⟩ = some (.pointer (some ⟨a.bq, 0, none⟩)) ∧ w'.cell? ⟨a.b, 13, none⟩ = some (.int .i64 x.clock) ∧ w'.cell? ⟨a.b, 17, none⟩ = some (.map (some a.br)) ∧ w'.cell? ⟨a.b, 18, none⟩ = some (.int .i64 x.dropped) ∧ w'.cell? ⟨a.b, 19, none⟩ = some (.int .i64 x.lost) ∧ ∀ ty, (Builtin.len_ #[75] ty #[.map (some a.br)]).run Tryz.prog w' = .ok (.int .i64 (x.relays.length : Nat)) w')
      (first | exact HK.out _ rfl | exact HKA.out _ _ rfl)
      ((go_at_call 25; refine (queueLen_any a ov _ (by first | exact hql.out _ rfl | exact hqa.out _ _ rfl)).mono ?_; rintro e w5 ⟨rfl, rfl⟩))
    all_goals
      go_wp2
      go_meet
      case rel => exact ⟨rfl, 1, rfl⟩
  case rest =>
    obtain ⟨rfl, n, rfl⟩ := hcut
    obtain ⟨w2, hw2⟩ : ∃ w2, (w1.alloc (.cells #[.int .i64 x.clock, .int .i64 x.self.id, .int .i64 x.self.inc, .int .i64 x.self.st, .slice none 0 0, .int .i64 0, .int .i64 (x.queue.length : Nat), .int .i64 (x.relays.length : Nat), .int .i64 x.dropped, .int .i64 x.lost] 46)).drewN n = w2 := ⟨_, rfl⟩
    rw [hw2]
    have hb12 : Below w1.heap.size w1 w2 := by rw [← hw2]; exact Below.drewN' ((Below.refl _ _).alloc (Nat.le_refl _) _) n
    have hx2 : w2.heap[w1.heap.size]? = some (.cells #[.int .i64 x.clock, .int .i64 x.self.id, .int .i64 x.self.inc, .int .i64 x.self.st, .slice none 0 0, .int .i64 0, .int .i64 (x.queue.length : Nat), .int .i64 (x.relays.length : Nat), .int .i64 x.dropped, .int .i64 x.lost] 46 (0, 0)) := by rw [← hw2]; exact heap_alloc_eq w1 _
    have hr2 := (hb12.block _ (heap_lt hX1.out)).trans hX1.out
    have n2 := H1.out.below hb12
    have hs12 := heap_lt hx2
    have hlt1 := heap_lt hX1.out
    have q10 : w2.cell? ⟨a.b, 10, none⟩ = some (.map (some a.bo)) := n2.blk.cell (by omega)
    have HX2 := Lib.hid hx2
    have HR2 := Lib.hid hr2
    have HN2 := Lib.hid n2
    have HB12 := Lib.hid hb12
    clear hw2 hb12 hx2 hr2 n2 HK HKA hql hqa
    rcases Option.eq_none_or_eq_some x.probe with hp | ⟨p, hp⟩
    · have HP := Lib.hid hp
      clear hp
      go_wp2_with (first
        | (go_at_call 27; refine (sortedAll_any HO.out a ov _ HN2.out).mono ?_; rintro e w27 ⟨v27, rfl, hP27, hb27⟩
           have HP27 := Lib.hid hP27
           have HB27 := Lib.hid hb27
           clear hP27 hb27)
        | (go_at_call 26; refine (keysN_any HO.out a ov w2 _ HN2.out HB27.out v27 HP27.out).mono ?_; rintro e w53 ⟨v53, rfl, hrow53, hb53⟩
           obtain ⟨pa, pc, rfl⟩ := ownsRow_sl hrow53
           have hBB : Below w2.heap.size w2 w53 := HB27.out.trans (hb53.mono HB27.out.size)
           have n53 := HN2.out.below hBB
           have e16 : w53.cell? ⟨a.b, 16, none⟩ = some (.pointer none) := by rw [n53.blk.cell (i := 16) (by omega)]; show some (prbV a x.probe) = _; rw [HP.out]; rfl
           have x53 := (hBB.block _ hs12).trans HX2.out
           have r53 := (hBB.block _ (by omega)).trans HR2.out
           have s4 := cells_at x53
           have f4 := unfrozen x53
           have r4 := cells_at r53
           have g4 := unfrozen r53
           have HBB := Lib.hid hBB
           have HN53 := Lib.hid n53
           have HX53 := Lib.hid x53
           have HR53 := Lib.hid r53
           have HROW := Lib.hid hrow53
           clear hb53 hrow53 hBB n53 x53 r53))
      refine ten_set (R := bodyPost _ _ _ _ _) ((heap_setCell_ne _ _ _ _ _ (by omega)).trans HR53.out) _ _ _ _ _ _ _ _ _ _ (fun W hW hC => ?_)
      have hc := cells_at hW
      have hcc := ((Chg.refl (fun k _ => k = w1.heap.size ∨ k = w.heap.size) w53).setCell _ (fun _ _ => .inl rfl)).trans (hC.mono (fun _ _ _ => .inr))
      have hz := HB27.out.size
      refine bodyPost_ret (v := seeV x (.slice pa x.others.length pc)) (by simp [results, Tryz.results13, go_sem, seeV, prbTgt, HP.out, hc]) rfl ⟨_, rfl, ?_, ?_⟩
      · exact own_below (own_chg HROW.out hcc (fun g o hg e => by have := (HROW.out.lt g hg).1; omega)) (by omega)
      · exact (hB1.out.trans (HB12.out.mono hB1.out.size)).trans ((HBB.out.mono (by omega)).trans (hcc.below (by have := HBB.out.size; omega) (fun k o e => by omega)))
    · have HP := Lib.hid hp
      clear hp
      go_wp2_with (first
        | (go_at_call 27; refine (sortedAll_any HO.out a ov _ HN2.out).mono ?_; rintro e w27 ⟨v27, rfl, hP27, hb27⟩
           have HP27 := Lib.hid hP27
           have HB27 := Lib.hid hb27
           clear hP27 hb27)
        | (go_at_call 26; refine (keysN_any HO.out a ov w2 _ HN2.out HB27.out v27 HP27.out).mono ?_; rintro e w53 ⟨v53, rfl, hrow53, hb53⟩
           obtain ⟨pa, pc, rfl⟩ := ownsRow_sl hrow53
           have hBB : Below w2.heap.size w2 w53 := HB27.out.trans (hb53.mono HB27.out.size)
           have n53 := HN2.out.below hBB
           have e16 : w53.cell? ⟨a.b, 16, none⟩ = some (.pointer (some ⟨a.pb, 0, none⟩)) := by rw [n53.blk.cell (i := 16) (by omega)]; show some (prbV a x.probe) = _; rw [HP.out]; rfl
           have x53 := (hBB.block _ hs12).trans HX2.out
           have r53 := (hBB.block _ (by omega)).trans HR2.out
           have s4 := cells_at x53
           have f4 := unfrozen x53
           have r4 := cells_at r53
           have g4 := unfrozen r53
           have hpb := n53.prb p HP.out
           have t0 := cells_at hpb 0
           simp only [prbCells, List.getElem?_toArray, List.getElem?_cons_zero] at t0
           have HBB := Lib.hid hBB
           clear hpb
           have HN53 := Lib.hid n53
           have HX53 := Lib.hid x53
           have HR53 := Lib.hid r53
           have HROW := Lib.hid hrow53
           clear hb53 hrow53 hBB n53 x53 r53))
      refine ten_set (R := bodyPost _ _ _ _ _) ((heap_setCell_ne _ _ _ _ _ (by omega)).trans ((heap_setCell_ne _ _ _ _ _ (by omega)).trans HR53.out)) _ _ _ _ _ _ _ _ _ _ (fun W hW hC => ?_)
      have hc := cells_at hW
      have hcc := (((Chg.refl (fun k _ => k = w1.heap.size ∨ k = w.heap.size) w53).setCell _ (fun _ _ => .inl rfl)).setCell _ (fun _ _ => .inl rfl)).trans (hC.mono (fun _ _ _ => .inr))
      have hz := HB27.out.size
      refine bodyPost_ret (v := seeV x (.slice pa x.others.length pc)) (by simp [results, Tryz.results13, go_sem, seeV, prbTgt, HP.out, hc]) rfl ⟨_, rfl, ?_, ?_⟩
      · exact own_below (own_chg HROW.out hcc (fun g o hg e => by have := (HROW.out.lt g hg).1; omega)) (by omega)
      · exact (hB1.out.trans (HB12.out.mono hB1.out.size)).trans ((HBB.out.mono (by omega)).trans (hcc.below (by have := HBB.out.size; omega) (fun k o e => by omega)))
end Go.Proofs.YtfngdplkcppabaaGreat
namespace Go.Proofs.YtfngdplkcppabaaGreat
open Go.RowKit

theorem map_set_x {l : List Bx} (j : Nat) (q : Bx) : (l.set j q).map Bx.x = (l.map Bx.x).set j q.x := by rw [List.map_set]
theorem two_sets {l : List Bx} {i k : Nat} (hik : i ≠ k) (p q r : Bx) : (((l.set i p).set k q).set i r).map Bx.x = ((l.map Bx.x).set k q.x).set i r.x := by
  rw [List.map_set, List.map_set, List.map_set]
  rw [List.set_comm _ _ hik, List.set_set]
/-- One more. -/
theorem Ns.snoc {wr w5 w6 : World} {B0 n lc g m c9 : Nat} {la : Option Addr} {L : List Bx} {q : Bx} (h : Ns wr B0 (.slice la n lc) L) (hbw : Below wr.heap.size wr w5) (hA : BxAt w5 wr.heap.size q) (hB0 : B0 ≤ wr.heap.size) (o : Obj)
    (hto : AppTo (w5.alloc o) w6 (.slice la n lc) g) (hrow : w6.ownsRow B0 25 1 (.slice (some ⟨g, 0, none⟩) m c9) (L.length + 1) (L.map Bx.v ++ [q.v])) : Ns w6 B0 (.slice (some ⟨g, 0, none⟩) m c9) (L ++ [q]) := by
  have h5 := h.below hbw
  have hlo : ∀ p ∈ L, ∀ k, Foot p k → k < wr.heap.size := fun p hp k hk => (h.bxs.at_ p hp).lt hk
  have hz : (w5.alloc o).heap.size = w5.heap.size + 1 := by simp
  have hgr : ∀ k, (Value.slice la n lc).ownBlock = some k → k < wr.heap.size := fun k hk => (h.row.lt k hk).2
  have hsz := hbw.size
  have key : ∀ k, k < w5.heap.size → (Value.slice la n lc).ownBlock ≠ some k → w6.heap[k]? = w5.heap[k]? := fun k hk hne => by
    rw [hto.block (by omega) hne]; exact Below.heap_alloc _ _ _ hk
  have hL6 : Bxs w6 B0 L := h5.bxs.keep (fun p hp k hk => key k (by have := hlo p hp k hk; omega) (fun e => h.off k e p hp hk))
  have hq6 : BxAt w6 B0 q := by
    have h1 : BxAt w5 B0 q := ⟨hA.node, hA.box, hA.free, fun k hk => Nat.le_trans hB0 (hA.low k hk)⟩
    refine h1.keep (fun k hk => key k (hA.lt hk) (fun e => ?_))
    have := hgr k e
    have := hA.low k hk
    omega
  refine ⟨hL6.add hq6 (fun p hp k hk hk' => ?_), ?_, fun g' hg' p hp hf => ?_⟩
  · have := hlo p hp k hk
    have := hA.low k hk'
    omega
  · rw [List.length_append, List.map_append]; exact hrow
  · simp only [Value.ownBlock, Option.some.injEq] at hg'
    subst hg'
    rcases hto with ⟨e, _⟩ | ⟨e, _⟩
    · rcases List.mem_append.1 hp with hp | hp
      · exact h.off g e p hp hf
      · rw [List.mem_singleton] at hp; subst hp
        have := hgr g e
        have := hA.low g hf
        omega
    · rcases List.mem_append.1 hp with hp | hp
      · have := hlo p hp g hf; omega
      · rw [List.mem_singleton] at hp; subst hp
        have := hA.lt hf; omega
theorem info_box : (Tryz.prog.info? 25).map (fun i => (i.zero, i.size, i.bytes)) = some (some (.pointer none), 1, 8) := by kernel_rfl
theorem Ns.low {w : World} {B B' : Nat} {v : Value} {l : List Bx} (h : Ns w B v l) (hB : B' ≤ B) : Ns w B' v l :=
  ⟨⟨fun q hq => ⟨(h.bxs.at_ q hq).node, (h.bxs.at_ q hq).box, (h.bxs.at_ q hq).free, fun k hk => Nat.le_trans hB ((h.bxs.at_ q hq).low k hk)⟩, h.bxs.apart⟩, own_below h.row hB, h.off⟩
theorem Ns.nodeOf {w : World} {B : Nat} {v : Value} {l : List Bx} (h : Ns w B v l) {i : Nat} {q : Bx} (hq : l[i]? = some q) : ∃ ov, NodeAt w q.a ov q.x := (h.bxs.at_ q (List.mem_of_getElem? hq)).node
theorem below_ofDrew {B n : Nat} {w w' : World} (h : Below B (w.drewN n) w') : Below B w w' := ⟨h.os, h.tape, h.output, h.size, h.block⟩
theorem x_at {l : List Bx} {i : Nat} {q : Bx} (hq : l[i]? = some q) : (l.map Bx.x)[i]? = some q.x := by rw [List.getElem?_map, hq]; rfl
def MadePost (n : Nat) (c : Int) (ds : List Int) (w : World) (e : Ending) (w' : World) : Prop :=
  ∃ v l, e = .returned v ∧ Ns w' w.heap.size v l ∧ Mid n 10000 c (ds.take 50) n 0 (l.map Bx.x) ∧ Below w.heap.size w w'
set_option maxRecDepth 100000 in
set_option maxHeartbeats 4000000 in
theorem made_any (n : Nat) (hn : 2 ≤ n ∧ n ≤ 6) (c : Int) (hc : -9223372036854775808 ≤ c ∧ c ≤ 9223372036854775807) (ds : List Int) (hfit : ∀ v ∈ ds, fitsI v) (da : Option Addr) (dn dc : Nat) (w : World) (hdn : ds.length = dn) (hl : dn ≤ 9223372036854775807) (hd : CellsAt w da (ds.map (Value.int .i64))) :
    Calls Tryz.prog 8 #[.int .i64 (n : Int), .int .i64 c, .slice da dn dc] w (MadePost n c ds w) := by
  have hfew := few_any ds da dn dc w hdn hl hd
  have HFEW := Lib.hid hfew
  have HFIT := Lib.hid hfit
  clear hfew hd hdn hfit
  go_enter Tryz.func8, Tryz.ntmps8
  go_wp2_with (go_at_call 18; refine HFEW.out.mono ?_; rintro e w1 ⟨dv, rfl, hrow, hb⟩)
  obtain ⟨fa, fc, rfl⟩ := ownsRow_sl hrow
  obtain ⟨ds', hds'⟩ : ∃ ds', ds.take 50 = ds' := ⟨_, rfl⟩
  have hf' : ∀ v ∈ ds', fitsI v := fun v hv => HFIT.out v (by rw [← hds'] at hv; exact List.mem_of_mem_take hv)
  have hl' : ds'.length ≤ 50 := by rw [← hds', List.length_take]; omega
  unfold MadePost
  rw [hds'] at hrow ⊢
  have HROW := Lib.hid hrow
  have HB := Lib.hid hb
  have HF := Lib.hid hf'
  have hsz := hb.size
  have HDS := Lib.hid hds'
  clear hrow hb hf' hds' HFIT HFEW
  have hpt : Hid (∀ W, (∃ W1, Below w1.heap.size w1 W1 ∧ W.heap = W1.heap) → CellsAt W fa (ds'.map (Value.int .i64))) := Lib.hid (fun W ⟨W1, hW, he⟩ => (CellsAt.row (HROW.out)).heap (fun b off e hlt => by rw [he]; exact ⟨hW.block b hlt, Nat.lt_of_lt_of_le hlt hW.size⟩))
  go_wp2
  go_loopw [8, 9] (fun s6 s7 wr => ∃ (i : Nat) (L : List Bx), 1 ≤ i ∧ i ≤ n + 1 ∧ s7 = .int .i64 (i : Nat) ∧ Ns wr w1.heap.size s6 L ∧ L.map Bx.x = (List.range (i - 1)).map (fun (a : Nat) => Nd.new (cfgOf ((a : Int) + 1) c) ds') ∧ Below w1.heap.size w1 wr)
    (fun _ s7 _ => 10 - (intOf s7).toNat)
  case atStart => exact ⟨1, [], Nat.le_refl _, by omega, rfl, ⟨Bxs.nil _ _, World.ownsRow_nil _ _ _ _, by simp⟩, rfl, Below.refl _ _⟩
  case round =>
    obtain ⟨i, L, hi1, hin, rfl, hNs, hxs, hb⟩ := hrel
    have hLl : L.length = i - 1 := by have := congrArg List.length hxs; simpa using this
    obtain ⟨la, lc, rfl⟩ := ownsRow_sl hNs.row
    have HNS := Lib.hid hNs
    have HXS := Lib.hid hxs
    have HBR := Lib.hid hb
    have HLL := Lib.hid hLl
    have hszr := hb.size
    clear hNs hxs hb hLl
    by_cases hlt : i ≤ n
    · have hcf := cfgOf_ok c (self := (i : Int)) (by omega)
      have HCF := Lib.hid hcf
      have hLl := HLL.out
      have K3 : Hid (L.length + 1 ≤ maxLen) := Lib.hid (by unfold maxLen; omega)
      obtain ⟨i0, hi, hz0, hz1, hz2⟩ := info_parts info_box
      clear hcf
      go_wp2_with (first
        | (go_at_call 14; refine (config_any (i : Int) c _ hc.1 hc.2).mono ?_; rintro e w4 ⟨rfl, hb4⟩
           have HB4 := Lib.hid hb4
           clear hb4
           unfold Cfg.v)
        | (go_at_call 19; refine (plainNew_any (cfgOf (i : Int) c) HCF.out ds' HF.out fa ds'.length fc _ rfl (by omega) (by first | exact hpt.out _ ⟨_, HBR.out.trans (HB4.out.mono HBR.out.size), rfl⟩ | exact hpt.out _ ⟨_, (HBR.out.trans (HB4.out.mono HBR.out.size)).alloc (Nat.le_trans HBR.out.size HB4.out.size) _, rfl⟩)).mono ?_; rintro e w5 ⟨q, hx, rfl, hA, hb5⟩
           have hbw : Below wr.heap.size wr w5 := by first | exact HB4.out.trans (hb5.mono HB4.out.size) | exact (HB4.out.alloc HB4.out.size _).trans (hb5.mono (by have := HB4.out.size; simp; omega))
           have hA' : BxAt w5 wr.heap.size q := ⟨hA.node, hA.box, hA.free, fun k hk => Nat.le_trans (by have := HB4.out.size; first | exact HB4.out.size | (simp; omega)) (hA.low k hk)⟩
           have HX := Lib.hid hx
           have HA := Lib.hid hA'
           have HBW := Lib.hid hbw
           have HROWL := Lib.hid (show (w5.alloc (.cells #[.pointer (some ⟨q.g, 0, none⟩)] 25)).ownsRow w1.heap.size 25 1 (.slice la (i - 1) lc) (i - 1) (L.map Bx.v) by have := ((HNS.out.below hbw).row).alloc (.cells #[.pointer (some ⟨q.g, 0, none⟩)] 25); rw [HLL.out] at this; exact this)
           have HNEW := Lib.hid (cells_new w5 [.pointer (some ⟨q.g, 0, none⟩)] 25 (n := w5.heap.size) rfl)
           have hz5 := hbw.size
           clear hx hA hb5 hA' hbw)
        | (at_builtin; refine wpList_append_to _ rfl _ _ 23 rfl w1.heap.size 25 i0 _ 1 8 Tryz.underlying23 hi hz0 hz1 hz2 rfl (by decide) (.slice la (i - 1) lc) (i - 1) _ rfl HROWL.out ⟨w5.heap.size, 0, none⟩ 1 1 _ rfl rfl HNEW.out (by simp [Value.oneCell']) (by omega) (by have := K3.out; omega) (by omega) (by simp; omega) ?_))
      intro g6 c6 w6 hrow6 hto6
      have hLs : L.length + 1 = i := by omega
      have hNs6 : Ns w6 w1.heap.size (.slice (some ⟨g6, 0, none⟩) i c6) (L ++ [q]) := HNS.out.snoc HBW.out HA.out hszr _ (by rw [HLL.out]; exact hto6) (by rw [hLs]; exact hrow6)
      have hb6 : Below w1.heap.size w1 w6 := ((HBR.out.trans (HBW.out.mono hszr)).alloc (by omega) _).grown hto6.grown (by simp; omega) (fun j hj => (HROWL.out.lt j hj).1)
      have HNS6 := Lib.hid hNs6
      have HB6 := Lib.hid hb6
      clear hNs6 hb6 hrow6 hto6
      go_wp2
      go_roundw
      case rel =>
        refine ⟨i + 1, L ++ [q], by omega, by omega, by go_num, HNS6.out, ?_, HB6.out⟩
        have e : i + 1 - 1 = (i - 1) + 1 := by omega
        have e2 : ((i - 1 : Nat) : Int) + 1 = (i : Int) := by omega
        rw [e, List.range_succ, List.map_append, List.map_append, HXS.out]
        simp only [List.map_cons, List.map_nil, HX.out, e2]
      case measure => simp [intOf]; omega
    · have hi : i = n + 1 := by omega
      have hLn : L.length = n := by rw [HLL.out]; omega
      have hMid : Mid n 0 c ds' 0 0 (L.map Bx.x) := by
        rw [HXS.out, show i - 1 = n by omega]; exact mid_new (by omega) c ds'
      obtain ⟨lg, lcc, hsl⟩ := HNS.out.sl (by omega)
      simp only [Value.slice.injEq] at hsl
      obtain ⟨rfl, _, rfl⟩ := hsl
      have hNs := HNS.out
      rw [hLn] at hNs ⊢
      have HI0 := Lib.hid hi
      have hgt : n < i := by omega
      have HNS' := Lib.hid hNs
      have HMID := Lib.hid hMid
      clear hNs hMid hLn hlt hi hi1 hin
      go_wp2
      clear hgt
      try generalize decide ((i : Int) ≤ (n : Int)) = bb
      try generalize decide (i ≤ n) = bb2
      go_loopw [13] (fun s13 wr2 => ∃ (i : Nat) (M : List Bx), i ≤ n ∧ s13 = .int .i64 (i : Nat) ∧ Ns wr2 w1.heap.size (.slice (some ⟨lg, 0, none⟩) n lc) M ∧ Mid n (100 * (i : Int)) c ds' i 0 (M.map Bx.x) ∧ Below w1.heap.size w1 wr2)
        (fun s13 _ => 10 - (intOf s13).toNat)
      case atStart => exact ⟨0, L, Nat.zero_le _, rfl, HNS'.out, HMID.out, HBR.out⟩
      case round =>
        obtain ⟨i, M, hin, rfl, hNs, hMid, hb⟩ := hrel
        have HNI := Lib.hid hNs
        have HMI := Lib.hid hMid
        have HBI := Lib.hid hb
        clear hNs hMid hb
        by_cases hlt : i < n
        · go_wp2
          go_loopw [14] (fun s14 wr3 => ∃ (k : Nat) (M : List Bx), k ≤ n ∧ s14 = .int .i64 (k : Nat) ∧ Ns wr3 w1.heap.size (.slice (some ⟨lg, 0, none⟩) n lc) M ∧ Mid n (100 * (i : Int) + 11 * (k : Int)) c ds' i k (M.map Bx.x) ∧ Below w1.heap.size w1 wr3)
            (fun s14 _ => 10 - (intOf s14).toNat)
          case atStart => exact ⟨0, M, Nat.zero_le _, rfl, HNI.out, HMI.out.mono (by omega), HBI.out⟩
          case round =>
            clear HNI HMI HBI
            obtain ⟨k, M, hkn, rfl, hNs, hMid, hb⟩ := hrel
            have hMl : M.length = n := by rw [← hMid.len, List.length_map]
            obtain ⟨q, hq⟩ : ∃ q, M[i]? = some q := ⟨M[i], List.getElem?_eq_getElem (by omega)⟩
            have hszz := hb.size
            have cq := hNs.cell hq
            have cb := hNs.box hq
            by_cases hk : k < n
            · by_cases hik : k = i
              · subst hik
                have HN3 := Lib.hid hNs
                have HM3 := Lib.hid hMid
                have HB3 := Lib.hid hb
                clear hNs hMid hb hq
                go_wp2
                go_roundw
                case rel => exact ⟨k + 1, M, by omega, by go_num, HN3.out, HM3.out.same.mono (by omega), HB3.out⟩
                case measure => simp [intOf]; omega
              · obtain ⟨q2, hq2⟩ : ∃ q2, M[k]? = some q2 := ⟨M[k], List.getElem?_eq_getElem (by omega)⟩
                obtain ⟨m, a, y', x', e1, e2, e3, e4, e5, hokx, hoky, hokn, hbx, hby, hbn, hm, ha, hmid'⟩ := hMid.step (by omega) (fun e => hik e.symm) (x_at hq) (x_at hq2)
                obtain ⟨ov, hnode⟩ := hNs.nodeOf hq
                have hJ := join_any hokx hbx (by omega) q.a ov wr hnode ((k : Int) + 1)
                have wk : IntKind.i64.wrap ((k : Int) + 1) = (k : Int) + 1 := IntWalk.i64_in _ (by omega)
                have wi : IntKind.i64.wrap ((i : Int) + 1) = (i : Int) + 1 := IntWalk.i64_in _ (by omega)
                have hne : ((k : Int) == (i : Int)) = false := by simp only [beq_eq_false_iff_ne, ne_eq]; omega
                have HJ := Lib.hid hJ
                have HN3 := Lib.hid hNs
                have HB3 := Lib.hid hb
                have HQ := Lib.hid hq
                have HQ2 := Lib.hid hq2
                have E1 := Lib.hid e1
                have E2 := Lib.hid e2
                have E3 := Lib.hid e3
                have E4 := Lib.hid e4
                have E5 := Lib.hid e5
                have OKY := Lib.hid hoky
                have OKN := Lib.hid hokn
                have BDY := Lib.hid hby
                have BDN := Lib.hid hbn
                have HMM := Lib.hid hm
                have HMA := Lib.hid ha
                have HMID' := Lib.hid hmid'
                clear hJ hNs hMid hb hq hq2 e1 e2 e3 e4 e5 hokx hoky hokn hbx hby hbn hm ha hmid' hnode
                go_wp2_with fail
                refine HJ.out.mono ?_; rintro e w4 ⟨v, he, hG⟩
                rw [E1.out] at he hG
                obtain rfl : e = .returned (.tuple #[v, .nilIface]) := he
                obtain ⟨a1, hN4, hO4, hB4, hT4⟩ := HN3.out.gives hszz HQ.out hG
                obtain ⟨g4, c4, rfl, hg4, o40, o41⟩ := out_one hO4
                have hq24 : (M.set i ⟨q.g, a1, q.x.next⟩)[k]? = some q2 := by rw [List.getElem?_set_ne (by omega)]; exact HQ2.out
                have cq2 := hN4.cell hq24
                have cb2 := hN4.box hq24
                have hN4 := hN4.drewN 1
                obtain ⟨ov4, hn4⟩ := hN4.nodeOf hq24
                have hsz4 : wr.heap.size ≤ w4.heap.size := hT4.chg.size
                have HN4 := Lib.hid hN4
                have HB4 := Lib.hid hB4
                have HQ24 := Lib.hid hq24
                have HNO4 := Lib.hid hn4
                clear hG hN4 hO4 hB4 hT4 hq24 hn4
                go_upto_region 21 with (fail)
                (refine wp_tail 11 (by kernel_rfl) (by kernel_rfl) ?_; simp only [List.take_succ_cons, List.take_zero, List.drop_succ_cons, List.drop_zero])
                iterate 11 still_step
                refine wpStill_nil ?_
                go_wp2_with fail
                refine (receive_any OKY.out BDY.out (by omega) q2.a ov4 _ HNO4.out (strOfNums (msgBytes m)) (by have := bytes_size E2.out; unfold maxLen; omega) (fun m' hm' => by rw [decode_bytes E2.out] at hm'; cases hm'; exact HMM.out)).mono ?_; rintro e w5 ⟨v, rfl, hG⟩
                rw [decode_bytes E2.out, E3.out] at hG
                obtain ⟨a2, hN5, hO5, hB5, hT5⟩ := HN4.out.gives (show w1.heap.size ≤ w4.heap.size by omega) HQ24.out hG
                obtain ⟨g5, c5, rfl, hg5, o50, o51⟩ := out_one hO5
                have hq5 : ((M.set i ⟨q.g, a1, q.x.next⟩).set k ⟨q2.g, a2, y'⟩)[i]? = some ⟨q.g, a1, q.x.next⟩ := by rw [List.getElem?_set_ne (by omega), List.getElem?_set_self (by omega)]
                have cq5 := hN5.cell hq5
                have cb5 := hN5.box hq5
                have hN5 := hN5.drewN 1
                obtain ⟨ov5, hn5⟩ := hN5.nodeOf hq5
                have hsz5 : w4.heap.size ≤ w5.heap.size := hT5.chg.size
                have HN5 := Lib.hid hN5
                have HB5 := Lib.hid hB5
                have HQ5 := Lib.hid hq5
                have HNO5 := Lib.hid hn5
                clear hG hN5 hO5 hB5 hT5 hq5 hn5
                go_upto_region 23 with (fail)
                (refine wp_tail 11 (by kernel_rfl) (by kernel_rfl) ?_; simp only [List.take_succ_cons, List.take_zero, List.drop_succ_cons, List.drop_zero])
                iterate 11 still_step
                refine wpStill_nil ?_
                go_wp2_with fail
                refine (receive_any OKN.out BDN.out (by omega) a1 ov5 _ HNO5.out (strOfNums (msgBytes a)) (by have := bytes_size E4.out; unfold maxLen; omega) (fun m' hm' => by rw [decode_bytes E4.out] at hm'; cases hm'; exact HMA.out)).mono ?_; rintro e w6 ⟨v, rfl, hG⟩
                rw [decode_bytes E4.out, E5.out] at hG
                obtain ⟨a3, hN6, hO6, hB6, hT6⟩ := HN5.out.gives (show w1.heap.size ≤ w5.heap.size by omega) HQ5.out hG
                have HN6 := Lib.hid hN6
                have HB6 := Lib.hid hB6
                clear hG hN6 hO6 hB6 hT6
                go_wp2
                go_roundw
                case rel =>
                  refine ⟨k + 1, _, by omega, by go_num, HN6.out, ?_, HB3.out.trans (HB4.out.trans ((below_ofDrew HB5.out).trans (below_ofDrew HB6.out)))⟩
                  rw [two_sets (fun e => hik e.symm)]
                  exact HMID'.out.mono (by omega)
                case measure => simp [intOf]; omega
            · have hkn' : k = n := by omega
              subst hkn'
              obtain ⟨hy, _, _, _⟩ := hMid.young i q.x (x_at hq)
              have hkl := hy.calm.known_len (hMid.known (x_at hq))
              have hge : (i : Int) ≤ (q.x.others.length : Nat) := by omega
              obtain ⟨ov, hnode⟩ := hNs.nodeOf hq
              have hsee := see_any hy.calm.ok q.a ov wr hnode
              have HSEE := Lib.hid hsee
              have HN3 := Lib.hid hNs
              have HM3 := Lib.hid hMid
              have HB3 := Lib.hid hb
              have hgb : ¬ (((q.x.others.length : Nat) : Int) < (i : Int)) := by omega
              clear hNs hMid hb hq hy hsee hnode hkl
              go_wp2_with fail
              refine HSEE.out.mono ?_
              rintro e w7 ⟨v, rfl, hrow7, hb7⟩
              obtain ⟨va, vc, rfl⟩ := ownsRow_sl hrow7
              have HB7 := Lib.hid hb7
              clear hrow7 hb7
              unfold seeV
              go_wp2
              go_roundw
              case rel =>
                exact ⟨i + 1, M, by omega, by go_num, HN3.out.below (HB7.out.alloc HB7.out.size _), HM3.out.next.mono (by omega), HB3.out.trans ((HB7.out.alloc HB7.out.size _).mono hszz)⟩
              case measure => simp [intOf]; omega
        · have hi : i = n := by omega
          go_wp2
          go_ret
          exact ⟨_, M, rfl, HNI.out.low hsz, by have := HMI.out.mono (C' := 10000) (by omega); rw [hi] at this; rw [HDS.out]; exact this, HB.out.trans (HBI.out.mono hsz)⟩
end Go.Proofs.YtfngdplkcppabaaGreat
namespace Go.Proofs.YtfngdplkcppabaaGreat
open Go.RowKit

theorem decpost_yes {w w' : World} {bs : List UInt8} {e : Ending} {m : M} (h : DecPost w bs e w') (hd : decodeM bs = some m) :
    ∃ a cap, e = .returned (.tuple #[m.agg (.slice a m.ups.length cap), .nilIface]) ∧ KeysAt w' a m.ups ∧ Below w.heap.size w w' := by
  obtain ⟨hb, ⟨h, _⟩ | ⟨h, v, he, hrow⟩⟩ := h
  · rw [hd] at h; cases h
  · rw [hd] at h
    cases h
    obtain ⟨a, cap, rfl⟩ := ownsRow_sl hrow
    exact ⟨a, cap, he, (keysAt_row hrow).2, hb⟩
set_option maxRecDepth 100000 in
set_option maxHeartbeats 4000000 in
theorem refutes_any (c : Int) (hc : -9223372036854775808 ≤ c ∧ c ≤ 9223372036854775807) (inc st : Int) (hi : -9223372036854775808 ≤ inc ∧ inc ≤ 9223372036854775807) (hs : -9223372036854775808 ≤ st ∧ st ≤ 9223372036854775807)
    (ds : List Int) (hfit : ∀ v ∈ ds, fitsI v) (da : Option Addr) (dn dc : Nat) (w : World) (hdn : ds.length = dn) (hl : dn ≤ 9223372036854775807) (hd : CellsAt w da (ds.map (Value.int .i64))) :
    Calls Tryz.prog 3 #[.int .i64 c, .slice da dn dc, .int .i64 inc, .int .i64 st] w fun e w' => e = .returned (.bool true) ∧ Below w.heap.size w w' := by
  have hmade := made_any 2 (by omega) c hc ds hfit da dn dc w hdn hl hd
  have p1 := pickI_bd inc 1073741823 (by omega)
  have p2 := pickI_bd st 2 (by omega)
  obtain ⟨n, hn⟩ : ∃ n, 1 + pickI inc 1073741823 = n := ⟨_, rfl⟩
  obtain ⟨k, hk⟩ : ∃ k, 2 + pickI st 2 = k := ⟨_, rfl⟩
  have wn : IntKind.i64.wrap (1 + pickI inc 1073741823) = n := by rw [hn]; exact IntWalk.i64_in _ (by omega)
  have wk : IntKind.i64.wrap (2 + pickI st 2) = k := by rw [hk]; exact IntWalk.i64_in _ (by omega)
  have hn1 : 1 ≤ n ∧ n < 1073741824 := by omega
  have hk1 : k = 2 ∨ k = 3 := by omega
  have HM := Lib.hid hmade
  clear hmade hd hdn hfit hn hk
  go_enter Tryz.func3, Tryz.ntmps3
  go_wp2_with (first
    | (go_at_call 8; refine HM.out.mono ?_; rintro e w1 ⟨v, l, rfl, hNs, hMid, hb1⟩
       have hll : l.length = 2 := by rw [← hMid.len, List.length_map]
       obtain ⟨g, cp, rfl⟩ := hNs.sl (by omega)
       rw [hll]
       obtain ⟨q, hq⟩ : ∃ q, l[0]? = some q := ⟨l[0], List.getElem?_eq_getElem _⟩
       have cq := hNs.cell hq
       have HNS := Lib.hid hNs
       have HMID := Lib.hid hMid
       have HB1 := Lib.hid hb1
       have HQ := Lib.hid hq
       clear hNs hMid hb1 hq)
    | (go_at_call 9; refine (pick_any _ _ _ (by omega) (by omega) (by omega)).mono ?_; rintro e w2 ⟨rfl, rfl⟩))
  obtain ⟨w2, hw2⟩ : ∃ w2, ((w1.alloc (.cells #[.int .i64 1, .int .i64 2, .int .i64 1, .int .i64 77, .int .i64 1, .slice (some ⟨w1.heap.size + 1, 0, none⟩) 1 1] 29)).alloc (.cells #[.int .i64 1, .int .i64 n, .int .i64 k] 31)) = w2 := ⟨_, rfl⟩
  rw [hw2]
  have hb2 : Below w1.heap.size w1 w2 := by rw [← hw2]; exact ((Below.refl _ _).alloc (Nat.le_refl _) _).alloc (by simp) _
  have hx2 : w2.heap[w1.heap.size + 1]? = some (.cells #[.int .i64 1, .int .i64 n, .int .i64 k] 31 (0, 0)) := by rw [← hw2]; exact heap_new _ _ (by simp)
  have hkeys : KeysAt w2 (some ⟨w1.heap.size + 1, 0, none⟩) [⟨1, n, k⟩] := by
    intro j u hu
    rcases j with _ | j
    · simp only [List.getElem?_cons_zero, Option.some.injEq] at hu
      subst hu
      exact ⟨_, _, rfl, heap_lt hx2, by rw [cells_at hx2]; rfl, by rw [cells_at hx2]; rfl, by rw [cells_at hx2]; rfl⟩
    · simp at hu
  have hwh : wholeB ⟨1, 2, 1, 77, 1, [⟨1, n, k⟩]⟩ = true := whole_of (.inl ⟨.inl rfl, by show (1 : Int) ≤ 1 ∧ (1 : Int) ≤ 250; omega, by simp⟩) (by show (1 : Int) ≤ 2 ∧ (2 : Int) ≤ 250; omega) (by show (1 : Int) ≤ 1 ∧ (1 : Int) ≤ 1073741824; omega) (by show (0 : Int) ≤ 77 ∧ (77 : Int) ≤ 4294967295; omega) (fun u hu => by
    simp only [List.mem_cons, List.not_mem_nil, or_false] at hu
    subst hu
    exact ⟨by show (1 : Int) ≤ 1 ∧ (1 : Int) ≤ 250; omega, by show 1 ≤ n ∧ n ≤ 1073741824; omega, by show 1 ≤ k ∧ k ≤ 4; omega⟩)
  have hmid := HMID.out
  have hkn : Known 2 1 q.x := fun j h1 h2 h3 => by
    have := hmid.kn 0 (j - 1).toNat q.x (x_at HQ.out) (by omega) (by omega) (.inl (by omega))
    rw [show ((j - 1).toNat : Int) + 1 = j by omega] at this; exact this
  obtain ⟨hy, _, _, hbd⟩ := hmid.young 0 q.x (x_at HQ.out)
  obtain ⟨a, y, hr, hwa, hak, has, hai, hys, hmem⟩ := refutes_plain (show Young 2 1 q.x from hy) hkn hn1 hk1
  have hgood := good_receive hy.calm.ok hbd (by omega) (some ⟨1, 2, 1, 77, 1, [⟨1, n, k⟩]⟩) (fun m' hm' => by cases hm'; exact mok_of hwh)
  rw [hr] at hgood
  have HW2 := Lib.hid hw2
  have HB2 := Lib.hid hb2
  have HY := Lib.hid hy
  have HBD := Lib.hid hbd
  have HR := Lib.hid hr
  have HWA := Lib.hid hwa
  have HYS := Lib.hid hys
  have HMEM := Lib.hid hmem
  have HGOOD := Lib.hid hgood
  have HWH := Lib.hid hwh
  have hsz2 := hb2.size
  clear hw2 hb2 hx2 hmid hkn hy hbd hr hwa hys hmem hgood hwh
  refine (encode_yes ⟨1, 2, 1, 77, 1, [⟨1, n, k⟩]⟩ (some ⟨w1.heap.size + 1, 0, none⟩) 1 1 w2 rfl hkeys HWH.out).mono ?_
  clear hkeys
  rintro e w3 ⟨rfl, hb3⟩
  have hN3 := (HNS.out.below HB2.out).below hb3
  have cb3 := hN3.box HQ.out
  obtain ⟨ov3, hn3⟩ := hN3.nodeOf HQ.out
  have HN3 := Lib.hid hN3
  have HNO3 := Lib.hid hn3
  have HB3 := Lib.hid hb3
  have hsz3 := hb3.size
  have hsz1 := HB1.out.size
  clear hN3 hn3 hb3
  go_wp2_with fail
  refine (receive_any HY.out.calm.ok HBD.out (by omega) q.a ov3 _ HNO3.out (strOfNums (msgBytes ⟨1, 2, 1, 77, 1, [⟨1, n, k⟩]⟩)) (by have := bytes_size HWH.out; unfold maxLen; omega) (fun m' hm' => by rw [decode_bytes HWH.out] at hm'; cases hm'; exact mok_of HWH.out)).mono ?_
  rintro e w4 ⟨v, rfl, hG⟩
  rw [decode_bytes HWH.out, HR.out] at hG
  obtain ⟨a4, hN4, hO4, hB4, hT4⟩ := HN3.out.gives (by omega) HQ.out hG
  obtain ⟨g4, c4, rfl, hg4, o40, o41⟩ := out_one hO4
  have hq4 : (l.set 0 ⟨q.g, a4, y⟩)[0]? = some ⟨q.g, a4, y⟩ := by rw [List.getElem?_set_self (by omega)]
  have HN4 := Lib.hid hN4
  have HB4 := Lib.hid hB4
  have HQ4 := Lib.hid hq4
  have hsz4 : w3.heap.size ≤ w4.heap.size := hT4.chg.size
  clear hG hN4 hO4 hB4 hT4 hq4
  go_wp2_with fail
  refine (decode_any (strOfNums (msgBytes a)) w4 (by have := bytes_size HWA.out; unfold maxLen; omega)).mono ?_
  intro e w5 hdec
  obtain ⟨ka, kc, rfl, hk5, hb5⟩ := decpost_yes hdec (decode_bytes HWA.out)
  have hN5 := HN4.out.below hb5
  have cb5 : ∀ o, (w5.alloc o).cell? ⟨q.g, 0, none⟩ = some (.pointer (some ⟨a4.b, 0, none⟩)) := fun o => (hN5.below ((Below.refl _ _).alloc (Nat.le_refl _) o)).box HQ4.out
  obtain ⟨ov5, hn5⟩ := hN5.nodeOf HQ4.out
  have HN5 := Lib.hid hN5
  have HNO5 := Lib.hid hn5
  have HB5 := Lib.hid hb5
  have HK5 := Lib.hid hk5
  have hsz5 := hb5.size
  clear hdec hN5 hn5 hb5 hk5
  unfold M.agg
  rw [hak, has, hai]
  go_wp2_with fail
  refine (see_any HGOOD.out.ok a4 ov5 _ (HNO5.out.below ((Below.refl _ _).alloc (Nat.le_refl _) _))).mono ?_
  rintro e w7 ⟨sv, rfl, hrow7, hb7⟩
  obtain ⟨va, vc, rfl⟩ := ownsRow_sl hrow7
  have hx7 : w7.heap[w5.heap.size]? = some (.cells #[.int .i64 2, .int .i64 a.frm, .int .i64 (n + 1), .int .i64 77, .int .i64 a.tgt, .slice ka a.ups.length kc] 29 (0, 0)) := (hb7.block _ (by simp)).trans (heap_alloc_eq w5 _)
  have hk7 : KeysAt w7 ka a.ups := (HK5.out.below ((Below.refl _ _).alloc (Nat.le_refl _) _)).below hb7
  have hbb7 : Below w5.heap.size w5 w7 := ((Below.refl _ _).alloc (Nat.le_refl _) _).trans (hb7.mono (by simp))
  have hx7c := cells_at hx7
  have HX7 := Lib.hid hx7
  have HK7 := Lib.hid hk7
  have HB7 := Lib.hid hbb7
  have hsz7 := hbb7.size
  have hlt7 := heap_lt hx7
  clear hrow7 hb7 hx7 hk7 hbb7
  unfold seeV
  rw [HYS.out]
  simp only
  have wn1 : IntKind.i64.wrap (n + 1) = n + 1 := IntWalk.i64_in _ (by omega)
  obtain ⟨idx, hidx⟩ := List.mem_iff_getElem?.1 HMEM.out
  have hil : idx < a.ups.length := (List.getElem?_eq_some_iff.1 hidx).1
  have hul : a.ups.length ≤ 8 := (mok_of HWA.out).len
  have HIDX := Lib.hid hidx
  clear hidx
  go_wp2_with fail
  go_loopw [20] (fun s20 wr => ∃ (i : Nat), i ≤ idx ∧ s20 = .int .i64 (i : Nat) ∧ Below w7.heap.size w7 wr) (fun s20 _ => 10 - (intOf s20).toNat)
  case atStart => exact ⟨0, Nat.zero_le _, rfl, (Below.refl _ _).alloc (Nat.le_refl _) _⟩
  case round =>
    obtain ⟨i, hii, rfl, hbr⟩ := hrel
    have hxr := (hbr.block _ hlt7).trans HX7.out
    have hxc := cells_at hxr
    have hiu : i < a.ups.length := by omega
    obtain ⟨u, hu⟩ : ∃ u, a.ups[i]? = some u := ⟨a.ups[i], List.getElem?_eq_getElem hiu⟩
    obtain ⟨b, off, rfl, hlt, c0, c1, c2⟩ := HK7.out i u hu
    rw [← hbr.cell hlt] at c0 c1 c2
    have HBR := Lib.hid hbr
    have HU := Lib.hid hu
    clear hxr hbr hu
    by_cases hu3 : u.id = 1 ∧ u.inc = n + 1 ∧ u.st = 1
    · obtain ⟨u1, u2, u3⟩ := hu3
      rw [u1] at c0
      rw [u2] at c1
      rw [u3] at c2
      clear u1 u2 u3
      go_wp2
      go_ret
      refine ⟨rfl, ?_⟩
      exact ((HB1.out.trans (HB2.out.mono hsz1)).trans ((HB3.out.mono (by omega)).trans (HB4.out.mono (by omega)))).trans (((HB5.out.mono (by omega)).trans (HB7.out.mono (by omega))).trans (HBR.out.mono (by omega)))
    · have hcmp : (u.id == 1 && (u.inc == n + 1 && u.st == 1)) = false := by
        simp only [Bool.and_eq_false_iff, beq_eq_false_iff_ne, ne_eq]
        omega
      have hne : i ≠ idx := fun e => by
        subst e
        have := HIDX.out.symm.trans HU.out
        simp only [Option.some.injEq] at this
        exact hu3 (by rw [← this]; exact ⟨rfl, rfl, rfl⟩)
      have HU3 := Lib.hid hu3
      clear hu3
      go_wp2
      all_goals
        first
        | exact ⟨⟨i + 1, by omega, by go_num, HBR.out⟩, by simp [intOf]; omega⟩
        | exact absurd ⟨‹u.id = 1›, ‹u.inc = n + 1›, ‹u.st = 1›⟩ HU3.out
end Go.Proofs.YtfngdplkcppabaaGreat
