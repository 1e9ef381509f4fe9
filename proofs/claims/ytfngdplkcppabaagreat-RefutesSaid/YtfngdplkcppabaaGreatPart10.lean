/-
  node.hear: a member that is known is heard of anew. (Printed by hearm.py.)
  node.hear: a member that is known is heard of anew. (Printed by hearm.py.)
  node.hear, whole. (Printed by hearm.py.)
-/
import Derived.Test.YtfngdplkcppabaaGreatPart09
import Derived.Deep.Cut
set_option linter.all false
namespace Go.Proofs.YtfngdplkcppabaaGreat
open Go.RowKit

set_option maxRecDepth 100000 in
set_option maxHeartbeats 4000000 in
theorem hear_gone {x : Nd} (ho : Ok x) {B : Int} (hb : Bd B x) (hB : B ≤ 1000000000000) (a : Ad) (ov : Value) (k : K) (hk : keyOk k) (w : World) (h : NodeAt w a ov x) (hid : (k.id == x.self.id) = false)
    (m : Mem) (hf : findM x.others k.id = some m) (hl : lessK m.k k = true) (hst : decide (k.st ≤ 2) = false) :
    Calls Tryz.prog 24 #[.pointer (some ⟨a.b, 0, none⟩), .agg #[.int .i64 k.id, .int .i64 k.inc, .int .i64 k.st]] w fun e w' =>
      e = .returned (.tuple #[]) ∧ ∃ a', Turned ov w a x w' a' (x.taken k) := by
  obtain ⟨hm, hme⟩ := findM_some hf
  have hmem := h.mems m hm
  rw [hme] at hmem
  have hin : k.id ∈ ids x.others := mem_ids.2 ⟨m, hm, hme⟩
  have m0 := cells_at hmem 0
  have m1 := cells_at hmem 1
  have m2 := cells_at hmem 2
  simp only [memCells, List.getElem?_toArray, List.getElem?_cons_succ, List.getElem?_cons_zero] at m0 m1 m2
  obtain ⟨kid, kinc, kst⟩ := k
  obtain ⟨⟨mid, minc, mst⟩, mdue⟩ := m
  simp only at hid hf hl m0 m1 m2 hst hmem hin ⊢
  obtain ⟨o, hoe⟩ : ∃ o, (Obj.cells #[.int .i64 kid, .int .i64 kinc, .int .i64 kst] 31) = o := ⟨_, rfl⟩
  obtain ⟨w1, hw1⟩ : ∃ w1, w.alloc o = w1 := ⟨_, rfl⟩
  have T := Lib.hid (fun n => Turned.drewN (Turned.alloc h o) n)
  rw [hw1] at T
  have hx1 : w1.heap[w.heap.size]? = some o := by rw [← hw1]; exact heap_alloc_eq w _
  rw [← hoe] at hx1
  have d0 := cells_at hx1 0
  have d1 := cells_at hx1 1
  have d2 := cells_at hx1 2
  simp only [List.getElem?_toArray, List.getElem?_cons_succ, List.getElem?_cons_zero] at d0 d1 d2
  have c7 : w1.cell? ⟨a.b, 7, none⟩ = some (.int .i64 x.self.id) := (T.out 0).node.blk.cell (by omega)
  have c10 : w1.cell? ⟨a.b, 10, none⟩ = some (.map (some a.bo)) := (T.out 0).node.blk.cell (by omega)
  have HX1 := Lib.hid hx1
  have HW1 := Lib.hid hw1
  have HOE := Lib.hid hoe
  have HO := Lib.hid ho
  have HB := Lib.hid hb
  have HK := Lib.hid hk
  have hbB := h.blk.lt
  have wd : IntKind.i64.wrap (x.clock + x.c.susp) = x.clock + x.c.susp := IntWalk.i64_in _ (by have := hb.clock; have h2 := ho.cfg; simp only [cfgB, withinB, Bool.and_eq_true, decide_eq_true_eq] at h2; omega)
  have hlt := heap_lt hmem
  have e1 : w1.heap[a.mem kid]? = w.heap[a.mem kid]? := by rw [← hw1]; exact Below.heap_alloc _ _ _ hlt
  have n0 : w1.cell? ⟨a.mem kid, 0, none⟩ = some (.int .i64 mid) := by rw [← hw1, World.cell?_alloc_lt _ _ _ hlt]; exact m0
  have n1 : w1.cell? ⟨a.mem kid, 1, none⟩ = some (.int .i64 minc) := by rw [← hw1, World.cell?_alloc_lt _ _ _ hlt]; exact m1
  have n2 : w1.cell? ⟨a.mem kid, 2, none⟩ = some (.int .i64 mst) := by rw [← hw1, World.cell?_alloc_lt _ _ _ hlt]; exact m2
  have hlk : ∀ n, (Instr.lookup 71 (.map (some a.bo)) (.int .i64 kid) false).run Tryz.prog (w1.drewN n) = .ok (.pointer (some ⟨a.mem kid, 0, none⟩)) (w1.drewN n) := fun n => (look_other (T.out n).node hk.1).1 _ hf
  have HL := Lib.hid hl
  have hmem1 := Lib.hid (e1.trans hmem)
  have HIN := Lib.hid hin
  clear h hf hl hmem m0 m1 m2 hw1 hoe hx1 hlt hme e1 ho hb hk hin
  go_enter Tryz.func24, Tryz.ntmps24
  go_wp2
  rw [HOE.out, HW1.out]
  go_quiet (fail)
  go_wp2
  go_quiet (fail)
  go_wp2
  (refine wp_tail 5 (by kernel_rfl) (by kernel_rfl) ?_; simp only [List.take_succ_cons, List.take_zero, List.drop_succ_cons, List.drop_zero])
  iterate 5 still_step
  refine wpStill_nil ?_
  go_wp2_with (go_at_call 42; refine (less_any ⟨mid, minc, mst⟩ ⟨kid, kinc, kst⟩ _).mono ?_; rintro e w2 ⟨rfl, hb2⟩; rw [HL.out]; have hT2 := Lib.hid (Turned.trans (T.out _) (.below (T.out _).node hb2)); have HBK := Lib.hid hT2.out.node.blk; have HX2 := Lib.hid ((hb2.block _ (heap_lt HX1.out)).trans HX1.out); have HM2 := Lib.hid ((hb2.block _ (heap_lt hmem1.out)).trans hmem1.out); clear hb2)
  have g0 := cells_at HX2.out 0
  have g1 := cells_at HX2.out 1
  have g2 := cells_at HX2.out 2
  simp only [List.getElem?_toArray, List.getElem?_cons_succ, List.getElem?_cons_zero] at g0 g1 g2
  have c13 : w2.cell? ⟨a.b, 13, none⟩ = some (.int .i64 x.clock) := HBK.out.cell (by omega)
  have c3 : w2.cell? ⟨a.b, 3, none⟩ = some (.int .i64 x.c.susp) := HBK.out.cell (by omega)
  have fm : ∀ i, w2.frozen? ⟨a.mem kid, i, none⟩ = false := fun i => unfrozen HM2.out i
  clear d0 c10 d1 d2 c7 hlk n0 n1 n2
  have q0 := cells_at HM2.out 0
  have q1 := cells_at HM2.out 1
  have q2 := cells_at HM2.out 2
  have q3 := cells_at HM2.out 3
  simp only [memCells, List.getElem?_toArray, List.getElem?_cons_succ, List.getElem?_cons_zero] at q0 q1 q2 q3
  (refine wp_tail 14 (by kernel_rfl) (by kernel_rfl) ?_; simp only [List.take_succ_cons, List.take_zero, List.drop_succ_cons, List.drop_zero])
  iterate 14 still_step
  refine wpStill_nil ?_
  go_upto_region 10 with (fail)
  obtain ⟨w3, hw3⟩ : ∃ w3, ((((w2.setCell ⟨a.mem kid, 0, none⟩ (.int .i64 kid)).setCell ⟨a.mem kid, 1, none⟩ (.int .i64 kinc)).setCell ⟨a.mem kid, 2, none⟩ (.int .i64 kst)).setCell ⟨a.mem kid, 3, none⟩ (.int .i64 (x.clock + x.c.susp))).drew = w3 := ⟨_, rfl⟩
  rw [hw3]
  obtain ⟨hS3, hC3⟩ := four_set HM2.out (.int .i64 kid) (.int .i64 kinc) (.int .i64 kst) (.int .i64 (x.clock + x.c.susp))
  have hC3 := hC3.drew
  have hS3 : (((((w2.setCell ⟨a.mem kid, 0, none⟩ (.int .i64 kid)).setCell ⟨a.mem kid, 1, none⟩ (.int .i64 kinc)).setCell ⟨a.mem kid, 2, none⟩ (.int .i64 kst)).setCell ⟨a.mem kid, 3, none⟩ (.int .i64 (x.clock + x.c.susp))).drew).heap[a.mem kid]? = some (.cells (memCells ⟨⟨kid, kinc, kst⟩, x.clock + x.c.susp⟩) 93 (0, 0)) := hS3
  rw [hw3] at hC3 hS3
  clear hw3 g0 g1 g2 c13 c3 fm q0 q1 q2 q3
  obtain ⟨mm, hmm⟩ : ∃ mm : Mem, (⟨⟨kid, kinc, kst⟩, x.clock + x.c.susp⟩ : Mem) = mm := ⟨_, rfl⟩
  have hmid : mm.k.id = kid := by rw [← hmm]
  rw [hmm] at hS3
  have hmap : MapAt Tryz.prog 3 w3 a.bo (mPairs (a.atMem mm.k.id (a.mem kid)) (putM mm x.others)) := by
    have e1 : mPairs (a.atMem mm.k.id (a.mem kid)) (putM mm x.others) = mPairs a x.others := by
      rw [mPairs_ids, mPairs_ids, ids_putM_in HO.out.rise (by rw [hmid]; exact HIN.out)]
      refine List.map_congr_left (fun i _ => ?_)
      simp only [Ad.atMem, hmid]
      by_cases hi : i = kid
      · rw [if_pos hi, hi]
      · rw [if_neg hi]
    rw [e1]
    obtain ⟨es, n, hbo⟩ := hT2.out.node.others.isMap
    exact hT2.out.node.others.heap ((hC3.kept _ _ hbo (fun e => by rw [e, HM2.out] at hbo; cases hbo)).trans hbo.symm)
  have hN3 : NodeAt w3 (a.atMem mm.k.id (a.mem kid)) ov { x with others := putM mm x.others } :=
    hT2.out.node.setMem HO.out.rise mm (a.mem kid) (.inl ⟨by rw [hmid]; exact HIN.out, by rw [hmid]⟩) (apart_of_chg (hC3.mono (fun j _ _ hj => .inr hj))) hS3 hmap
  have hT3 : Turned ov w a x w3 (a.atMem mm.k.id (a.mem kid)) { x with others := putM mm x.others } := by
    obtain ⟨m1, hm1, he1⟩ := mem_ids.1 HIN.out
    have hown : Owns a x (a.mem kid) := .inr (.inr (.inr (.inr (.inr (.inr (.inl ⟨m1, hm1, by rw [he1]⟩))))))
    refine hT2.out.trans ⟨hN3, hC3.mono (fun j _ _ hj => by have hj : j = a.mem kid := hj; rw [hj]; exact hown), fun k hk => ?_, rfl⟩
    rcases Owns.mem_of hk with h | rfl
    · exact .inl h
    · exact .inl hown
  have h2 := cells_at hS3 2
  simp only [memCells, List.getElem?_toArray, List.getElem?_cons_succ, List.getElem?_cons_zero, ← hmm] at h2
  have hX3 := hC3.kept _ _ HX2.out (fun e => by have h1 := hT2.out.node.mems; have h2 := HX2.out; rw [e, HM2.out] at h2; exact absurd h2 (by simp))
  clear hmap hC3 hS3
  have HT3 := Lib.hid hT3
  have HN3 := Lib.hid hN3
  have HX3 := Lib.hid hX3
  have HMM := Lib.hid hmm
  have g0 := cells_at hX3 0
  have g1 := cells_at hX3 1
  have g2 := cells_at hX3 2
  simp only [List.getElem?_toArray, List.getElem?_cons_succ, List.getElem?_cons_zero] at g0 g1 g2
  have hql : x.queue.length < 1000000 := by have := HO.out.qlen; omega
  have hkf : fitsI kid := by have := HK.out.1; simp only at this; unfold fitsI; omega
  have hlo : -9223372036854775808 ≤ x.lost ∧ x.lost < 9223372036854775807 := by have := HB.out.lost; omega
  have hev := HO.out.evs
  have HQ := Lib.hid hql
  have HF := Lib.hid hkf
  have HLO := Lib.hid hlo
  have HE := Lib.hid hev
  clear hT3 hN3 hX3 hmm hmid hql hkf hlo hev
  have hN := HN3.out
  have c15 : w3.cell? ⟨a.b, 15, none⟩ = some (.slice a.pa x.pass.length a.pc) := hN.blk.cell (by omega)
  obtain ⟨L, hL⟩ : ∃ L, x.pass.filter (fun n => n != kid) = L := ⟨_, rfl⟩
  have hdel := delPass_any kid w.heap.size a.pa a.pc x.pass w3 hN.pass hN.pass0 (by have := HO.out.pnd; omega) (heap_lt HX3.out) g0 (fun k hk => by
    obtain ⟨cur, hg⟩ := hN.pass.blk hk
    intro e
    rw [← e, HX3.out] at hg
    simp at hg)
  have hLe : L.length ≤ x.pass.length := by rw [← hL]; exact List.length_filter_le _ _
  have hL0 : a.pa = none → L = [] ∧ a.pc = 0 := fun e => by
    obtain ⟨e1, e2⟩ := hN.pass0 e
    simp only at e1
    refine ⟨?_, e2⟩
    rw [← hL, e1]; rfl
  rw [hL] at hdel
  have HDEL := Lib.hid hdel
  have HLL := Lib.hid hL
  have HL0 := Lib.hid hL0
  clear hN hdel hL hL0 hLe
  go_wp2_with (first
    | (go_at_call 43; refine (here_any _ kst _ h2).mono ?_; rintro e w4 ⟨rfl, rfl⟩; rw [hst])
    | (go_at_call 44; refine HDEL.out.mono ?_; rintro e w4 ⟨rfl, hp4, hc4⟩;
       have HT5 := Lib.hid (HT3.out.trans (HN3.out.cutPass hp4 hc4 HL0.out));
       have f15 : w4.frozen? ⟨a.b, 15, none⟩ = false := (HN3.out.cut_blk hc4).free 15;
       have s15 : w4.cell? ⟨a.b, 15, none⟩ = some (.slice a.pa x.pass.length a.pc) := (HN3.out.cut_blk hc4).cell (by omega);
       have hX4 := hc4.kept _ _ HX3.out (fun hk => by (obtain ⟨cur, hg⟩ := HN3.out.pass.blk hk; exact absurd (hg.symm.trans HX3.out) (by simp)));
       have x0 := cells_at hX4 0; have x1 := cells_at hX4 1; have x2 := cells_at hX4 2;
       simp only [List.getElem?_toArray, List.getElem?_cons_succ, List.getElem?_cons_zero] at x0 x1 x2;
       clear hp4 hc4 hX4)
    | (go_at_call 46; refine (changed_any _ ov _ ⟨kid, kinc, kst⟩ _ HT5.out.node HQ.out HF.out HLO.out HE.out).mono ?_; rintro e w6 ⟨rfl, hT6⟩))
  ((try simp only [Exit.inBlock, Exit.then]); first | refine bodyPost_ret (results_none rfl _ _ _) rfl ?_ | refine bodyPost_end (results_none rfl _ _ _) rfl ?_)
  have e : x.taken ⟨kid, kinc, kst⟩ = ({ x with others := putM mm x.others, pass := L } : Nd).changed ⟨kid, kinc, kst⟩ := by
    rw [← HMM.out, ← HLL.out]; simp only [decide_eq_false_iff_not] at hst; simp only [Nd.taken, if_neg hst]
  rw [e]
  exact ⟨rfl, _, HT5.out.trans hT6⟩
end Go.Proofs.YtfngdplkcppabaaGreat
namespace Go.Proofs.YtfngdplkcppabaaGreat
open Go.RowKit

set_option maxRecDepth 100000 in
set_option maxHeartbeats 4000000 in
theorem hear_new {x : Nd} (ho : Ok x) {B : Int} (hb : Bd B x) (hB : B ≤ 1000000000000) (a : Ad) (ov : Value) (k : K) (hk : keyOk k) (w : World) (h : NodeAt w a ov x) (hid : (k.id == x.self.id) = false)
    (hf : findM x.others k.id = none) (hl : x.others.length ≠ 7) (hst : decide (k.st ≤ 2) = true) :
    Calls Tryz.prog 24 #[.pointer (some ⟨a.b, 0, none⟩), .agg #[.int .i64 k.id, .int .i64 k.inc, .int .i64 k.st]] w fun e w' =>
      e = .returned (.tuple #[]) ∧ ∃ a', Turned ov w a x w' a' (x.taken k) := by
  obtain ⟨kid, kinc, kst⟩ := k
  simp only at hid hf hst ⊢
  have hl7 : ((x.others.length : Int) == 7) = false := by
    have := ho.len
    rw [beq_eq_false_iff_ne]; omega
  obtain ⟨o, hoe⟩ : ∃ o, (Obj.cells #[.int .i64 kid, .int .i64 kinc, .int .i64 kst] 31) = o := ⟨_, rfl⟩
  obtain ⟨w1, hw1⟩ : ∃ w1, w.alloc o = w1 := ⟨_, rfl⟩
  have T := Lib.hid (fun n => Turned.drewN (Turned.alloc h o) n)
  rw [hw1] at T
  have hx1 : w1.heap[w.heap.size]? = some o := by rw [← hw1]; exact heap_alloc_eq w _
  rw [← hoe] at hx1
  have d0 := cells_at hx1 0
  have d1 := cells_at hx1 1
  have d2 := cells_at hx1 2
  simp only [List.getElem?_toArray, List.getElem?_cons_succ, List.getElem?_cons_zero] at d0 d1 d2
  have c7 : w1.cell? ⟨a.b, 7, none⟩ = some (.int .i64 x.self.id) := (T.out 0).node.blk.cell (by omega)
  have c10 : w1.cell? ⟨a.b, 10, none⟩ = some (.map (some a.bo)) := (T.out 0).node.blk.cell (by omega)
  have HX1 := Lib.hid hx1
  have HW1 := Lib.hid hw1
  have HOE := Lib.hid hoe
  have HO := Lib.hid ho
  have HB := Lib.hid hb
  have HK := Lib.hid hk
  have hbB := h.blk.lt
  have wd : IntKind.i64.wrap (x.clock + x.c.susp) = x.clock + x.c.susp := IntWalk.i64_in _ (by have := hb.clock; have h2 := ho.cfg; simp only [cfgB, withinB, Bool.and_eq_true, decide_eq_true_eq] at h2; omega)
  have hlk : ∀ n, (Instr.lookup 71 (.map (some a.bo)) (.int .i64 kid) false).run Tryz.prog (w1.drewN n) = .ok (.pointer none) (w1.drewN n) := fun n => (look_other (T.out n).node hk.1).2 hf
  have hln : ∀ n ty, (Builtin.len_ #[71] ty #[.map (some a.bo)]).run Tryz.prog (w1.drewN n) = .ok (.int .i64 (x.others.length : Nat)) (w1.drewN n) := fun n ty => len_other (T.out n).node ty
  have HF := Lib.hid hf
  have HL7 := Lib.hid hl7
  clear h hf hw1 hoe hx1 ho hb hk hl
  go_enter Tryz.func24, Tryz.ntmps24
  go_wp2
  rw [HOE.out, HW1.out]
  go_quiet (fail)
  obtain ⟨n1, hn1⟩ : ∃ n, n = nq := ⟨_, rfl⟩
  subst hn1
  go_wp2
  go_quiet (fail)
  obtain ⟨n2, hn2⟩ : ∃ n, n = nq := ⟨_, rfl⟩
  subst hn2
  go_wp2
  skip
  obtain ⟨wa, hwa⟩ : ∃ wa, w1.drewN (n1 + n2) = wa := ⟨_, rfl⟩
  obtain ⟨nb, hnb⟩ : ∃ nb, w1.heap.size = nb := ⟨_, rfl⟩
  rw [hwa, hnb]
  have hTa := T.out (n1 + n2)
  rw [hwa] at hTa
  have hsa : wa.heap.size = nb := by rw [← hwa]; exact hnb
  have hxa := HX1.out
  have hxa : wa.heap[w.heap.size]? = some (.cells #[.int .i64 kid, .int .i64 kinc, .int .i64 kst] 31 (0, 0)) := by rw [← hwa]; exact hxa
  obtain ⟨wz, hwz⟩ : ∃ wz, wa.alloc (.cells #[.int .i64 0, .int .i64 0, .int .i64 0, .int .i64 0] 93) = wz := ⟨_, rfl⟩
  rw [hwz]
  have hTz := Turned.alloc hTa.node (.cells #[.int .i64 0, .int .i64 0, .int .i64 0, .int .i64 0] 93)
  have hmz := heap_new wa (.cells #[.int .i64 0, .int .i64 0, .int .i64 0, .int .i64 0] 93) hsa.symm
  have hxz := heap_old (.cells #[.int .i64 0, .int .i64 0, .int .i64 0, .int .i64 0] 93) hxa
  rw [hwz] at hTz hmz hxz
  clear d0 d1 d2 c7 c10 hlk hln hwa
  have d0 := cells_at hxz 0
  simp only [List.getElem?_toArray, List.getElem?_cons_zero] at d0
  have c10 : wz.cell? ⟨a.b, 10, none⟩ = some (.map (some a.bo)) := hTz.node.blk.cell (by omega)
  obtain ⟨w2, hr, hm2, hg2, hs2⟩ := MapAt.store (w := wz.drew) Tryz.underlying3 Tryz.underlying71 hTz.node.others (by have := HO.out.len; simp only [mPairs, List.length_map]; omega) kid (wf_id HK.out.1) (.pointer (some ⟨nb, 0, none⟩))
  have hgr : Chg (fun j _ => j = a.bo) wz w2 := ((Chg.refl _ wz).drew).grown hg2 (fun k o e _ => by cases e; rfl)
  obtain ⟨es, cn, hbo⟩ := hTz.node.others.isMap
  obtain ⟨cs, hbk⟩ := hTz.node.blk.block
  have HTA := Lib.hid hTa
  have HSA := Lib.hid hsa
  have HGR : Hid (Chg (fun j _ => j = a.bo) wa w2) := Lib.hid (((Chg.refl _ wa).alloc _).trans (by rw [hwz]; exact hgr))
  have HMP := Lib.hid hm2
  have HBO := Lib.hid hbo
  have HMZ := Lib.hid hmz
  have HBK : Hid (NB w2 a.b (nodeF a ov x)) := Lib.hid (hTz.node.blk.chg hgr (fun cs2 e => by rw [e, hbo] at hbk; cases hbk))
  have HX2 := Lib.hid (hgr.kept _ _ hxz (fun e => by rw [e, hbo] at hxz; cases hxz))
  have HM2 := Lib.hid (hgr.kept _ _ hmz (fun e => by rw [e, hbo] at hmz; cases hmz))
  clear hTa hsa hxa hwz hTz hmz hxz hm2 hg2 hs2 hgr hbo hbk hnb
  (refine wp_tail 7 (by kernel_rfl) (by kernel_rfl) ?_; simp only [List.take_succ_cons, List.take_zero, List.drop_succ_cons, List.drop_zero])
  iterate 7 still_step
  refine wpStill_nil ?_
  go_wp2
  have g0 := cells_at HX2.out 0
  have g1 := cells_at HX2.out 1
  have g2 := cells_at HX2.out 2
  simp only [List.getElem?_toArray, List.getElem?_cons_succ, List.getElem?_cons_zero] at g0 g1 g2
  have c13 : w2.cell? ⟨a.b, 13, none⟩ = some (.int .i64 x.clock) := HBK.out.cell (by omega)
  have c3 : w2.cell? ⟨a.b, 3, none⟩ = some (.int .i64 x.c.susp) := HBK.out.cell (by omega)
  have fm : ∀ i, w2.frozen? ⟨nb, i, none⟩ = false := fun i => unfrozen HM2.out i
  clear d0 c10 hr
  have q0 := cells_at HM2.out 0
  have q1 := cells_at HM2.out 1
  have q2 := cells_at HM2.out 2
  have q3 := cells_at HM2.out 3
  simp only [List.getElem?_toArray, List.getElem?_cons_succ, List.getElem?_cons_zero] at q0 q1 q2 q3
  (refine wp_tail 14 (by kernel_rfl) (by kernel_rfl) ?_; simp only [List.take_succ_cons, List.take_zero, List.drop_succ_cons, List.drop_zero])
  iterate 14 still_step
  refine wpStill_nil ?_
  go_upto_region 10 with (fail)
  obtain ⟨w3, hw3⟩ : ∃ w3, ((((w2.setCell ⟨nb, 0, none⟩ (.int .i64 kid)).setCell ⟨nb, 1, none⟩ (.int .i64 kinc)).setCell ⟨nb, 2, none⟩ (.int .i64 kst)).setCell ⟨nb, 3, none⟩ (.int .i64 (x.clock + x.c.susp))).drew = w3 := ⟨_, rfl⟩
  rw [hw3]
  obtain ⟨hS3, hC3⟩ := four_set HM2.out (.int .i64 kid) (.int .i64 kinc) (.int .i64 kst) (.int .i64 (x.clock + x.c.susp))
  have hC3 := hC3.drew
  have hS3 : (((((w2.setCell ⟨nb, 0, none⟩ (.int .i64 kid)).setCell ⟨nb, 1, none⟩ (.int .i64 kinc)).setCell ⟨nb, 2, none⟩ (.int .i64 kst)).setCell ⟨nb, 3, none⟩ (.int .i64 (x.clock + x.c.susp))).drew).heap[nb]? = some (.cells (memCells ⟨⟨kid, kinc, kst⟩, x.clock + x.c.susp⟩) 93 (0, 0)) := hS3
  rw [hw3] at hC3 hS3
  clear hw3 g0 g1 g2 c13 c3 fm q0 q1 q2 q3
  obtain ⟨mm, hmm⟩ : ∃ mm : Mem, (⟨⟨kid, kinc, kst⟩, x.clock + x.c.susp⟩ : Mem) = mm := ⟨_, rfl⟩
  have hmid : mm.k.id = kid := by rw [← hmm]
  rw [hmm] at hS3
  have hni := findM_none HF.out
  have hbn : a.bo ≠ nb := fun e => by have := HBO.out; rw [e, HMZ.out] at this; cases this
  have hmap : MapAt Tryz.prog 3 w3 a.bo (mPairs (a.atMem mm.k.id nb) (putM mm x.others)) := by
    have h1 : MapAt Tryz.prog 3 w3 a.bo _ := HMP.out.heap (apart_of_chg hC3 a.bo hbn HMP.out.lt)
    refine h1.perm ?_
    have e1 : (mPairs a x.others).filter (fun p => p.1 != kid) = (ids x.others).map (fun i => (i, .pointer (some ⟨(a.atMem mm.k.id nb).mem i, 0, none⟩))) := by
      rw [List.filter_eq_self.2 (fun p hp => ?_), mPairs_ids]
      · refine List.map_congr_left (fun i hi => ?_)
        simp only [Ad.atMem, hmid]
        rw [if_neg (fun e : i = kid => hni (by rw [← e]; exact hi))]
      · obtain ⟨m1, hm1, rfl⟩ := List.mem_map.1 hp
        simp only [bne_iff_ne, ne_eq]
        exact fun e => hni (mem_ids.2 ⟨m1, hm1, e⟩)
    have e2 : [(kid, Value.pointer (some ⟨nb, 0, none⟩))] = [kid].map (fun i => (i, Value.pointer (some ⟨(a.atMem mm.k.id nb).mem i, 0, none⟩))) := by simp [Ad.atMem, hmid]
    rw [e1, e2, mPairs_ids, ← List.map_append]
    refine List.Perm.map _ ?_
    have := ids_putM_new (m := mm) (l := x.others) (by rw [hmid]; exact hni)
    rwa [hmid] at this
  have hCa : Chg (fun j _ => j = a.bo ∨ j = nb) wa w3 := (HGR.out.mono (fun _ _ _ hj => .inl hj)).trans (hC3.mono (fun _ _ _ hj => .inr hj))
  have hN3 : NodeAt w3 (a.atMem mm.k.id nb) ov { x with others := putM mm x.others } :=
    HTA.out.node.setMem HO.out.rise mm nb (.inr (by have := HSA.out; omega)) (apart_of_chg hCa) hS3 hmap
  have hT3 : Turned ov w a x w3 (a.atMem mm.k.id nb) { x with others := putM mm x.others } := by
    refine HTA.out.trans ⟨hN3, hCa.mono (fun j _ hlt hj => ?_), fun k hk => ?_, rfl⟩
    · rcases hj with rfl | rfl
      · exact .inr (.inl rfl)
      · have := HSA.out; omega
    · rcases Owns.mem_of hk with h | rfl
      · exact .inl h
      · exact .inr (by have := HSA.out; omega)
  have h2 := cells_at hS3 2
  simp only [memCells, List.getElem?_toArray, List.getElem?_cons_succ, List.getElem?_cons_zero, ← hmm] at h2
  have hX3 := hC3.kept _ _ HX2.out (fun e => by have h2 := HX2.out; rw [e, HM2.out] at h2; exact absurd h2 (by simp))
  clear hmap hC3 hS3 hCa hni hbn
  have HT3 := Lib.hid hT3
  have HN3 := Lib.hid hN3
  have HX3 := Lib.hid hX3
  have HMM := Lib.hid hmm
  have g0 := cells_at hX3 0
  have g1 := cells_at hX3 1
  have g2 := cells_at hX3 2
  simp only [List.getElem?_toArray, List.getElem?_cons_succ, List.getElem?_cons_zero] at g0 g1 g2
  have hql : x.queue.length < 1000000 := by have := HO.out.qlen; omega
  have hkf : fitsI kid := by have := HK.out.1; simp only at this; unfold fitsI; omega
  have hlo : -9223372036854775808 ≤ x.lost ∧ x.lost < 9223372036854775807 := by have := HB.out.lost; omega
  have hev := HO.out.evs
  have HQ := Lib.hid hql
  have HF := Lib.hid hkf
  have HLO := Lib.hid hlo
  have HE := Lib.hid hev
  clear hT3 hN3 hX3 hmm hmid hql hkf hlo hev
  go_wp2_with (first | (go_at_call 43; refine (here_any _ kst _ h2).mono ?_; rintro e w4 ⟨rfl, rfl⟩; rw [hst]) | (go_at_call 46; refine (changed_any _ ov _ ⟨kid, kinc, kst⟩ _ HN3.out HQ.out HF.out HLO.out HE.out).mono ?_; rintro e w5 ⟨rfl, hT5⟩))
  ((try simp only [Exit.inBlock, Exit.then]); first | refine bodyPost_ret (results_none rfl _ _ _) rfl ?_ | refine bodyPost_end (results_none rfl _ _ _) rfl ?_)
  have e : x.taken ⟨kid, kinc, kst⟩ = ({ x with others := putM mm x.others } : Nd).changed ⟨kid, kinc, kst⟩ := by
    rw [← HMM.out]; simp only [decide_eq_true_eq] at hst; simp only [Nd.taken, if_pos hst]
  rw [e]
  exact ⟨rfl, _, HT3.out.trans hT5⟩

set_option maxRecDepth 100000 in
set_option maxHeartbeats 4000000 in
theorem hear_newgone {x : Nd} (ho : Ok x) {B : Int} (hb : Bd B x) (hB : B ≤ 1000000000000) (a : Ad) (ov : Value) (k : K) (hk : keyOk k) (w : World) (h : NodeAt w a ov x) (hid : (k.id == x.self.id) = false)
    (hf : findM x.others k.id = none) (hl : x.others.length ≠ 7) (hst : decide (k.st ≤ 2) = false) :
    Calls Tryz.prog 24 #[.pointer (some ⟨a.b, 0, none⟩), .agg #[.int .i64 k.id, .int .i64 k.inc, .int .i64 k.st]] w fun e w' =>
      e = .returned (.tuple #[]) ∧ ∃ a', Turned ov w a x w' a' (x.taken k) := by
  obtain ⟨kid, kinc, kst⟩ := k
  simp only at hid hf hst ⊢
  have hl7 : ((x.others.length : Int) == 7) = false := by
    have := ho.len
    rw [beq_eq_false_iff_ne]; omega
  obtain ⟨o, hoe⟩ : ∃ o, (Obj.cells #[.int .i64 kid, .int .i64 kinc, .int .i64 kst] 31) = o := ⟨_, rfl⟩
  obtain ⟨w1, hw1⟩ : ∃ w1, w.alloc o = w1 := ⟨_, rfl⟩
  have T := Lib.hid (fun n => Turned.drewN (Turned.alloc h o) n)
  rw [hw1] at T
  have hx1 : w1.heap[w.heap.size]? = some o := by rw [← hw1]; exact heap_alloc_eq w _
  rw [← hoe] at hx1
  have d0 := cells_at hx1 0
  have d1 := cells_at hx1 1
  have d2 := cells_at hx1 2
  simp only [List.getElem?_toArray, List.getElem?_cons_succ, List.getElem?_cons_zero] at d0 d1 d2
  have c7 : w1.cell? ⟨a.b, 7, none⟩ = some (.int .i64 x.self.id) := (T.out 0).node.blk.cell (by omega)
  have c10 : w1.cell? ⟨a.b, 10, none⟩ = some (.map (some a.bo)) := (T.out 0).node.blk.cell (by omega)
  have HX1 := Lib.hid hx1
  have HW1 := Lib.hid hw1
  have HOE := Lib.hid hoe
  have HO := Lib.hid ho
  have HB := Lib.hid hb
  have HK := Lib.hid hk
  have hbB := h.blk.lt
  have wd : IntKind.i64.wrap (x.clock + x.c.susp) = x.clock + x.c.susp := IntWalk.i64_in _ (by have := hb.clock; have h2 := ho.cfg; simp only [cfgB, withinB, Bool.and_eq_true, decide_eq_true_eq] at h2; omega)
  have hlk : ∀ n, (Instr.lookup 71 (.map (some a.bo)) (.int .i64 kid) false).run Tryz.prog (w1.drewN n) = .ok (.pointer none) (w1.drewN n) := fun n => (look_other (T.out n).node hk.1).2 hf
  have hln : ∀ n ty, (Builtin.len_ #[71] ty #[.map (some a.bo)]).run Tryz.prog (w1.drewN n) = .ok (.int .i64 (x.others.length : Nat)) (w1.drewN n) := fun n ty => len_other (T.out n).node ty
  have HF := Lib.hid hf
  have HL7 := Lib.hid hl7
  clear h hf hw1 hoe hx1 ho hb hk hl
  go_enter Tryz.func24, Tryz.ntmps24
  go_wp2
  rw [HOE.out, HW1.out]
  go_quiet (fail)
  obtain ⟨n1, hn1⟩ : ∃ n, n = nq := ⟨_, rfl⟩
  subst hn1
  go_wp2
  go_quiet (fail)
  obtain ⟨n2, hn2⟩ : ∃ n, n = nq := ⟨_, rfl⟩
  subst hn2
  go_wp2
  skip
  obtain ⟨wa, hwa⟩ : ∃ wa, w1.drewN (n1 + n2) = wa := ⟨_, rfl⟩
  obtain ⟨nb, hnb⟩ : ∃ nb, w1.heap.size = nb := ⟨_, rfl⟩
  rw [hwa, hnb]
  have hTa := T.out (n1 + n2)
  rw [hwa] at hTa
  have hsa : wa.heap.size = nb := by rw [← hwa]; exact hnb
  have hxa := HX1.out
  have hxa : wa.heap[w.heap.size]? = some (.cells #[.int .i64 kid, .int .i64 kinc, .int .i64 kst] 31 (0, 0)) := by rw [← hwa]; exact hxa
  obtain ⟨wz, hwz⟩ : ∃ wz, wa.alloc (.cells #[.int .i64 0, .int .i64 0, .int .i64 0, .int .i64 0] 93) = wz := ⟨_, rfl⟩
  rw [hwz]
  have hTz := Turned.alloc hTa.node (.cells #[.int .i64 0, .int .i64 0, .int .i64 0, .int .i64 0] 93)
  have hmz := heap_new wa (.cells #[.int .i64 0, .int .i64 0, .int .i64 0, .int .i64 0] 93) hsa.symm
  have hxz := heap_old (.cells #[.int .i64 0, .int .i64 0, .int .i64 0, .int .i64 0] 93) hxa
  rw [hwz] at hTz hmz hxz
  clear d0 d1 d2 c7 c10 hlk hln hwa
  have d0 := cells_at hxz 0
  simp only [List.getElem?_toArray, List.getElem?_cons_zero] at d0
  have c10 : wz.cell? ⟨a.b, 10, none⟩ = some (.map (some a.bo)) := hTz.node.blk.cell (by omega)
  obtain ⟨w2, hr, hm2, hg2, hs2⟩ := MapAt.store (w := wz.drew) Tryz.underlying3 Tryz.underlying71 hTz.node.others (by have := HO.out.len; simp only [mPairs, List.length_map]; omega) kid (wf_id HK.out.1) (.pointer (some ⟨nb, 0, none⟩))
  have hgr : Chg (fun j _ => j = a.bo) wz w2 := ((Chg.refl _ wz).drew).grown hg2 (fun k o e _ => by cases e; rfl)
  obtain ⟨es, cn, hbo⟩ := hTz.node.others.isMap
  obtain ⟨cs, hbk⟩ := hTz.node.blk.block
  have HTA := Lib.hid hTa
  have HSA := Lib.hid hsa
  have HGR : Hid (Chg (fun j _ => j = a.bo) wa w2) := Lib.hid (((Chg.refl _ wa).alloc _).trans (by rw [hwz]; exact hgr))
  have HMP := Lib.hid hm2
  have HBO := Lib.hid hbo
  have HMZ := Lib.hid hmz
  have HBK : Hid (NB w2 a.b (nodeF a ov x)) := Lib.hid (hTz.node.blk.chg hgr (fun cs2 e => by rw [e, hbo] at hbk; cases hbk))
  have HX2 := Lib.hid (hgr.kept _ _ hxz (fun e => by rw [e, hbo] at hxz; cases hxz))
  have HM2 := Lib.hid (hgr.kept _ _ hmz (fun e => by rw [e, hbo] at hmz; cases hmz))
  clear hTa hsa hxa hwz hTz hmz hxz hm2 hg2 hs2 hgr hbo hbk hnb
  (refine wp_tail 7 (by kernel_rfl) (by kernel_rfl) ?_; simp only [List.take_succ_cons, List.take_zero, List.drop_succ_cons, List.drop_zero])
  iterate 7 still_step
  refine wpStill_nil ?_
  go_wp2
  have g0 := cells_at HX2.out 0
  have g1 := cells_at HX2.out 1
  have g2 := cells_at HX2.out 2
  simp only [List.getElem?_toArray, List.getElem?_cons_succ, List.getElem?_cons_zero] at g0 g1 g2
  have c13 : w2.cell? ⟨a.b, 13, none⟩ = some (.int .i64 x.clock) := HBK.out.cell (by omega)
  have c3 : w2.cell? ⟨a.b, 3, none⟩ = some (.int .i64 x.c.susp) := HBK.out.cell (by omega)
  have fm : ∀ i, w2.frozen? ⟨nb, i, none⟩ = false := fun i => unfrozen HM2.out i
  clear d0 c10 hr
  have q0 := cells_at HM2.out 0
  have q1 := cells_at HM2.out 1
  have q2 := cells_at HM2.out 2
  have q3 := cells_at HM2.out 3
  simp only [List.getElem?_toArray, List.getElem?_cons_succ, List.getElem?_cons_zero] at q0 q1 q2 q3
  (refine wp_tail 14 (by kernel_rfl) (by kernel_rfl) ?_; simp only [List.take_succ_cons, List.take_zero, List.drop_succ_cons, List.drop_zero])
  iterate 14 still_step
  refine wpStill_nil ?_
  go_upto_region 10 with (fail)
  obtain ⟨w3, hw3⟩ : ∃ w3, ((((w2.setCell ⟨nb, 0, none⟩ (.int .i64 kid)).setCell ⟨nb, 1, none⟩ (.int .i64 kinc)).setCell ⟨nb, 2, none⟩ (.int .i64 kst)).setCell ⟨nb, 3, none⟩ (.int .i64 (x.clock + x.c.susp))).drew = w3 := ⟨_, rfl⟩
  rw [hw3]
  obtain ⟨hS3, hC3⟩ := four_set HM2.out (.int .i64 kid) (.int .i64 kinc) (.int .i64 kst) (.int .i64 (x.clock + x.c.susp))
  have hC3 := hC3.drew
  have hS3 : (((((w2.setCell ⟨nb, 0, none⟩ (.int .i64 kid)).setCell ⟨nb, 1, none⟩ (.int .i64 kinc)).setCell ⟨nb, 2, none⟩ (.int .i64 kst)).setCell ⟨nb, 3, none⟩ (.int .i64 (x.clock + x.c.susp))).drew).heap[nb]? = some (.cells (memCells ⟨⟨kid, kinc, kst⟩, x.clock + x.c.susp⟩) 93 (0, 0)) := hS3
  rw [hw3] at hC3 hS3
  clear hw3 g0 g1 g2 c13 c3 fm q0 q1 q2 q3
  obtain ⟨mm, hmm⟩ : ∃ mm : Mem, (⟨⟨kid, kinc, kst⟩, x.clock + x.c.susp⟩ : Mem) = mm := ⟨_, rfl⟩
  have hmid : mm.k.id = kid := by rw [← hmm]
  rw [hmm] at hS3
  have hni := findM_none HF.out
  have hbn : a.bo ≠ nb := fun e => by have := HBO.out; rw [e, HMZ.out] at this; cases this
  have hmap : MapAt Tryz.prog 3 w3 a.bo (mPairs (a.atMem mm.k.id nb) (putM mm x.others)) := by
    have h1 : MapAt Tryz.prog 3 w3 a.bo _ := HMP.out.heap (apart_of_chg hC3 a.bo hbn HMP.out.lt)
    refine h1.perm ?_
    have e1 : (mPairs a x.others).filter (fun p => p.1 != kid) = (ids x.others).map (fun i => (i, .pointer (some ⟨(a.atMem mm.k.id nb).mem i, 0, none⟩))) := by
      rw [List.filter_eq_self.2 (fun p hp => ?_), mPairs_ids]
      · refine List.map_congr_left (fun i hi => ?_)
        simp only [Ad.atMem, hmid]
        rw [if_neg (fun e : i = kid => hni (by rw [← e]; exact hi))]
      · obtain ⟨m1, hm1, rfl⟩ := List.mem_map.1 hp
        simp only [bne_iff_ne, ne_eq]
        exact fun e => hni (mem_ids.2 ⟨m1, hm1, e⟩)
    have e2 : [(kid, Value.pointer (some ⟨nb, 0, none⟩))] = [kid].map (fun i => (i, Value.pointer (some ⟨(a.atMem mm.k.id nb).mem i, 0, none⟩))) := by simp [Ad.atMem, hmid]
    rw [e1, e2, mPairs_ids, ← List.map_append]
    refine List.Perm.map _ ?_
    have := ids_putM_new (m := mm) (l := x.others) (by rw [hmid]; exact hni)
    rwa [hmid] at this
  have hCa : Chg (fun j _ => j = a.bo ∨ j = nb) wa w3 := (HGR.out.mono (fun _ _ _ hj => .inl hj)).trans (hC3.mono (fun _ _ _ hj => .inr hj))
  have hN3 : NodeAt w3 (a.atMem mm.k.id nb) ov { x with others := putM mm x.others } :=
    HTA.out.node.setMem HO.out.rise mm nb (.inr (by have := HSA.out; omega)) (apart_of_chg hCa) hS3 hmap
  have hT3 : Turned ov w a x w3 (a.atMem mm.k.id nb) { x with others := putM mm x.others } := by
    refine HTA.out.trans ⟨hN3, hCa.mono (fun j _ hlt hj => ?_), fun k hk => ?_, rfl⟩
    · rcases hj with rfl | rfl
      · exact .inr (.inl rfl)
      · have := HSA.out; omega
    · rcases Owns.mem_of hk with h | rfl
      · exact .inl h
      · exact .inr (by have := HSA.out; omega)
  have h2 := cells_at hS3 2
  simp only [memCells, List.getElem?_toArray, List.getElem?_cons_succ, List.getElem?_cons_zero, ← hmm] at h2
  have hX3 := hC3.kept _ _ HX2.out (fun e => by have h2 := HX2.out; rw [e, HM2.out] at h2; exact absurd h2 (by simp))
  clear hmap hC3 hS3 hCa hni hbn
  have HT3 := Lib.hid hT3
  have HN3 := Lib.hid hN3
  have HX3 := Lib.hid hX3
  have HMM := Lib.hid hmm
  have g0 := cells_at hX3 0
  have g1 := cells_at hX3 1
  have g2 := cells_at hX3 2
  simp only [List.getElem?_toArray, List.getElem?_cons_succ, List.getElem?_cons_zero] at g0 g1 g2
  have hql : x.queue.length < 1000000 := by have := HO.out.qlen; omega
  have hkf : fitsI kid := by have := HK.out.1; simp only at this; unfold fitsI; omega
  have hlo : -9223372036854775808 ≤ x.lost ∧ x.lost < 9223372036854775807 := by have := HB.out.lost; omega
  have hev := HO.out.evs
  have HQ := Lib.hid hql
  have HF := Lib.hid hkf
  have HLO := Lib.hid hlo
  have HE := Lib.hid hev
  clear hT3 hN3 hX3 hmm hmid hql hkf hlo hev
  have hN := HN3.out
  have c15 : w3.cell? ⟨a.b, 15, none⟩ = some (.slice a.pa x.pass.length a.pc) := hN.blk.cell (by omega)
  obtain ⟨L, hL⟩ : ∃ L, x.pass.filter (fun n => n != kid) = L := ⟨_, rfl⟩
  have hdel := delPass_any kid w.heap.size a.pa a.pc x.pass w3 hN.pass hN.pass0 (by have := HO.out.pnd; omega) (heap_lt HX3.out) g0 (fun k hk => by
    obtain ⟨cur, hg⟩ := hN.pass.blk hk
    intro e
    rw [← e, HX3.out] at hg
    simp at hg)
  have hLe : L.length ≤ x.pass.length := by rw [← hL]; exact List.length_filter_le _ _
  have hL0 : a.pa = none → L = [] ∧ a.pc = 0 := fun e => by
    obtain ⟨e1, e2⟩ := hN.pass0 e
    simp only at e1
    refine ⟨?_, e2⟩
    rw [← hL, e1]; rfl
  rw [hL] at hdel
  have HDEL := Lib.hid hdel
  have HLL := Lib.hid hL
  have HL0 := Lib.hid hL0
  clear hN hdel hL hL0 hLe
  go_wp2_with (first
    | (go_at_call 43; refine (here_any _ kst _ h2).mono ?_; rintro e w4 ⟨rfl, rfl⟩; rw [hst])
    | (go_at_call 44; refine HDEL.out.mono ?_; rintro e w4 ⟨rfl, hp4, hc4⟩;
       have HT5 := Lib.hid (HT3.out.trans (HN3.out.cutPass hp4 hc4 HL0.out));
       have f15 : w4.frozen? ⟨a.b, 15, none⟩ = false := (HN3.out.cut_blk hc4).free 15;
       have s15 : w4.cell? ⟨a.b, 15, none⟩ = some (.slice a.pa x.pass.length a.pc) := (HN3.out.cut_blk hc4).cell (by omega);
       have hX4 := hc4.kept _ _ HX3.out (fun hk => by (obtain ⟨cur, hg⟩ := HN3.out.pass.blk hk; exact absurd (hg.symm.trans HX3.out) (by simp)));
       have x0 := cells_at hX4 0; have x1 := cells_at hX4 1; have x2 := cells_at hX4 2;
       simp only [List.getElem?_toArray, List.getElem?_cons_succ, List.getElem?_cons_zero] at x0 x1 x2;
       clear hp4 hc4 hX4)
    | (go_at_call 46; refine (changed_any _ ov _ ⟨kid, kinc, kst⟩ _ HT5.out.node HQ.out HF.out HLO.out HE.out).mono ?_; rintro e w6 ⟨rfl, hT6⟩))
  ((try simp only [Exit.inBlock, Exit.then]); first | refine bodyPost_ret (results_none rfl _ _ _) rfl ?_ | refine bodyPost_end (results_none rfl _ _ _) rfl ?_)
  have e : x.taken ⟨kid, kinc, kst⟩ = ({ x with others := putM mm x.others, pass := L } : Nd).changed ⟨kid, kinc, kst⟩ := by
    rw [← HMM.out, ← HLL.out]; simp only [decide_eq_false_iff_not] at hst; simp only [Nd.taken, if_neg hst]
  rw [e]
  exact ⟨rfl, _, HT5.out.trans hT6⟩
end Go.Proofs.YtfngdplkcppabaaGreat
namespace Go.Proofs.YtfngdplkcppabaaGreat
open Go.RowKit
theorem hear_any {x : Nd} (ho : Ok x) {B : Int} (hb : Bd B x) (hB : B ≤ 1000000000000) (a : Ad) (ov : Value) (k : K) (hk : keyOk k) (w : World) (h : NodeAt w a ov x) :
    Calls Tryz.prog 24 #[.pointer (some ⟨a.b, 0, none⟩), .agg #[.int .i64 k.id, .int .i64 k.inc, .int .i64 k.st]] w fun e w' =>
      e = .returned (.tuple #[]) ∧ ∃ a', Turned ov w a x w' a' (x.hear k) := by
  unfold Nd.hear
  by_cases hid : k.id = x.self.id
  · rw [if_pos hid]
    exact (hear_self ho hb hB a ov k hk w h hid).mono fun e w' h => ⟨h.1, a, h.2⟩
  · rw [if_neg hid]
    have hid' : (k.id == x.self.id) = false := by simpa using hid
    cases hf : findM x.others k.id with
    | none =>
      simp only
      by_cases hl : x.others.length = 7
      · rw [if_pos hl]
        exact (hear_full a ov k hk w h hid' hf hl).mono fun e w' h => ⟨h.1, a, h.2⟩
      · rw [if_neg hl]
        by_cases hst : k.st ≤ 2
        · exact hear_new ho hb hB a ov k hk w h hid' hf hl (by simpa using hst)
        · exact hear_newgone ho hb hB a ov k hk w h hid' hf hl (by simpa using hst)
    | some m =>
      simp only
      by_cases hl : lessK m.k k = true
      · rw [if_pos hl]
        by_cases hst : k.st ≤ 2
        · exact hear_more ho hb hB a ov k hk w h hid' m hf hl (by simpa using hst)
        · exact hear_gone ho hb hB a ov k hk w h hid' m hf hl (by simpa using hst)
      · rw [if_neg hl]
        exact (hear_old a ov k hk w h hid' m hf (by simpa using hl)).mono fun e w' h => ⟨h.1, a, h.2⟩
end Go.Proofs.YtfngdplkcppabaaGreat
