/-
  Arguments that are lists of numbers, opened.
  node.hear, of a member that is said to be dead: where the members lie stays.
  For node.Tick: the wants of who is due; relays that end.
  For node.wait: slices.Delete of ids, whom to ask, the probe's end.
-/
import Derived.Test.YtfngdplkcppabaaGreatPart04
import Derived.Deep.Slices
import Derived.ChangeSame
import Derived.Lib.SmallJoins
import Derived.ProofKit
import Derived.Test.YtfngdplkcppabaaGreatPart10
import Derived.Test.YtfngdplkcppabaaGreatPart14
import Derived.Test.YtfngdplkcppabaaGreatPart12
import Derived.Test.YtfngdplkcppabaaGreatPart19
import Derived.Test.YtfngdplkcppabaaGreatPart13
import Derived.Test.YtfngdplkcppabaaGreatPart11
import Derived.Maps.RangeWalk
import Derived.Test.YtfngdplkcppabaaGreatPart16
import Derived.Shelf.SlicesE.Delete
import Derived.Test.YtfngdplkcppabaaGreatShelf
set_option linter.all false
namespace Go.Proofs.YtfngdplkcppabaaGreat
open Go.Joins Go.ChangeShapes Go.WideShapes Go.RowKit Go.Deep

theorem fits_wf {x : Int} (h : (Lit.int .i64 x).wf = true) : -9223372036854775808 ≤ x ∧ x ≤ 9223372036854775807 := by
  simpa [Lit.wf, IntKind.min, IntKind.max, IntKind.signed, IntKind.bits] using h
/-- A list of numbers. -/
theorem row_nums {w : World} {o : Option Addr} {len cap : Nat} {zs : List Int}
    (h : (o = none ∧ len = 0 ∧ cap = 0 ∧ zs = []) ∨ ∃ x, o = some x ∧ len ≤ cap ∧ cap ≤ maxLen ∧ zs.length = cap ∧ (∀ i, i < zs.length → w.cell? (x.add i) = some (.int .i64 (zs.getD i 0))) ∧ ∀ n ∈ zs, (Lit.int .i64 n).wf = true) :
    ∃ l : List Int, l.length = len ∧ len ≤ maxLen ∧ CellsAt w o (l.map (Value.int .i64)) ∧ ∀ v ∈ l, fitsI v := by
  rcases h with ⟨rfl, rfl, rfl, rfl⟩ | ⟨a, rfl, hl, hm, hz, hcell, hwz⟩
  · exact ⟨[], rfl, Nat.zero_le _, fun i o hk => (by simp at hk), fun k hk => (by simp at hk)⟩
  · have hzl : len ≤ zs.length := by omega
    have htl : (zs.take len).length = len := by rw [List.length_take]; omega
    refine ⟨zs.take len, htl, by omega, fun j u hu => ?_, fun v hv => ?_⟩
    · rw [List.getElem?_map, List.getElem?_take] at hu
      split at hu
      · rename_i hj
        have hjz : j < zs.length := by omega
        rw [List.getElem?_eq_getElem hjz] at hu
        simp only [Option.map_some, Option.some.injEq] at hu
        subst hu
        have hc := hcell j hjz
        rw [List.getD_eq_getElem?_getD, List.getElem?_eq_getElem hjz, Option.getD_some] at hc
        obtain ⟨b, off, spot⟩ := a
        have h0 := hcell 0 (by omega)
        have e0 : (⟨b, off, spot⟩ : Addr).add 0 = ⟨b, off, spot⟩ := by simp [Addr.add]
        rw [e0] at h0
        have hb : spot = none ∧ b < w.heap.size := by
          refine ⟨?_, World.block_lt_of_cell? _ _ h0⟩
          unfold World.cell? at h0
          split at h0
          · split at h0
            · cases h0
            · rename_i hs; simpa using hs
          · cases h0
        obtain ⟨rfl, hbl⟩ := hb
        exact ⟨b, off, rfl, hbl, by have : (⟨b, off, none⟩ : Addr).add j = ⟨b, off + j, none⟩ := by unfold Addr.add; split <;> simp_all
                                    rw [this] at hc; exact hc⟩
      · simp at hu
    · have := fits_wf (hwz v (List.mem_of_mem_take hv))
      unfold fitsI; omega
end Go.Proofs.YtfngdplkcppabaaGreat
namespace Go.Proofs.YtfngdplkcppabaaGreat
open Go.RowKit

set_option maxRecDepth 100000 in
set_option maxHeartbeats 4000000 in
theorem hear_dead {x : Nd} (ho : Ok x) {B : Int} (hb : Bd B x) (hB : B ≤ 1000000000000) (a : Ad) (ov : Value) (k : K) (hk : keyOk k) (w : World) (h : NodeAt w a ov x) (hid : (k.id == x.self.id) = false)
    (m : Mem) (hf : findM x.others k.id = some m) (hl : lessK m.k k = true) (hst : decide (k.st ≤ 2) = false) :
    Calls Tryz.prog 24 #[.pointer (some ⟨a.b, 0, none⟩), .agg #[.int .i64 k.id, .int .i64 k.inc, .int .i64 k.st]] w fun e w' =>
      e = .returned (.tuple #[]) ∧ ∃ a', Turned ov w a x w' a' (x.taken k) ∧ a'.mem = a.mem := by
  obtain ⟨hm, hme⟩ := findM_some hf
  have hmem := h.mems m hm
  rw [hme] at hmem
  have hin : k.id ∈ ids x.others := mem_ids.2 ⟨m, hm, hme⟩
  have m0 := cells_at hmem 0
  have m1 := cells_at hmem 1
  have m2 := cells_at hmem 2
  simp only [memCells, List.getElem?_toArray, List.getElem?_cons_succ, List.getElem?_cons_zero] at m0 m1 m2
  obtain ⟨kid, kinc, kst⟩ := k
  obtain ⟨⟨mid, minc, mst⟩, mdue⟩ := m
  simp only at hid hf hl m0 m1 m2 hst hmem hin ⊢
  obtain ⟨o, hoe⟩ : ∃ o, (Obj.cells #[.int .i64 kid, .int .i64 kinc, .int .i64 kst] 31) = o := ⟨_, rfl⟩
  obtain ⟨w1, hw1⟩ : ∃ w1, w.alloc o = w1 := ⟨_, rfl⟩
  have T := Lib.hid (fun n => Turned.drewN (Turned.alloc h o) n)
  rw [hw1] at T
  have hx1 : w1.heap[w.heap.size]? = some o := by rw [← hw1]; exact heap_alloc_eq w _
  rw [← hoe] at hx1
  have d0 := cells_at hx1 0
  have d1 := cells_at hx1 1
  have d2 := cells_at hx1 2
  simp only [List.getElem?_toArray, List.getElem?_cons_succ, List.getElem?_cons_zero] at d0 d1 d2
  have c7 : w1.cell? ⟨a.b, 7, none⟩ = some (.int .i64 x.self.id) := (T.out 0).node.blk.cell (by omega)
  have c10 : w1.cell? ⟨a.b, 10, none⟩ = some (.map (some a.bo)) := (T.out 0).node.blk.cell (by omega)
  have HX1 := Lib.hid hx1
  have HW1 := Lib.hid hw1
  have HOE := Lib.hid hoe
  have HO := Lib.hid ho
  have HB := Lib.hid hb
  have HK := Lib.hid hk
  have hbB := h.blk.lt
  have wd : IntKind.i64.wrap (x.clock + x.c.susp) = x.clock + x.c.susp := IntWalk.i64_in _ (by have := hb.clock; have h2 := ho.cfg; simp only [cfgB, withinB, Bool.and_eq_true, decide_eq_true_eq] at h2; omega)
  have hlt := heap_lt hmem
  have e1 : w1.heap[a.mem kid]? = w.heap[a.mem kid]? := by rw [← hw1]; exact Below.heap_alloc _ _ _ hlt
  have n0 : w1.cell? ⟨a.mem kid, 0, none⟩ = some (.int .i64 mid) := by rw [← hw1, World.cell?_alloc_lt _ _ _ hlt]; exact m0
  have n1 : w1.cell? ⟨a.mem kid, 1, none⟩ = some (.int .i64 minc) := by rw [← hw1, World.cell?_alloc_lt _ _ _ hlt]; exact m1
  have n2 : w1.cell? ⟨a.mem kid, 2, none⟩ = some (.int .i64 mst) := by rw [← hw1, World.cell?_alloc_lt _ _ _ hlt]; exact m2
  have hlk : ∀ n, (Instr.lookup 71 (.map (some a.bo)) (.int .i64 kid) false).run Tryz.prog (w1.drewN n) = .ok (.pointer (some ⟨a.mem kid, 0, none⟩)) (w1.drewN n) := fun n => (look_other (T.out n).node hk.1).1 _ hf
  have HL := Lib.hid hl
  have hmem1 := Lib.hid (e1.trans hmem)
  have HIN := Lib.hid hin
  clear h hf hl hmem m0 m1 m2 hw1 hoe hx1 hlt hme e1 ho hb hk hin
  go_enter Tryz.func24, Tryz.ntmps24
  go_wp2
  rw [HOE.out, HW1.out]
  go_quiet (fail)
  go_wp2
  go_quiet (fail)
  go_wp2
  (refine wp_tail 5 (by kernel_rfl) (by kernel_rfl) ?_; simp only [List.take_succ_cons, List.take_zero, List.drop_succ_cons, List.drop_zero])
  iterate 5 still_step
  refine wpStill_nil ?_
  go_wp2_with (go_at_call 42; refine (less_any ⟨mid, minc, mst⟩ ⟨kid, kinc, kst⟩ _).mono ?_; rintro e w2 ⟨rfl, hb2⟩; rw [HL.out]; have hT2 := Lib.hid (Turned.trans (T.out _) (.below (T.out _).node hb2)); have HBK := Lib.hid hT2.out.node.blk; have HX2 := Lib.hid ((hb2.block _ (heap_lt HX1.out)).trans HX1.out); have HM2 := Lib.hid ((hb2.block _ (heap_lt hmem1.out)).trans hmem1.out); clear hb2)
  have g0 := cells_at HX2.out 0
  have g1 := cells_at HX2.out 1
  have g2 := cells_at HX2.out 2
  simp only [List.getElem?_toArray, List.getElem?_cons_succ, List.getElem?_cons_zero] at g0 g1 g2
  have c13 : w2.cell? ⟨a.b, 13, none⟩ = some (.int .i64 x.clock) := HBK.out.cell (by omega)
  have c3 : w2.cell? ⟨a.b, 3, none⟩ = some (.int .i64 x.c.susp) := HBK.out.cell (by omega)
  have fm : ∀ i, w2.frozen? ⟨a.mem kid, i, none⟩ = false := fun i => unfrozen HM2.out i
  clear d0 c10 d1 d2 c7 hlk n0 n1 n2
  have q0 := cells_at HM2.out 0
  have q1 := cells_at HM2.out 1
  have q2 := cells_at HM2.out 2
  have q3 := cells_at HM2.out 3
  simp only [memCells, List.getElem?_toArray, List.getElem?_cons_succ, List.getElem?_cons_zero] at q0 q1 q2 q3
  (refine wp_tail 14 (by kernel_rfl) (by kernel_rfl) ?_; simp only [List.take_succ_cons, List.take_zero, List.drop_succ_cons, List.drop_zero])
  iterate 14 still_step
  refine wpStill_nil ?_
  go_upto_region 10 with (fail)
  obtain ⟨w3, hw3⟩ : ∃ w3, ((((w2.setCell ⟨a.mem kid, 0, none⟩ (.int .i64 kid)).setCell ⟨a.mem kid, 1, none⟩ (.int .i64 kinc)).setCell ⟨a.mem kid, 2, none⟩ (.int .i64 kst)).setCell ⟨a.mem kid, 3, none⟩ (.int .i64 (x.clock + x.c.susp))).drew = w3 := ⟨_, rfl⟩
  rw [hw3]
  obtain ⟨hS3, hC3⟩ := four_set HM2.out (.int .i64 kid) (.int .i64 kinc) (.int .i64 kst) (.int .i64 (x.clock + x.c.susp))
  have hC3 := hC3.drew
  have hS3 : (((((w2.setCell ⟨a.mem kid, 0, none⟩ (.int .i64 kid)).setCell ⟨a.mem kid, 1, none⟩ (.int .i64 kinc)).setCell ⟨a.mem kid, 2, none⟩ (.int .i64 kst)).setCell ⟨a.mem kid, 3, none⟩ (.int .i64 (x.clock + x.c.susp))).drew).heap[a.mem kid]? = some (.cells (memCells ⟨⟨kid, kinc, kst⟩, x.clock + x.c.susp⟩) 93 (0, 0)) := hS3
  rw [hw3] at hC3 hS3
  clear hw3 g0 g1 g2 c13 c3 fm q0 q1 q2 q3
  obtain ⟨mm, hmm⟩ : ∃ mm : Mem, (⟨⟨kid, kinc, kst⟩, x.clock + x.c.susp⟩ : Mem) = mm := ⟨_, rfl⟩
  have hmid : mm.k.id = kid := by rw [← hmm]
  rw [hmm] at hS3
  have hmap : MapAt Tryz.prog 3 w3 a.bo (mPairs (a.atMem mm.k.id (a.mem kid)) (putM mm x.others)) := by
    have e1 : mPairs (a.atMem mm.k.id (a.mem kid)) (putM mm x.others) = mPairs a x.others := by
      rw [mPairs_ids, mPairs_ids, ids_putM_in HO.out.rise (by rw [hmid]; exact HIN.out)]
      refine List.map_congr_left (fun i _ => ?_)
      simp only [Ad.atMem, hmid]
      by_cases hi : i = kid
      · rw [if_pos hi, hi]
      · rw [if_neg hi]
    rw [e1]
    obtain ⟨es, n, hbo⟩ := hT2.out.node.others.isMap
    exact hT2.out.node.others.heap ((hC3.kept _ _ hbo (fun e => by rw [e, HM2.out] at hbo; cases hbo)).trans hbo.symm)
  have hN3 : NodeAt w3 (a.atMem mm.k.id (a.mem kid)) ov { x with others := putM mm x.others } :=
    hT2.out.node.setMem HO.out.rise mm (a.mem kid) (.inl ⟨by rw [hmid]; exact HIN.out, by rw [hmid]⟩) (apart_of_chg (hC3.mono (fun j _ _ hj => .inr hj))) hS3 hmap
  have hT3 : Turned ov w a x w3 (a.atMem mm.k.id (a.mem kid)) { x with others := putM mm x.others } := by
    obtain ⟨m1, hm1, he1⟩ := mem_ids.1 HIN.out
    have hown : Owns a x (a.mem kid) := .inr (.inr (.inr (.inr (.inr (.inr (.inl ⟨m1, hm1, by rw [he1]⟩))))))
    refine hT2.out.trans ⟨hN3, hC3.mono (fun j _ _ hj => by have hj : j = a.mem kid := hj; rw [hj]; exact hown), fun k hk => ?_, rfl⟩
    rcases Owns.mem_of hk with h | rfl
    · exact .inl h
    · exact .inl hown
  have h2 := cells_at hS3 2
  simp only [memCells, List.getElem?_toArray, List.getElem?_cons_succ, List.getElem?_cons_zero, ← hmm] at h2
  have hX3 := hC3.kept _ _ HX2.out (fun e => by have h1 := hT2.out.node.mems; have h2 := HX2.out; rw [e, HM2.out] at h2; exact absurd h2 (by simp))
  clear hmap hC3 hS3
  have HT3 := Lib.hid hT3
  have HN3 := Lib.hid hN3
  have HX3 := Lib.hid hX3
  have HMM := Lib.hid hmm
  have g0 := cells_at hX3 0
  have g1 := cells_at hX3 1
  have g2 := cells_at hX3 2
  simp only [List.getElem?_toArray, List.getElem?_cons_succ, List.getElem?_cons_zero] at g0 g1 g2
  have hql : x.queue.length < 1000000 := by have := HO.out.qlen; omega
  have hkf : fitsI kid := by have := HK.out.1; simp only at this; unfold fitsI; omega
  have hlo : -9223372036854775808 ≤ x.lost ∧ x.lost < 9223372036854775807 := by have := HB.out.lost; omega
  have hev := HO.out.evs
  have HQ := Lib.hid hql
  have HF := Lib.hid hkf
  have HLO := Lib.hid hlo
  have HE := Lib.hid hev
  clear hT3 hN3 hX3 hmm hmid hql hkf hlo hev
  have hN := HN3.out
  have c15 : w3.cell? ⟨a.b, 15, none⟩ = some (.slice a.pa x.pass.length a.pc) := hN.blk.cell (by omega)
  obtain ⟨L, hL⟩ : ∃ L, x.pass.filter (fun n => n != kid) = L := ⟨_, rfl⟩
  have hdel := delPass_any kid w.heap.size a.pa a.pc x.pass w3 hN.pass hN.pass0 (by have := HO.out.pnd; omega) (heap_lt HX3.out) g0 (fun k hk => by
    obtain ⟨cur, hg⟩ := hN.pass.blk hk
    intro e
    rw [← e, HX3.out] at hg
    simp at hg)
  have hLe : L.length ≤ x.pass.length := by rw [← hL]; exact List.length_filter_le _ _
  have hL0 : a.pa = none → L = [] ∧ a.pc = 0 := fun e => by
    obtain ⟨e1, e2⟩ := hN.pass0 e
    simp only at e1
    refine ⟨?_, e2⟩
    rw [← hL, e1]; rfl
  rw [hL] at hdel
  have HDEL := Lib.hid hdel
  have HLL := Lib.hid hL
  have HL0 := Lib.hid hL0
  clear hN hdel hL hL0 hLe
  go_wp2_with (first
    | (go_at_call 43; refine (here_any _ kst _ h2).mono ?_; rintro e w4 ⟨rfl, rfl⟩; rw [hst])
    | (go_at_call 44; refine HDEL.out.mono ?_; rintro e w4 ⟨rfl, hp4, hc4⟩;
       have HT5 := Lib.hid (HT3.out.trans (HN3.out.cutPass hp4 hc4 HL0.out));
       have f15 : w4.frozen? ⟨a.b, 15, none⟩ = false := (HN3.out.cut_blk hc4).free 15;
       have s15 : w4.cell? ⟨a.b, 15, none⟩ = some (.slice a.pa x.pass.length a.pc) := (HN3.out.cut_blk hc4).cell (by omega);
       have hX4 := hc4.kept _ _ HX3.out (fun hk => by (obtain ⟨cur, hg⟩ := HN3.out.pass.blk hk; exact absurd (hg.symm.trans HX3.out) (by simp)));
       have x0 := cells_at hX4 0; have x1 := cells_at hX4 1; have x2 := cells_at hX4 2;
       simp only [List.getElem?_toArray, List.getElem?_cons_succ, List.getElem?_cons_zero] at x0 x1 x2;
       clear hp4 hc4 hX4)
    | (go_at_call 46; refine (changed_any _ ov _ ⟨kid, kinc, kst⟩ _ HT5.out.node HQ.out HF.out HLO.out HE.out).mono ?_; rintro e w6 ⟨rfl, hT6⟩))
  ((try simp only [Exit.inBlock, Exit.then]); first | refine bodyPost_ret (results_none rfl _ _ _) rfl ?_ | refine bodyPost_end (results_none rfl _ _ _) rfl ?_)
  have e : x.taken ⟨kid, kinc, kst⟩ = ({ x with others := putM mm x.others, pass := L } : Nd).changed ⟨kid, kinc, kst⟩ := by
    rw [← HMM.out, ← HLL.out]; simp only [decide_eq_false_iff_not] at hst; simp only [Nd.taken, if_neg hst]
  rw [e]
  refine ⟨rfl, _, HT5.out.trans hT6, ?_⟩
  funext i
  have hmk : mm.k.id = kid := by rw [← HMM.out]
  show (a.atMem mm.k.id (a.mem kid)).mem i = a.mem i
  rw [hmk]
  unfold Ad.atMem
  simp only
  by_cases e : i = kid
  · rw [e]; simp
  · simp [e]
/-- Of a member: it is dead. -/
theorem hear_due {x : Nd} (ho : Ok x) {B : Int} (hb : Bd B x) (hB : B ≤ 1000000000000) (a : Ad) (ov : Value) (m : Mem) (hm : m ∈ x.others) (w : World) (h : NodeAt w a ov x) :
    Calls Tryz.prog 24 #[.pointer (some ⟨a.b, 0, none⟩), .agg #[.int .i64 m.k.id, .int .i64 m.k.inc, .int .i64 3]] w fun e w' =>
      e = .returned (.tuple #[]) ∧ ∃ a', Turned ov w a x w' a' (x.hear ⟨m.k.id, m.k.inc, 3⟩) ∧ a'.mem = a.mem := by
  have hk : keyOk ⟨m.k.id, m.k.inc, 3⟩ := ⟨(ho.key m hm).1, (ho.key m hm).2.1, by show (1 : Int) ≤ 3 ∧ (3 : Int) ≤ 4; omega⟩
  have hid : m.k.id ≠ x.self.id := ho.notSelf m hm
  have hid' : (m.k.id == x.self.id) = false := by simpa using hid
  have hf : findM x.others m.k.id = some m := by
    cases hf : findM x.others m.k.id with
    | none => exact absurd (mem_ids.2 ⟨m, hm, rfl⟩) (findM_none hf)
    | some m' =>
      obtain ⟨h1, h2⟩ := findM_some hf
      have : m' = m := by
        have hr := ho.rise
        clear hf
        generalize x.others = l at hm h1 hr
        induction l with
        | nil => simp at hm
        | cons c r ih =>
          have hc : ∀ i ∈ ids r, c.k.id < i := fun i hi => (List.pairwise_cons.1 hr).1 i hi
          rcases List.mem_cons.1 hm with rfl | hm'
          · rcases List.mem_cons.1 h1 with e | h1'
            · exact e
            · have := hc _ (mem_ids.2 ⟨m', h1', rfl⟩); omega
          · rcases List.mem_cons.1 h1 with rfl | h1'
            · have := hc _ (mem_ids.2 ⟨m, hm', rfl⟩); omega
            · exact ih hm' h1' (List.pairwise_cons.1 hr).2
      rw [this]
  unfold Nd.hear
  simp only
  rw [if_neg hid, hf]
  simp only
  by_cases hl : lessK m.k ⟨m.k.id, m.k.inc, 3⟩ = true
  · rw [if_pos hl]
    exact hear_dead ho hb hB a ov ⟨m.k.id, m.k.inc, 3⟩ hk w h hid' m hf hl (show decide ((3 : Int) ≤ 2) = false by decide)
  · rw [if_neg hl]
    exact (hear_old a ov ⟨m.k.id, m.k.inc, 3⟩ hk w h hid' m hf (by simpa using hl)).mono fun e w' h => ⟨h.1, a, h.2, rfl⟩
end Go.Proofs.YtfngdplkcppabaaGreat
namespace Go.Proofs.YtfngdplkcppabaaGreat
open Go.RowKit

/-- Whose time is up. -/
def dueB (clk : Int) (m : Mem) : Bool := m.k.st == 2 && decide (m.due ≤ clk)
set_option maxRecDepth 100000 in
set_option maxHeartbeats 1000000 in
theorem tick1_any (b bx nb : Nat) (m : Mem) (clk : Int) (w : World) (hm : w.heap[b]? = some (.cells (memCells m) 93 (0, 0))) (cx : w.cell? ⟨bx, 0, none⟩ = some (.pointer (some ⟨nb, 0, none⟩))) (cp : w.cell? ⟨nb, 13, none⟩ = some (.int .i64 clk)) :
    Calls Tryz.prog 30 #[.pointer (some ⟨b, 0, none⟩), .pointer (some ⟨bx, 0, none⟩)] w fun e w' => e = .returned (.bool (dueB clk m)) ∧ ∃ q, w' = w.drewN q := by
  have m2 := cells_at hm 2
  have m3 := cells_at hm 3
  obtain ⟨⟨kid, kinc, kst⟩, kdue⟩ := m
  simp only [memCells, List.getElem?_toArray, List.getElem?_cons_succ, List.getElem?_cons_zero] at m2 m3
  clear hm
  unfold dueB
  simp only
  by_cases h1 : kst = 2
  · have h1b : (kst == 2) = true := by simpa using h1
    clear h1
    go_enter Tryz.func30, Tryz.ntmps30
    go_wp2
    go_quiet (fail)
    go_wp2
    go_ret
    exact ⟨by simp [h1b], _, rfl⟩
  · have h1b : (kst == 2) = false := by simpa using h1
    clear h1
    go_enter Tryz.func30, Tryz.ntmps30
    go_wp2
    go_quiet (fail)
    go_wp2
    go_ret
    exact ⟨by simp [h1b], _, rfl⟩
theorem eg_tick1 : ∀ args w, (callFunc 30 args).run Tryz.prog w = .ok (.enter 30 args) w := enters_of Tryz.func30 (by kernel_rfl) rfl
theorem due_eq (x : Nd) : x.due = x.others.filter (dueB x.clock) := rfl
/-- Relays that go on, or are still to be looked at. -/
def relF (clk : Int) (left : Lit → Bool) (l : List Rel) : List Rel := l.filter (fun r => decide (clk < r.ends) || left (.int .i64 r.seq))
theorem relF_start {clk : Int} {left : Lit → Bool} {l : List Rel} (h : ∀ r ∈ l, left (.int .i64 r.seq) = true) : relF clk left l = l := List.filter_eq_self.2 (fun r hr => by rw [h r hr, Bool.or_true])
theorem relF_end {clk : Int} {left : Lit → Bool} {l : List Rel} (h : ∀ z, left z = false) : relF clk left l = l.filter (fun r => decide (clk < r.ends)) := List.filter_congr (fun r _ => by rw [h, Bool.or_false])
theorem same_key (a b : Int) : (Lit.int .i64 a).sameKey (.int .i64 b) = (a == b) := by
  by_cases e : a = b
  · subst e; simp [Lit.sameKey]
  · simp [Lit.sameKey, e]
theorem rel_one {l : List Rel} (hnd : (rids l).Nodup) {r q : Rel} (hr : r ∈ l) (hq : q ∈ l) (e : r.seq = q.seq) : r = q := by
  induction l with
  | nil => simp at hr
  | cons c t ih =>
    have h1 : c.seq ∉ rids t := (List.nodup_cons.1 hnd).1
    rcases List.mem_cons.1 hr with rfl | hr'
    · rcases List.mem_cons.1 hq with h | hq'
      · exact h.symm
      · exact absurd (List.mem_map.2 ⟨q, hq', e.symm⟩) h1
    · rcases List.mem_cons.1 hq with rfl | hq'
      · exact absurd (List.mem_map.2 ⟨r, hr', e⟩) h1
      · exact ih (List.nodup_cons.1 hnd).2 hr' hq'
theorem relF_struck {clk : Int} {left : Lit → Bool} {l : List Rel} (hnd : (rids l).Nodup) {q : Rel} (hq : q ∈ l) (he : q.ends ≤ clk) :
    (relF clk left l).filter (fun r => !(r.seq == q.seq)) = relF clk (fun z => left z && !z.sameKey (.int .i64 q.seq)) l := by
  unfold relF
  rw [List.filter_filter]
  refine List.filter_congr (fun r hr => ?_)
  simp only [same_key]
  by_cases e : r.seq = q.seq
  · have := rel_one hnd hr hq e
    subst this
    have : decide (clk < r.ends) = false := by simpa using he
    simp [this]
  · have : (r.seq == q.seq) = false := by simpa using e
    simp [this]
theorem relF_stays {clk : Int} {left : Lit → Bool} {l : List Rel} (hnd : (rids l).Nodup) {q : Rel} (hq : q ∈ l) (he : ¬ q.ends ≤ clk) :
    relF clk left l = relF clk (fun z => left z && !z.sameKey (.int .i64 q.seq)) l := by
  unfold relF
  refine List.filter_congr (fun r hr => ?_)
  simp only [same_key]
  by_cases e : r.seq = q.seq
  · have := rel_one hnd hr hq e
    subst this
    have : decide (clk < r.ends) = true := by simp; omega
    simp [this]
  · have : (r.seq == q.seq) = false := by simpa using e
    simp [this]
/-- What comes out of the map is a relay. -/
theorem rel_of {D : DataW Value} {l : List Rel} (h : MapIs D (rPairs l)) {k : Int} {v : Value} (hat : ∀ zd, D.atKey (.int .i64 k) zd = .held v) : ∃ r ∈ l, r.seq = k ∧ v = r.v := by
  by_cases hk : k ∈ (rPairs l).map (·.1)
  · obtain ⟨p, hp, e⟩ := List.mem_map.1 hk
    obtain ⟨r, hr, rfl⟩ := List.mem_map.1 hp
    simp only at e
    subst e
    have := h.mem r.seq r.v (List.mem_map.2 ⟨r, hr, rfl⟩) (.held .nilIface)
    rw [hat] at this
    exact ⟨r, hr, rfl, by cases this; rfl⟩
  · have h1 := h.miss hk (.lit (.bool true))
    rw [hat] at h1
    cases h1
/-- The clock went on; relays that end are gone. -/
def Nd.ticked (x : Nd) : Nd := { x with clock := x.clock + 1, relays := x.relays.filter (fun r => decide (x.clock + 1 < r.ends)) }
theorem ticked_all {B : Int} {x : Nd} (h : Ok x) (hb : Bd B x) : Ok x.ticked ∧ Bd (B + 1) x.ticked := by
  unfold Nd.ticked
  have h1 : Ok { x with clock := x.clock + 1, relays := x.relays.filter (fun r => decide (x.clock + 1 < r.ends)) } :=
    { h.relaysOf (l := x.relays.filter (fun r => decide (x.clock + 1 < r.ends))) List.filter_sublist with
      rok := fun r hr => by
        obtain ⟨a, b, c, d, e⟩ := h.rok r (List.mem_filter.1 hr).1
        exact ⟨a, b, c, d, e.1, by show r.ends ≤ x.clock + 1 + 50; omega⟩
      prb := fun p hp => by
        obtain ⟨a, b, c⟩ := h.prb p hp
        exact ⟨a, b, c.1, by show p.start ≤ x.clock + 1; omega⟩
      due := fun m hm => by
        have := h.due m hm
        exact ⟨this.1, by show m.due ≤ x.clock + 1 + 500; omega⟩ }
  have hcl := hb.clock
  have k := hb.mono (C := B + 1) (by omega)
  exact ⟨h1, ⟨⟨by show 0 ≤ x.clock + 1; omega, by show x.clock + 1 ≤ B + 1; omega⟩, k.seq, k.dropped, k.lost, k.at_⟩⟩
/-- Some of them are told to be dead. -/
def Nd.dies (y : Nd) (l : List Mem) : Nd := l.foldl (fun y m => y.hear ⟨m.k.id, m.k.inc, 3⟩) y
theorem clocked_dies (x : Nd) : x.clocked = x.ticked.dies x.ticked.due := rfl
theorem dies_snoc (y : Nd) (l : List Mem) (m : Mem) : y.dies (l ++ [m]) = (y.dies l).hear ⟨m.k.id, m.k.inc, 3⟩ := by unfold Nd.dies; rw [List.foldl_append]; rfl
theorem mem_hear_keep {x : Nd} {k : K} {m : Mem} (h : m ∈ x.others) (hne : m.k.id ≠ k.id) : m ∈ (x.hear k).others := by
  have ht : m ∈ (x.taken k).others := putM_keep (m := ⟨k, x.clock + x.c.susp⟩) h hne
  unfold Nd.hear
  split
  · unfold Nd.refute; split <;> exact h
  · split
    · split
      · exact h
      · exact ht
    · split
      · exact ht
      · exact h
theorem dies_rev {B : Int} {y : Nd} (h : Ok y) (hb : Bd B y) (r : List Mem) : (∀ m ∈ r.reverse, m ∈ y.others) → Ok (y.dies r.reverse) ∧ Bd (B + r.reverse.length) (y.dies r.reverse) ∧ (y.dies r.reverse).ds = y.ds ∧ ∀ m ∈ y.others, m.k.id ∉ ids r.reverse → m ∈ (y.dies r.reverse).others := by
  induction r with
  | nil => exact fun _ => ⟨h, hb.mono (by simp), rfl, fun m hm _ => hm⟩
  | cons a r ih =>
    rw [List.reverse_cons]
    generalize r.reverse = r at ih
    intro hl
    obtain ⟨h1, h2, h3, h4⟩ := ih (fun m hm => hl m (List.mem_append_left _ hm))
    have ha := h.key a (hl a (by simp))
    rw [dies_snoc]
    have s := same_hear (y.dies r) ⟨a.k.id, a.k.inc, 3⟩
    refine ⟨h1.hear h2.clock.1 ⟨ha.1, ha.2.1, by show (1 : Int) ≤ 3 ∧ (3 : Int) ≤ 4; omega⟩, (h2.hear _).mono (by simp; omega), s.ds.trans h3, fun m hm hn => ?_⟩
    have hn1 : m.k.id ∉ ids r := fun e => hn (by unfold ids at *; rw [List.map_append]; exact List.mem_append_left _ e)
    have hn2 : m.k.id ≠ a.k.id := fun e => hn (by unfold ids; rw [List.map_append, e]; simp)
    exact mem_hear_keep (h4 m hm hn1) hn2
theorem dies_all {B : Int} {y : Nd} (h : Ok y) (hb : Bd B y) (l : List Mem) (hl : ∀ m ∈ l, m ∈ y.others) : Ok (y.dies l) ∧ Bd (B + l.length) (y.dies l) ∧ (y.dies l).ds = y.ds ∧ ∀ m ∈ y.others, m.k.id ∉ ids l → m ∈ (y.dies l).others := by
  have := dies_rev h hb l.reverse
  rw [List.reverse_reverse] at this
  exact this hl
theorem askAll_ds (p : Prb) : ∀ (n : Nat) (l : List Int) (x : Nd), (Nd.askAll p n l x).2.ds = x.ds := by
  intro n
  induction n with
  | zero => intro l x; rfl
  | succ n ih =>
    intro l x
    unfold Nd.askAll
    split
    · rfl
    · obtain ⟨k, e⟩ := draw_eq x l.length
      simp only
      rw [ih, (sameQ_sent _ _).ds, e]
theorem waits_len {z : Nd} (h : Ok z) : z.waits.1.length ≤ 3 := by
  have hcfg := cfg_bounds h.cfg
  unfold Nd.waits
  split
  · simp
  · rename_i p _
    simp only
    split
    · have := askAll_len p z.c.prox.toNat (z.helpers p) z
      omega
    · simp
theorem waits_ds (x : Nd) : x.waits.2.ds = x.ds := by
  unfold Nd.waits
  split
  · rfl
  · rename_i p hp
    simp only
    have h1 : ∀ y : Nd, (y.endProbe p).ds = y.ds := fun y => by
      unfold Nd.endProbe
      split
      · rfl
      · simp only
        split
        · rfl
        · split
          · exact (same_hear _ _).ds
          · rfl
    rw [h1]
    split
    · exact askAll_ds _ _ _ _
    · rfl
/-- A block of another type is none of the node's own. -/
theorem NodeAt.notTy {w : World} {a : Ad} {ov : Value} {x : Nd} (h : NodeAt w a ov x) {k : Nat} {c : Array Value} {t : TypeId} {f : Nat × Nat} (hk : w.heap[k]? = some (.cells c t f))
    (ht : t ≠ 79 ∧ t ≠ 106 ∧ t ≠ 93 ∧ t ≠ 3 ∧ t ≠ 89 ∧ t ≠ 22) : ¬ Owns a x k := by
  obtain ⟨t1, t2, t3, t4, t5, t6⟩ := ht
  have nc : ∀ {b : Nat} {cs : Array Value} {t' : TypeId} {g : Nat × Nat}, w.heap[b]? = some (.cells cs t' g) → t ≠ t' → k ≠ b := by
    rintro b cs t' g h1 ht rfl; rw [hk] at h1; simp only [Option.some.injEq, Obj.cells.injEq] at h1; exact ht h1.2.1
  have nm : ∀ {b : Nat} {o : Obj}, w.heap[b]? = some o → (∀ cs t f, o ≠ .cells cs t f) → k ≠ b := by
    rintro b o h1 hno rfl; rw [hk] at h1; exact hno _ _ _ (Option.some.inj h1).symm
  obtain ⟨es, n, hm⟩ := h.news.isMap
  obtain ⟨es1, n1, hb1⟩ := h.others.isMap
  obtain ⟨es2, n2, hb2⟩ := h.relays.isMap
  obtain ⟨s, r, hc⟩ := h.chan
  obtain ⟨cs, h0⟩ := h.blk.block
  intro ho
  rcases ho with e | e | e | e | e | e | ⟨m, hmm, e⟩ | e | ⟨hp, e⟩ | e | e | e
  · exact nc h0 t1 e
  · exact nm hb1 (by simp) e
  · exact nc h.queue t2 e
  · exact nm hm (by simp) e
  · exact nm hc (by simp) e
  · exact nm hb2 (by simp) e
  · exact nc (h.mems m hmm) t3 e
  · obtain ⟨cur, hg⟩ := h.pass.blk e; exact nc hg t4 rfl
  · obtain ⟨p, hp⟩ := Option.isSome_iff_exists.1 hp
    exact nc (h.prb p hp) t5 e
  · exact nc h.box1 t6 e
  · exact nc h.box2 t4 e
  · obtain ⟨cur, hg⟩ := h.ds.blk e; exact nc hg t4 rfl
end Go.Proofs.YtfngdplkcppabaaGreat
namespace Go.Proofs.YtfngdplkcppabaaGreat
open Go.RowKit
section
open Go.Shelf Go.Lib Go.Sort
set_option maxRecDepth 100000 in
theorem delI_any (l : List Int) (k : Nat) (hk : k < l.length) (hl : l.length < 1000000) (B : Nat) (a : Option Addr) (c : Nat) (w : World) (hrow : w.ownsRow B 3 1 (.slice a l.length c) l.length (l.map (Value.int .i64))) :
    Calls Tryz.prog 56 #[.slice a l.length c, .int .i64 (k : Nat), .int .i64 ((k + 1 : Nat) : Int)] w fun e w' =>
      e = .returned (.slice a (l.eraseIdx k).length c) ∧ w'.ownsRow B 3 1 (.slice a (l.eraseIdx k).length c) (l.eraseIdx k).length ((l.eraseIdx k).map (Value.int .i64)) ∧ Chg (fun j _ => (Value.slice a l.length c).ownBlock = some j) w w' := by
  rcases hrow.2 with ⟨e, e'⟩ | ⟨g, cap, cur, e, hB, hg, h1, h2, h3, h4⟩
  · omega
  · simp only [Value.slice.injEq] at e
    obtain ⟨rfl, _, rfl⟩ := e
    have hcur : ∀ j, j < l.length → cur[j]? = some (.int .i64 l[j]!) := fun j hj => by
      have h5 : (cur.toList.take (l.length * 1))[j]? = some (.int .i64 l[j]!) := by
        rw [h4, List.getElem?_map, List.getElem?_eq_getElem hj, getElem!_pos l j hj]; rfl
      rwa [List.getElem?_take, if_pos (by omega), Array.getElem?_toList] at h5
    have hH : Holds (Value.int .i64) w g 0 l.toArray := fun j hj => by
      have hj' : j < l.length := by simpa using hj
      refine ⟨?_, unfrozen hg _⟩
      rw [cells_at hg, Nat.zero_add, hcur j hj']
      simp
    obtain ⟨i0, hi, hz0, hz1, hz2⟩ := info_parts info_int
    have h := AnyE.slices_Delete layDelI (Value.int .i64) (fun _ => rfl) 0 (fun w => by kernel_rfl) i0 hi hz1 g 0 c k (k + 1) l.toArray w hH (by simpa using h1) (by unfold maxLen at h2; omega) (by omega) (by simp; omega)
    change Calls Tryz.prog 56 _ _ _ at h
    simp only [List.size_toArray] at h
    refine h.mono ?_
    rintro e w' ⟨rfl, q, rfl⟩
    have hel : (l.eraseIdx k).length = l.length - 1 := List.length_eraseIdx_of_lt hk
    have hee : l.eraseIdx k = l.take k ++ l.drop (k + 1) := List.eraseIdx_eq_take_drop_succ l k
    refine ⟨by rw [hel]; congr 2; omega, ⟨by simp, .inr ⟨g, c, _, rfl, hB, heap_putRow _ _ _ hg, by omega, h2, by simpa [putCells] using h3, ?_⟩⟩, (chg_putRow _ _ _ _ _ _).mono (fun j _ _ hj => by subst hj; rfl)⟩
    refine List.ext_getElem? (fun j => ?_)
    rw [List.getElem?_take]
    by_cases hj : j < (l.eraseIdx k).length
    · rw [if_pos (by omega), Array.getElem?_toList]
      have hjc : j < cur.size := by omega
      simp only [putCells, Array.getElem?_mapIdx, Array.getElem?_eq_getElem hjc, Option.map_some, Nat.sub_zero]
      have hlen : (l.take k ++ l.drop (k + 1)).length = l.length - 1 := by rw [← hee, hel]
      rw [if_pos ⟨Nat.zero_le _, by simp; omega⟩, List.getElem?_map, List.getElem?_eq_getElem hj]
      have h6 : (l.take k ++ l.drop (k + 1) ++ List.replicate (k + 1 - k) 0).toArray[j]! = (l.eraseIdx k)[j] := by
        rw [getElem!_pos _ j (by simp; omega)]
        simp only [List.getElem_toArray]
        rw [List.getElem_append_left (by omega)]
        simp only [hee]
      rw [h6]; rfl
    · rw [if_neg (by omega), List.getElem?_eq_none (by simpa using hj)]
end
/-- Whom to ask: of a member. -/
def askB (tgt : Int) (m : Mem) : Bool := here m && m.k.id != tgt
set_option maxRecDepth 100000 in
set_option maxHeartbeats 1000000 in
theorem wait1_any (b bx pb : Nat) (m : Mem) (tgt : Int) (w : World) (hm : w.heap[b]? = some (.cells (memCells m) 93 (0, 0))) (cx : w.cell? ⟨bx, 0, none⟩ = some (.pointer (some ⟨pb, 0, none⟩))) (cp : w.cell? ⟨pb, 0, none⟩ = some (.int .i64 tgt)) :
    Calls Tryz.prog 54 #[.pointer (some ⟨b, 0, none⟩), .pointer (some ⟨bx, 0, none⟩)] w fun e w' => e = .returned (.bool (askB tgt m)) ∧ ∃ q, w' = w.drewN q := by
  have m0 := cells_at hm 0
  have m2 := cells_at hm 2
  obtain ⟨⟨kid, kinc, kst⟩, kdue⟩ := m
  simp only [memCells, List.getElem?_toArray, List.getElem?_cons_succ, List.getElem?_cons_zero] at m0 m2
  clear hm
  unfold askB here
  simp only
  have HH : Hid (∀ W : World, W.heap = w.heap → Calls Tryz.prog 43 #[.pointer (some ⟨b, 0, none⟩)] W fun e w' => e = .returned (.bool (decide (kst ≤ 2))) ∧ w' = W) := Lib.hid (fun W hW => here_any b kst W (by rw [← m2]; unfold World.cell?; rw [hW]))
  cases h1 : decide (kst ≤ 2) with
  | false =>
    rw [h1] at HH
    go_enter Tryz.func54, Tryz.ntmps54
    go_wp2
    go_quiet ((go_at_call 43; exact Calls.quiet_of_same (HH.out _ rfl)))
    go_wp2
    go_ret
    exact ⟨by simp, _, rfl⟩
  | true =>
    rw [h1] at HH
    go_enter Tryz.func54, Tryz.ntmps54
    go_wp2
    go_quiet ((go_at_call 43; exact Calls.quiet_of_same (HH.out _ rfl)))
    go_wp2
    go_ret
    exact ⟨by simp, _, rfl⟩
theorem eg_wait1 : ∀ args w, (callFunc 54 args).run Tryz.prog w = .ok (.enter 54 args) w := enters_of Tryz.func54 (by kernel_rfl) rfl
/-- The probe is over. -/
theorem turned_over {w : World} {a : Ad} {ov : Value} {x : Nd} (h : NodeAt w a ov x) : Turned ov w a x (w.setCell ⟨a.b, 16, none⟩ (.pointer none)) a { x with probe := none } := by
  have hc : Chg (fun j _ => j = a.b) w (w.setCell ⟨a.b, 16, none⟩ (.pointer none)) := (Chg.refl _ w).setCell _ (fun _ _ => rfl)
  have e := apart_of_chg hc
  obtain ⟨es, n, hm⟩ := h.news.isMap
  obtain ⟨es1, n1, hb1⟩ := h.others.isMap
  obtain ⟨es2, n2, hb2⟩ := h.relays.isMap
  obtain ⟨s, r, hch⟩ := h.chan
  obtain ⟨cs, h0⟩ := h.blk.block
  have nt : ∀ {b : Nat} {cs' : Array Value} {t : TypeId} {f : Nat × Nat}, w.heap[b]? = some (.cells cs' t f) → t ≠ 79 → b ≠ a.b := by
    rintro b cs' t f h1 ht rfl; rw [h1] at h0; simp only [Option.some.injEq, Obj.cells.injEq] at h0; exact ht h0.2.1
  have nm : ∀ {b : Nat} {o : Obj}, w.heap[b]? = some o → (∀ cs t f, o ≠ .cells cs t f) → b ≠ a.b := by
    rintro b o h1 hno rfl; rw [h1] at h0; exact hno _ _ _ (Option.some.inj h0)
  refine ⟨{ h with
      blk := (h.blk.set (i := 16) (by omega) (.pointer none)).congr (by (intro i hi; rcases i with _ | _ | _ | _ | _ | _ | _ | _ | _ | _ | _ | _ | _ | _ | _ | _ | _ | _ | _ | _ | _ | _ | _ | _ | _ | _ | _ | i <;> first | rfl | exact absurd hi (by omega)))
      others := h.others.heap (e.at hb1 (nm hb1 (by simp)))
      mems := fun m hm => (e.at (h.mems m hm) (nt (h.mems m hm) (by decide))).trans (h.mems m hm)
      queue := (e.at h.queue (nt h.queue (by decide))).trans h.queue
      news := h.news.heap (e.at hm (nm hm (by simp)))
      chan := ⟨s, r, (e.at hch (nm hch (by simp))).trans hch⟩
      pass := h.pass.heap (fun k hk => by obtain ⟨cur, hg⟩ := h.pass.blk hk; exact e.at hg (nt hg (by decide)))
      prb := fun p hp => by cases hp
      relays := h.relays.heap (e.at hb2 (nm hb2 (by simp)))
      box1 := (e.at h.box1 (nt h.box1 (by decide))).trans h.box1
      box2 := (e.at h.box2 (nt h.box2 (by decide))).trans h.box2
      ds := h.ds.heap (fun k hk => by obtain ⟨cur, hg⟩ := h.ds.blk hk; exact e.at hg (nt hg (by decide))) }, hc.mono (fun _ _ _ e => .inl e), fun k hk => .inl ?_, rfl⟩
  rcases hk with e | e | e | e | e | e | e | e | ⟨e, _⟩ | e
  · exact .inl e
  · exact .inr (.inl e)
  · exact .inr (.inr (.inl e))
  · exact .inr (.inr (.inr (.inl e)))
  · exact .inr (.inr (.inr (.inr (.inl e))))
  · exact .inr (.inr (.inr (.inr (.inr (.inl e)))))
  · exact .inr (.inr (.inr (.inr (.inr (.inr (.inl e))))))
  · exact .inr (.inr (.inr (.inr (.inr (.inr (.inr (.inl e)))))))
  · cases e
  · exact .inr (.inr (.inr (.inr (.inr (.inr (.inr (.inr (.inr e))))))))
end Go.Proofs.YtfngdplkcppabaaGreat
