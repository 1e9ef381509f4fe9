/-
  node.hear: the ways on which nothing is written but by refute.
  What sorts the members, and the news.
  maps.Values's iterator. (Printed by seq.py.)
  slices.AppendSeq's round. (Printed by seq.py.)
  slices.AppendSeq, slices.Collect over maps.Values. (Printed by seq.py.)
  maps.Values's iterator. (Printed by seq.py.)
-/
import Derived.Test.YtfngdplkcppabaaGreatPart05
import Derived.Shelf.SlSortCmp.NoneTotal
import Derived.Test.YtfngdplkcppabaaGreatPart04
import Derived.Lib.SlKeysI
import Derived.RangeFuncGives
import Derived.Sort.MapsRangeIn
import Derived.LoopIn
import Derived.Maps.AppendAt
import Derived.Shelf.SlIterI.Collect
set_option linter.all false
namespace Go.Proofs.YtfngdplkcppabaaGreat
open Go.RowKit

theorem Turned.below {w w' : World} {a : Ad} {ov : Value} {x : Nd} (h : NodeAt w a ov x) (hb : Below w.heap.size w w') : Turned ov w a x w' a x :=
  ⟨h.below hb, chg_of_below hb, fun _ => .inl, rfl⟩
theorem wf_id {n : Int} (h : idOk n) : (Lit.int .i64 n).wf = true := wf_of_fits (by unfold fitsI idOk at *; omega)
theorem mem_mPairs {a : Ad} {l : List Mem} {m : Mem} (h : m ∈ l) : (m.k.id, Value.pointer (some ⟨a.mem m.k.id, 0, none⟩)) ∈ mPairs a l := List.mem_map.2 ⟨m, h, rfl⟩
theorem zero_ptr (w : World) : (zeroValue 83).run Tryz.prog w = .ok (.pointer none) w := by kernel_rfl
theorem look_other {w : World} {a : Ad} {ov : Value} {x : Nd} (h : NodeAt w a ov x) {id : Int} (hid : idOk id) :
    (∀ m, findM x.others id = some m → (Instr.lookup 71 (.map (some a.bo)) (.int .i64 id) false).run Tryz.prog w = .ok (.pointer (some ⟨a.mem id, 0, none⟩)) w) ∧
    (findM x.others id = none → (Instr.lookup 71 (.map (some a.bo)) (.int .i64 id) false).run Tryz.prog w = .ok (.pointer none) w) := by
  obtain ⟨h1, h2⟩ := h.others.look Tryz.underlying3 Tryz.underlying71 zero_ptr id (wf_id hid)
  refine ⟨fun m hm => ?_, fun hn => ?_⟩
  · obtain ⟨hm', e⟩ := findM_some hm
    subst e
    exact (h1 _ (mem_mPairs hm')).1
  · refine (h2 ?_).1
    have := findM_none hn
    simpa [mPairs, ids] using this
theorem len_other {w : World} {a : Ad} {ov : Value} {x : Nd} (h : NodeAt w a ov x) (ty : TypeId) :
    (Builtin.len_ #[71] ty #[.map (some a.bo)]).run Tryz.prog w = .ok (.int .i64 (x.others.length : Nat)) w := by
  have := h.others.len Tryz.underlying71 ty
  rwa [show (mPairs a x.others).length = x.others.length by simp [mPairs]] at this

set_option maxRecDepth 100000 in
set_option maxHeartbeats 1000000 in
theorem hear_self {x : Nd} (ho : Ok x) {B : Int} (hb : Bd B x) (hB : B ≤ 1000000000000) (a : Ad) (ov : Value) (k : K) (hk : keyOk k) (w : World) (h : NodeAt w a ov x) (hid : k.id = x.self.id) :
    Calls Tryz.prog 24 #[.pointer (some ⟨a.b, 0, none⟩), .agg #[.int .i64 k.id, .int .i64 k.inc, .int .i64 k.st]] w fun e w' =>
      e = .returned (.tuple #[]) ∧ Turned ov w a x w' a (x.refute k) := by
  have c7 : ∀ o, (w.alloc o).cell? ⟨a.b, 7, none⟩ = some (.int .i64 x.self.id) := fun o => (h.blk.alloc o).cell (by omega)
  obtain ⟨kid, kinc, kst⟩ := k
  simp only at hid
  subst hid
  have T := Lib.hid (fun o n => Turned.drewN (Turned.alloc h o) n)
  have HO := Lib.hid ho
  have HB := Lib.hid hb
  have HK := Lib.hid hk
  clear h ho hb hk
  go_enter Tryz.func24, Tryz.ntmps24
  go_wp2
  go_quiet (fail)
  go_wp2_with (go_at_call 41; refine (refute_any HO.out HB.out hB a ov ⟨x.self.id, kinc, kst⟩ HK.out _ (T.out _ _).node).mono ?_; rintro e w2 ⟨rfl, hT2⟩)
  ((try simp only [Exit.inBlock, Exit.then]); first | refine bodyPost_ret (results_none rfl _ _ _) rfl ?_ | refine bodyPost_end (results_none rfl _ _ _) rfl ?_)
  exact ⟨rfl, (T.out _ _).trans hT2⟩

set_option maxRecDepth 100000 in
set_option maxHeartbeats 1000000 in
theorem hear_full {x : Nd} (a : Ad) (ov : Value) (k : K) (hk : keyOk k) (w : World) (h : NodeAt w a ov x) (hid : (k.id == x.self.id) = false) (hf : findM x.others k.id = none) (hl : x.others.length = 7) :
    Calls Tryz.prog 24 #[.pointer (some ⟨a.b, 0, none⟩), .agg #[.int .i64 k.id, .int .i64 k.inc, .int .i64 k.st]] w fun e w' =>
      e = .returned (.tuple #[]) ∧ Turned ov w a x w' a x := by
  obtain ⟨kid, kinc, kst⟩ := k
  simp only at hid hf ⊢
  have T := Lib.hid (fun o n => Turned.drewN (Turned.alloc h o) n)
  have c7 : ∀ o, (w.alloc o).cell? ⟨a.b, 7, none⟩ = some (.int .i64 x.self.id) := fun o => (h.blk.alloc o).cell (by omega)
  have c10 : ∀ o, (w.alloc o).cell? ⟨a.b, 10, none⟩ = some (.map (some a.bo)) := fun o => (h.blk.alloc o).cell (by omega)
  have hlk : ∀ o n, (Instr.lookup 71 (.map (some a.bo)) (.int .i64 kid) false).run Tryz.prog ((w.alloc o).drewN n) = .ok (.pointer none) ((w.alloc o).drewN n) := fun o n => (look_other (T.out o n).node hk.1).2 hf
  have hln : ∀ o n ty, (Builtin.len_ #[71] ty #[.map (some a.bo)]).run Tryz.prog ((w.alloc o).drewN n) = .ok (.int .i64 7) ((w.alloc o).drewN n) := fun o n ty => by rw [len_other (T.out o n).node ty, hl]; rfl
  clear h hf hl
  go_enter Tryz.func24, Tryz.ntmps24
  go_wp2
  go_quiet (fail)
  go_wp2
  go_quiet (fail)
  go_wp2
  ((try simp only [Exit.inBlock, Exit.then]); first | refine bodyPost_ret (results_none rfl _ _ _) rfl ?_ | refine bodyPost_end (results_none rfl _ _ _) rfl ?_)
  exact ⟨rfl, T.out _ _⟩

set_option maxRecDepth 100000 in
set_option maxHeartbeats 1000000 in
theorem hear_old {x : Nd} (a : Ad) (ov : Value) (k : K) (hk : keyOk k) (w : World) (h : NodeAt w a ov x) (hid : (k.id == x.self.id) = false) (m : Mem) (hf : findM x.others k.id = some m) (hl : lessK m.k k = false) :
    Calls Tryz.prog 24 #[.pointer (some ⟨a.b, 0, none⟩), .agg #[.int .i64 k.id, .int .i64 k.inc, .int .i64 k.st]] w fun e w' =>
      e = .returned (.tuple #[]) ∧ Turned ov w a x w' a x := by
  obtain ⟨hm, hme⟩ := findM_some hf
  have hmem := h.mems m hm
  rw [hme] at hmem
  have m0 := cells_at hmem 0
  have m1 := cells_at hmem 1
  have m2 := cells_at hmem 2
  simp only [memCells, List.getElem?_toArray, List.getElem?_cons_succ, List.getElem?_cons_zero] at m0 m1 m2
  obtain ⟨kid, kinc, kst⟩ := k
  obtain ⟨⟨mid, minc, mst⟩, mdue⟩ := m
  simp only at hid hf hl m0 m1 m2 ⊢
  obtain ⟨o, hoe⟩ : ∃ o, (Obj.cells #[.int .i64 kid, .int .i64 kinc, .int .i64 kst] 31) = o := ⟨_, rfl⟩
  obtain ⟨w1, hw1⟩ : ∃ w1, w.alloc o = w1 := ⟨_, rfl⟩
  have T := Lib.hid (fun n => Turned.drewN (Turned.alloc h o) n)
  rw [hw1] at T
  have hx1 : w1.heap[w.heap.size]? = some o := by rw [← hw1]; exact heap_alloc_eq w _
  rw [← hoe] at hx1
  have d0 := cells_at hx1 0
  have d1 := cells_at hx1 1
  have d2 := cells_at hx1 2
  simp only [List.getElem?_toArray, List.getElem?_cons_succ, List.getElem?_cons_zero] at d0 d1 d2
  have c7 : w1.cell? ⟨a.b, 7, none⟩ = some (.int .i64 x.self.id) := (T.out 0).node.blk.cell (by omega)
  have c10 : w1.cell? ⟨a.b, 10, none⟩ = some (.map (some a.bo)) := (T.out 0).node.blk.cell (by omega)
  have hlt := heap_lt hmem
  have n0 : w1.cell? ⟨a.mem kid, 0, none⟩ = some (.int .i64 mid) := by rw [← hw1, World.cell?_alloc_lt _ _ _ hlt]; exact m0
  have n1 : w1.cell? ⟨a.mem kid, 1, none⟩ = some (.int .i64 minc) := by rw [← hw1, World.cell?_alloc_lt _ _ _ hlt]; exact m1
  have n2 : w1.cell? ⟨a.mem kid, 2, none⟩ = some (.int .i64 mst) := by rw [← hw1, World.cell?_alloc_lt _ _ _ hlt]; exact m2
  have hlk : ∀ n, (Instr.lookup 71 (.map (some a.bo)) (.int .i64 kid) false).run Tryz.prog (w1.drewN n) = .ok (.pointer (some ⟨a.mem kid, 0, none⟩)) (w1.drewN n) := fun n => (look_other (T.out n).node hk.1).1 _ hf
  have HW1 := Lib.hid hw1
  have HOE := Lib.hid hoe
  have HL := Lib.hid hl
  clear h hf hl hmem m0 m1 m2 hw1 hoe hx1 hlt hme
  go_enter Tryz.func24, Tryz.ntmps24
  go_wp2
  rw [HOE.out, HW1.out]
  go_quiet (fail)
  go_wp2
  go_quiet (fail)
  go_wp2
  (refine wp_tail 5 (by kernel_rfl) (by kernel_rfl) ?_; simp only [List.take_succ_cons, List.take_zero, List.drop_succ_cons, List.drop_zero])
  iterate 5 still_step
  refine wpStill_nil ?_
  go_wp2_with (go_at_call 42; refine (less_any ⟨mid, minc, mst⟩ ⟨kid, kinc, kst⟩ _).mono ?_; rintro e w2 ⟨rfl, hb2⟩; rw [HL.out])
  ((try simp only [Exit.inBlock, Exit.then]); first | refine bodyPost_ret (results_none rfl _ _ _) rfl ?_ | refine bodyPost_end (results_none rfl _ _ _) rfl ?_)
  exact ⟨rfl, (T.out _).trans (.below (T.out _).node hb2)⟩
end Go.Proofs.YtfngdplkcppabaaGreat
namespace Go.Proofs.YtfngdplkcppabaaGreat
open Go.RowKit

set_option maxRecDepth 100000 in
set_option maxHeartbeats 1000000 in
theorem cmpT_any (b1 b2 : Nat) (i1 i2 : Int) (w : World) (h1 : w.cell? ⟨b1, 0, none⟩ = some (.int .i64 i1)) (h2 : w.cell? ⟨b2, 0, none⟩ = some (.int .i64 i2)) :
    Calls Tryz.prog 49 #[.pointer (some ⟨b1, 0, none⟩), .pointer (some ⟨b2, 0, none⟩)] w fun e w' => e = .returned (.int .i64 (cmpI i1 i2)) ∧ ∃ q, w' = w.drewN q := by
  go_enter Tryz.func49, Tryz.ntmps49
  go_wp2
  go_quiet ((go_at_call 50; refine Calls.quiet_of_same (compare_any _ _ _)))
  go_wp2
  go_ret
  exact ⟨rfl, _, rfl⟩
set_option maxRecDepth 100000 in
set_option maxHeartbeats 1000000 in
theorem cmpQ_any (u v : Upd) (w : World) :
    Calls Tryz.prog 76 #[u.v, v.v] w fun e w' => e = .returned (.int .i64 (orI (cmpI u.sent v.sent) (cmpI u.k.id v.k.id))) ∧ ∃ q os, w' = Sort.grow (w.drewN q) os := by
  obtain ⟨⟨u1, u2, u3⟩, u4⟩ := u
  obtain ⟨⟨v1, v2, v3⟩, v4⟩ := v
  simp only [Upd.v]
  have hn : ∀ o1 o2 o3, (((w.alloc o1).alloc o2).alloc o3).drew.heap[w.heap.size + 1 + 1]? = some o3 := fun o1 o2 o3 => heap_new _ _ (by simp)
  go_enter Tryz.func76, Tryz.ntmps76
  go_wp2
  (refine wp_tail 12 (by kernel_rfl) (by kernel_rfl) ?_; simp only [List.take_succ_cons, List.take_zero, List.drop_succ_cons, List.drop_zero])
  iterate 4 still_step
  still_call (compare_any _ _ _)
  iterate 6 still_step
  still_call (compare_any _ _ _)
  refine wpStill_nil ?_
  go_wp2_with (go_at_call 60; refine (or_any (cmpI u4 v4) (cmpI u1 v1) _ _ (hn _ _ _)).mono ?_; rintro e w2 ⟨rfl, rfl⟩)
  go_ret
  refine ⟨rfl, 1, #[_, _, _], rfl⟩
end Go.Proofs.YtfngdplkcppabaaGreat
namespace Go.Proofs.YtfngdplkcppabaaGreat
open Go.RowKit Go.Maps
def encT (n : Nat) : Value := .pointer (some ⟨n, 0, none⟩)
theorem encT_inj {a b : Nat} (h : encT a = encT b) : a = b := by simpa [encT] using h
theorem nodup_of_mapT {β γ : Type} {f : β → γ} {l : List β} (h : (l.map f).Nodup) : l.Nodup := by
  induction l with
  | nil => simp
  | cons a r ih =>
    simp only [List.map_cons, List.nodup_cons] at h ⊢
    exact ⟨fun hm => h.1 (List.mem_map.2 ⟨a, hm, rfl⟩), ih h.2⟩
set_option maxRecDepth 100000 in
set_option maxHeartbeats 1000000 in
theorem vals1T (n : Nat) (hn : 1 ≤ n) (l Bm b nn : Nat) (D0 : DataW Value) (L : List (Int × Value)) (hM : MapIs D0 L) (hE : ∀ p ∈ L, ∃ y : Nat, p.2 = encT y) (J : List Nat → World → Prop)
    (hY : ∀ pre x W, J pre W → pre.length < L.length → YieldAt Fence.wide (n - 1) Tryz.prog l #[encT x] W fun e W' => e = .returned (.bool true) ∧ J (pre ++ [x]) W' ∧ KeepsWalks W W')
    (W : World) (hJ : AbidesFrom W.heap.size J) (hm : W.cell? ⟨Bm, 0, none⟩ = some (.map (some b))) (hown : W.ownsMap Tryz.prog 3 RV b nn D0) (h0 : J [] W) :
    CallsIn Fence.wide n Tryz.prog 65 #[.func (.yield l) #[] #[], .pointer (some ⟨Bm, 0, none⟩)] W fun e W' => (∃ v, e = .returned v) ∧ ∃ ps : List (Int × Nat), (ps.map (fun p => (p.1, encT p.2))).Perm L ∧ J (ps.map (·.2)) W' := by
  have KI := int_keyed (P := Tryz.prog) Tryz.underlying3
  have hin : ∀ (x : Int) (c : Value), (∀ zd, D0.atKey (.int .i64 x) zd = .held c) → (x, c) ∈ L := fun x c hat => by
    have hh : Maps.has D0 (.int .i64 x) = true := has_true_of_atKey hat
    obtain ⟨p, hp, rfl⟩ := List.mem_map.1 ((hM.has x).1 hh)
    have e := hM.mem p.1 p.2 hp (.held c)
    rw [hat] at e
    cases e
    exact hp
  refine callsIn_of_wp Tryz.func65 rfl trivial ?_ rfl
  simp only [Tryz.ntmps65, List.size_toArray, List.length_cons, List.length_nil, Nat.reduceAdd, Nat.reduceSub, Array.replicate_succ, Array.replicate_zero, List.push_toArray, List.append_toArray, List.nil_append, List.cons_append]
  gi_wp2_with (first
    | (gi_at_range; refine wpListIn_range_own _ rfl _ 71 rfl 3 83 KI Tryz.underlying71 _ b nn _ rfl hown ?_; intro w0 hrg0 hg0 hs0)
    | gi_in)
  go_frame
  gi_loopw [4] (fun _ wr => ∃ (left : Lit → Bool) (cnt : Nat) (ps : List (Int × Nat)), wr.ranges Tryz.prog 3 RV b W.heap.size nn D0 left cnt ∧ ps.length + cnt ≤ Maps.size D0 ∧ CollectedI D0 left (ps.map (·.1)) ∧ (∀ p ∈ ps, (p.1, encT p.2) ∈ L) ∧ J (ps.map (·.2)) wr)
    (fun _ wr => wr.rangeLeft b W.heap.size)
  case atStart =>
    exact ⟨_, _, [], hrg0, by simp, CollectedI.start D0, by simp, hJ [] W w0 none h0 hg0 (fun r e => by cases e)⟩
  case round =>
    obtain ⟨left, cnt, ps, hrg, hcs, hC, hV, hJs⟩ := hrel
    gi_wp2_with (first
      | (gi_at_next; refine wpListIn_next_ranges _ rfl _ rfl 3 KI RV (Value.int .i64) id (fun key kl hk => by obtain ⟨x, hx, _⟩ := Maps.keyOf_i64 Tryz.underlying3 hk; exact ⟨x, hx⟩) (fun v _ _ => ⟨v, rfl⟩) b W.heap.size nn _ _ _ rfl hrg ?_ ?_)
      | gi_in)
    · intro hc0 hl0
      gi_wp2
      go_end0
      have hk : ∀ x, x ∈ ps.map (·.1) ↔ x ∈ L.map (·.1) := fun x => by rw [hC.2 x, hl0, ← hM.has x]; simp
      refine ⟨⟨_, rfl⟩, ps, ?_, hJs⟩
      have hnd : (ps.map (fun p => (p.1, encT p.2))).Nodup := by
        have h1 : ((ps.map (fun p => (p.1, encT p.2))).map (·.1)).Nodup := by rw [List.map_map]; exact hC.1
        exact nodup_of_mapT h1
      refine (List.perm_ext_iff_of_nodup hnd (nodup_of_mapT hM.nd)).2 (fun p => ⟨fun hp => ?_, fun hp => ?_⟩)
      · obtain ⟨q, hq, rfl⟩ := List.mem_map.1 hp
        exact hV q hq
      · obtain ⟨q, hq, e⟩ := List.mem_map.1 ((hk p.1).2 (List.mem_map.2 ⟨p, hp, rfl⟩))
        have h1 := hM.mem _ _ (hV q hq) (.held (.int .i64 0))
        have h2 := hM.mem _ _ hp (.held (.int .i64 0))
        rw [e, h2] at h1
        injection h1 with h1
        exact List.mem_map.2 ⟨q, hq, Prod.ext e h1.symm⟩
    · intro x c kl yd yp w2 cnt2 hkey hlk hv hat hrg2 hlt hg2 hs2 hen
      obtain ⟨x', ex, rfl, _⟩ := Maps.keyOf_i64 Tryz.underlying3 hkey
      obtain rfl : x = x' := by simpa using ex
      obtain rfl : yd = .held c := by simpa [RV] using (congrArg (Option.map (·.1)) hv).symm
      obtain ⟨y, hy⟩ := hE _ (hin x c hat)
      simp only at hy
      subst hy
      have hJ2 : J (ps.map (·.2)) w2 := hJ _ wr w2 (some W.heap.size) hJs hg2 (fun r e => by cases e; exact ⟨Nat.le_refl _, hrg.iter_walk⟩)
      obtain ⟨fn, tmps, assign, body, hy, hR⟩ := hY (ps.map (·.2)) y w2 hJ2 (by have := hM.size; simp; omega)
      clear hs2
      have hmem := hin x (encT y) hat
      gi_wp2
      refine hR.mono ?_
      have hC2 : CollectedI D0 (fun z => left z && !z.sameKey (.int .i64 x)) ((ps ++ [(x, y)]).map (·.1)) := by simpa using hC.step hlk hat
      have hV2 : ∀ p ∈ ps ++ [(x, y)], (p.1, encT p.2) ∈ L := fun p hp => (List.mem_append.1 hp).elim (hV p) (fun e => by simp at e; subst e; exact hmem)
      rintro e W3 ⟨rfl, hJ3, hk3⟩
      gi_wp2
      have hrg3 := hrg2.of_walks hk3
      go_roundw
      case rel => exact ⟨_, cnt2, ps ++ [(x, y)], hrg3, by simp; omega, hC2, hV2, by simpa using hJ3⟩
      case measure => rw [hrg3.left_eq, hrg.left_eq]; exact hlt
end Go.Proofs.YtfngdplkcppabaaGreat
namespace Go.Proofs.YtfngdplkcppabaaGreat
open Go.RowKit Go.Maps
def cellsT (x : Nat) : List Value := [encT x]
def asgT : Code := .region 2 #[{ dst := some 5, op := Op.assign (Operand.tmp 7), type := 83, pos := "iter.go:51", after := #[], guard := none }] false
def bdyT : Code :=
  .block 1 (.region 3
    #[{ dst := some 8, op := Op.load 84 (Operand.tmp 2), type := 84, pos := "iter.go:52", after := #[], guard := none },
      { dst := some 9, op := Op.move (Operand.tmp 5), type := 83, pos := "iter.go:52", after := #[], guard := none },
      { dst := some 10, op := Op.buildSlice 84 1 #[(0, Operand.tmp 9)], type := 84, pos := "iter.go:52", after := #[{ on := 1, ground := Ground.data }], guard := none },
      { dst := some 11, op := Op.call { callee := Callee.builtin Builtin.append, args := #[Operand.tmp 8, Operand.tmp 10], argTypes := #[84, 84] }, type := 84, pos := "iter.go:52", after := #[{ on := 0, ground := Ground.data }, { on := 2, ground := Ground.data }], guard := none },
      { dst := none, op := Op.store 84 (Operand.tmp 2) (Operand.tmp 11), type := 0, pos := "iter.go:52",
        after := #[{ on := 3, ground := Ground.data }, { on := 3, ground := Ground.chain }, { on := 0, ground := Ground.phase }, { on := 1, ground := Ground.phase }, { on := 2, ground := Ground.phase }, { on := 3, ground := Ground.phase }], guard := none }] false)
def recT (fn : FuncId) (sv : Value) (Bs D : Nat) (st : LoopState) : Loop :=
  { state := st, pending := none, fn, tmps := #[.slice none 0 0, sv, .pointer (some ⟨Bs, 0, none⟩), undef, .slice none 0 0, undef, sv, undef, undef, undef, undef, undef, undef], params := #[7], assign := asgT, body := bdyT, defers := D }
/-- Between two rounds: the box has what has come. -/
structure GathT (w0 : World) (fn : FuncId) (sv : Value) (Bs l D : Nat) (ss : List Nat) (W : World) : Prop where
  box : ∃ v, W.heap[Bs]? = some (.cells #[v] 84 (0, 0)) ∧ W.ownsRow w0.heap.size 83 1 v ss.length (ss.flatMap cellsT) ∧ (v = .slice none 0 0 ↔ ss = [])
  loop : W.heap[l]? = some (.loop (recT fn sv Bs D .ready))
  defd : W.heap[D]? = some (.deferred (some []))
  below : Below w0.heap.size w0 W
theorem gath_abidesT (w0 : World) (fn : FuncId) (sv : Value) (Bs l D B : Nat) (hB : w0.heap.size ≤ B) : AbidesFrom B (GathT w0 fn sv Bs l D) := fun s W W' row h hg hrow => by
  have hrow' : ∀ r, row = some r → ∃ o : Obj, W.heap[r]? = some o ∧ o.isWalk = true := fun r e => (hrow r e).2
  obtain ⟨v, hv, hr, hn⟩ := h.box
  exact ⟨⟨v, (grownBy_keeps hg hrow' hv rfl).trans hv, ownsRow_abides_a hr hg hrow', hn⟩, (grownBy_keeps hg hrow' h.loop rfl).trans h.loop, (grownBy_keeps hg hrow' h.defd rfl).trans h.defd,
    h.below.grown hg h.below.size (fun k e => Nat.le_trans hB (hrow k e).1)⟩
theorem info_elT : (Tryz.prog.info? 83).map (fun i => (i.zero, i.size, i.bytes)) = some (some (.pointer none), 1, 8) := by kernel_rfl
set_option maxRecDepth 100000 in
set_option maxHeartbeats 2000000 in
theorem roundT (m : Nat) (w0 : World) (fn : FuncId) (sv : Value) (Bs l D : Nat) (hBl : Bs ≠ l) (hDl : D ≠ l) (hDB : D ≠ Bs) (h0B : w0.heap.size ≤ Bs) (h0l : w0.heap.size ≤ l) (ss : List Nat) (x : Nat) (W : World) (h : GathT w0 fn sv Bs l D ss W) (hlen : ss.length < 1000000) :
    YieldAt Fence.wide m Tryz.prog l #[encT x] W fun e W' => e = .returned (.bool true) ∧ GathT w0 fn sv Bs l D (ss ++ [x]) W' ∧ KeepsWalks W W' := by
  have hne : (84 : Nat) ≠ 83 := by decide
  obtain ⟨i0, hi, hz0, hz1, hz2⟩ := info_parts info_elT
  refine ⟨fn, #[.slice none 0 0, sv, .pointer (some ⟨Bs, 0, none⟩), undef, .slice none 0 0, undef, sv, encT x, undef, undef, undef, undef, undef], asgT, bdyT, by simpa [recT] using run_yield (P := Tryz.prog) (args := #[encT x]) h.loop rfl, roundIn_of_wpIn trivial ?_⟩
  obtain ⟨v, hv, hrow, _⟩ := h.box
  have hl : l < W.heap.size := heap_lt h.loop
  have hbr := run_beginRound (P := Tryz.prog) h.loop rfl
  obtain ⟨W2, hW2⟩ : ∃ W2, W.putObj l (.loop { recT fn sv Bs D .ready with state := .busy }) = W2 := ⟨_, rfl⟩
  rw [hW2] at hbr
  have hg2 : W.grownBy W2 (some l) := by rw [← hW2]; exact grownBy_putObj_a _ _ _
  have hk2 : KeepsWalks W W2 := by rw [← hW2]; exact KeepsWalks.putObj _ h.loop rfl
  have hv2 : W2.heap[Bs]? = some (.cells #[v] 84 (0, 0)) := by rw [← hW2]; exact (World.putObj_heap_other hBl).trans hv
  have hK2 : W2.heap[D]? = some (.deferred (some [])) := by rw [← hW2]; exact (World.putObj_heap_other hDl).trans h.defd
  have hL2 : W2.heap[l]? = some (.loop { recT fn sv Bs D .ready with state := .busy }) := by rw [← hW2]; exact World.putObj_heap_same hl
  have hrow2 : W2.ownsRow w0.heap.size 83 1 v ss.length (ss.flatMap cellsT) := hrow.kept hg2 (ownsRow_ne_a hrow h.loop (fun cur e => by cases e))
  have hb2 : Below w0.heap.size w0 W2 := h.below.grown hg2 h.below.size (fun k e => by cases e; exact h0l)
  clear hW2
  unfold asgT
  gi_wp2_with gi_round_op_a
  obtain ⟨hc2, hf2⟩ := cell_of_box_a hv2
  have hBlt : Bs < W2.heap.size := heap_lt hv2
  have hl2 : l < W2.heap.size := heap_lt hL2
  have hDlt : D < W2.heap.size := heap_lt hK2
  have hs2 := hb2.size
  have ne_of : ∀ {j : Nat} {o : Obj}, W2.heap[j]? = some o → (∀ cur, o ≠ .cells cur 83 (0, 0)) → some j ≠ v.ownBlock := fun hj hno => by
    rcases ownsRow_ne_a hrow2 hj hno with e | e
    · rw [e]; simp
    · exact fun e' => e e'.symm
  unfold bdyT
  have hnews : ∀ j u, (cellsT x)[j]? = some u → (W2.alloc (.cells (cellsT x).toArray 83)).cell? ((⟨W2.heap.size, 0, none⟩ : Addr).add j) = some u := cells_new W2 (cellsT x) 83 rfl
  have hone : ∀ u ∈ cellsT x, u.oneCell' = true := by simp [cellsT, encT, Value.oneCell']
  have b1 : ss.length + 1 ≤ maxLen := by unfold maxLen; omega
  have b2 : (ss.length + 1) * 8 ≤ 140737488355328 := by omega
  simp only [encT]
  gi_wp2_with (first
    | (gi_at_builtin; refine wpListIn_append_own _ rfl _ _ 84 rfl w0.heap.size 83 i0 (.pointer none) 1 8 Tryz.underlying84 hi hz0 hz1 hz2 rfl (by decide) _ _ _ rfl (hrow2.alloc _) ⟨W2.heap.size, 0, none⟩ 1 1 (cellsT x) rfl rfl hnews hone b1 b2 (by simp; omega) ?_; intro v' w3 hown' hg3 hnil3
       have hv3 : w3.heap[Bs]? = some (.cells #[v] 84 (0, 0)) := (hg3.block Bs (by simp; omega) (ne_of hv2 (fun cur e => by first | cases e | exact hne (Obj.cells.inj e).2.1))).trans ((Below.heap_alloc _ _ Bs hBlt).trans hv2)
       obtain ⟨hc3, hf3⟩ := cell_of_box_a hv3
       obtain ⟨g', cap', cur', rfl, hbase', hgb', hr1, hr2, hr3, hr4⟩ : ∃ g' cap' cur', v' = .slice (some ⟨g', 0, none⟩) (ss.length + 1) cap' ∧ w0.heap.size ≤ g' ∧ w3.heap[g']? = some (.cells cur' 83 (0, 0)) ∧ ss.length + 1 ≤ cap' ∧ cap' ≤ maxLen ∧ cur'.size = cap' * 1 ∧ cur'.toList.take ((ss.length + 1) * 1) = ss.flatMap cellsT ++ cellsT x := by
         rcases hown'.2 with ⟨_, h0⟩ | h'
         · exact absurd h0 (by omega)
         · exact h'
       go_frame)
    | gi_round_op_a)
  have hg3' : (W2.alloc (.cells (cellsT x).toArray 83)).grownBy w3 v.ownBlock := hg3
  have hL3 : w3.heap[l]? = some (.loop { recT fn sv Bs D .ready with state := .busy }) := (hg3'.block l (by simp; omega) (ne_of hL2 (fun cur e => by cases e))).trans ((Below.heap_alloc _ _ l hl2).trans hL2)
  have hK3 : w3.heap[D]? = some (.deferred (some [])) := (hg3'.block D (by simp; omega) (ne_of hK2 (fun cur e => by cases e))).trans ((Below.heap_alloc _ _ D hDlt).trans hK2)
  obtain ⟨w4, hw4⟩ : ∃ w4, w3.setCell ⟨Bs, 0, none⟩ (.slice (some ⟨g', 0, none⟩) (ss.length + 1) cap') = w4 := ⟨_, rfl⟩
  rw [hw4]
  have hg4 : w3.grownBy w4 (some Bs) := by rw [← hw4]; exact grownBy_setCell0_a _ _ _
  have hv4 : w4.heap[Bs]? = some (.cells #[.slice (some ⟨g', 0, none⟩) (ss.length + 1) cap'] 84 (0, 0)) := by rw [← hw4]; exact heap_setCell_box_a _ hv3
  have hL4 : w4.heap[l]? = some (.loop { recT fn sv Bs D .ready with state := .busy }) := (hg4.block l (heap_lt hL3) (fun e => hBl (by cases e; rfl))).trans hL3
  have hK4 : w4.heap[D]? = some (.deferred (some [])) := (hg4.block D (heap_lt hK3) (fun e => hDB (by cases e; rfl))).trans hK3
  have hrow4 := hown'.kept hg4 (ownsRow_ne_a hown' hv3 (fun cur e => hne (Obj.cells.inj e).2.1))
  have hl4 : l < w4.heap.size := heap_lt hL4
  have hb3 : Below w0.heap.size w0 w3 := (hb2.alloc hb2.size _).grown hg3' (by simp; omega) (fun k e => (hrow2.lt k e).1)
  have hb4 : Below w0.heap.size w0 w4 := hb3.grown hg4 hb3.size (fun k e => by cases e; exact h0B)
  have hk4 : KeepsWalks W w4 := ((hk2.trans (KeepsWalks.alloc _ _)).trans (KeepsWalks.of_grownBy hg3' (ownsRow_not_walk_a (hrow2.alloc _)))).trans (by rw [← hw4]; exact KeepsWalks.setCell _ _ _)
  clear hw4
  refine ⟨_, _, run_endRound none hL4, rfl, ⟨⟨_, (World.putObj_heap_other hBl).trans hv4, ?_, by simp⟩, World.putObj_heap_same hl4, (World.putObj_heap_other hDl).trans hK4, hb4.grown (grownBy_putObj_a _ _ _) hb4.size (fun k e => by cases e; exact h0l)⟩, hk4.trans (KeepsWalks.putObj _ hL4 rfl)⟩
  have := hrow4.kept (grownBy_putObj_a w4 l (.loop { { recT fn sv Bs D .ready with state := .busy } with state := if (none : Option Code).isNone then .ready else .done, pending := none })) (ownsRow_ne_a hrow4 hL4 (fun cur e => by cases e))
  simpa using this
end Go.Proofs.YtfngdplkcppabaaGreat
namespace Go.Proofs.YtfngdplkcppabaaGreat
open Go.RowKit Go.Maps
set_option maxRecDepth 100000 in
set_option maxHeartbeats 2000000 in
theorem collT (n : Nat) (hn : 3 ≤ n) (b : Nat) (L : List (Int × Value)) (hE : ∀ p ∈ L, ∃ y : Nat, p.2 = encT y) (Bm : Nat) (w : World) (hl : L.length < 1000000) (hBm : Bm < w.heap.size) (hm : w.cell? ⟨Bm, 0, none⟩ = some (.map (some b))) (hM : MapAt Tryz.prog 3 w b L) :
    CallsIn Fence.wide n Tryz.prog 77 #[.slice none 0 0, .func (.func 65) #[] #[.pointer (some ⟨Bm, 0, none⟩)]] w fun e w' =>
      ∃ (v : Value) (ps : List (Int × Nat)), e = .returned v ∧ (ps.map (fun p => (p.1, encT p.2))).Perm L ∧ w'.ownsRow w.heap.size 83 1 v ps.length ((ps.map (·.2)).flatMap cellsT) ∧ (v = .slice none 0 0 ↔ ps = []) ∧ Below w.heap.size w w' := by
  have hne : (84 : Nat) ≠ 83 := by decide
  obtain ⟨D0, hown, hMI⟩ := hM
  have eg : ∀ args w, (callFunc 65 args).run Tryz.prog w = .ok (.enter 65 args) w := enters_of Tryz.func65 (by kernel_rfl) rfl
  refine callsIn_of_wp_marks Tryz.func77 rfl trivial ?_ rfl
  simp only [Tryz.ntmps77, List.size_toArray, List.length_cons, List.length_nil, Nat.reduceAdd, Nat.reduceSub, Array.replicate_succ, Array.replicate_zero, List.push_toArray, List.append_toArray, List.nil_append, List.cons_append]
  gi_wp2
  refine wpIn_rangeFunc ?_
  intro fn hfn
  obtain ⟨W0, hW0⟩ : ∃ W0, w.alloc (.cells #[.slice none 0 0] 84) = W0 := ⟨_, rfl⟩
  have hs0 : W0.heap.size = w.heap.size + 1 := by rw [← hW0]; simp
  have hv0 : W0.heap[w.heap.size]? = some (.cells #[.slice none 0 0] 84 (0, 0)) := by rw [← hW0]; exact heap_alloc_eq w _
  have hb0 : Below w.heap.size w W0 := by rw [← hW0]; exact (Below.refl _ w).alloc (Nat.le_refl _) _
  rw [hW0]
  obtain ⟨W1, hW1⟩ : ∃ W1, (W0.alloc (.deferred (some []))).alloc (.loop (recT fn (.func (.func 65) #[] #[.pointer (some ⟨Bm, 0, none⟩)]) w.heap.size W0.heap.size .ready)) = W1 := ⟨_, rfl⟩
  have hold : ∀ k, k < W0.heap.size → W1.heap[k]? = W0.heap[k]? := fun k hk => by
    rw [← hW1]; exact (Below.heap_alloc _ _ k (by simp; omega)).trans (Below.heap_alloc _ _ k hk)
  have hb1 : Below w.heap.size w W1 := by rw [← hW1]; exact (hb0.alloc hb0.size _).alloc (by have := hb0.size; simp; omega) _
  have hs1 : W1.heap.size = W0.heap.size + 2 := by rw [← hW1]; simp
  have hG : GathT w fn (.func (.func 65) #[] #[.pointer (some ⟨Bm, 0, none⟩)]) w.heap.size (W0.heap.size + 1) W0.heap.size [] W1 :=
    ⟨⟨_, (hold w.heap.size (by omega)).trans hv0, ⟨rfl, .inl ⟨rfl, rfl⟩⟩, by simp⟩,
     by rw [← hW1]; exact heap_new _ _ (by simp),
     by rw [← hW1]; exact heap_old _ (heap_alloc_eq W0 _), hb1⟩
  refine ⟨W0.heap.size + 1, [{ target := .collected W0.heap.size, args := #[] }], W1, { target := .fn (.func 65) #[.pointer (some ⟨Bm, 0, none⟩)], args := #[.func (.yield (W0.heap.size + 1)) #[] #[]] }, W1, 65,
    #[.func (.yield (W0.heap.size + 1)) #[] #[]] ++ #[.pointer (some ⟨Bm, 0, none⟩)], W1, ?_, ?_, ?_, ?_, fun _ => by omega, ?_⟩
  · rw [← hW1]; exact run_enterLoop_outer _ _ _ _ _
  · simp [resolve, go_sem]
  · intro f' _; trivial
  · simp [invoke, go_sem, eg]
  · have hown1 : W1.ownsMap Tryz.prog 3 RV b L.length D0 := by
      have hbl := hown.lt
      obtain ⟨es, clock, hb, Ft, hs, hD⟩ := hown
      exact ⟨es, clock, (hb1.block b hbl).trans hb, Ft, hs, hD⟩
    refine (vals1T (n - 1) (by omega) (W0.heap.size + 1) Bm b L.length D0 L hMI hE (GathT w fn (.func (.func 65) #[] #[.pointer (some ⟨Bm, 0, none⟩)]) w.heap.size (W0.heap.size + 1) W0.heap.size)
      (fun pre x W hJ hlt => roundT (n - 1 - 1) w fn _ w.heap.size (W0.heap.size + 1) W0.heap.size (by omega) (by omega) (by omega) (Nat.le_refl _) (by omega) pre x W hJ (by omega)) W1 (gath_abidesT _ _ _ _ _ _ _ hb1.size) ((hb1.cell (p := ⟨Bm, 0, none⟩) hBm).trans hm) hown1 hG).mono ?_
    rintro e W2 ⟨⟨v0, rfl⟩, ps, hS, h2⟩
    obtain ⟨v, hv, hrow, hnil⟩ := h2.box
    have hend := run_endLoop (P := Tryz.prog) h2.loop (by simp [recT])
    obtain ⟨W3, hW3⟩ : ∃ W3, W2.putObj (W0.heap.size + 1) (.loop { recT fn (.func (.func 65) #[] #[.pointer (some ⟨Bm, 0, none⟩)]) w.heap.size W0.heap.size .ready with state := .exhausted }) = W3 := ⟨_, rfl⟩
    rw [hW3] at hend
    have hg3 : W2.grownBy W3 (some (W0.heap.size + 1)) := by rw [← hW3]; exact grownBy_putObj_a _ _ _
    have hv3 : W3.heap[w.heap.size]? = some (.cells #[v] 84 (0, 0)) := by rw [← hW3]; exact (World.putObj_heap_other (by omega)).trans hv
    have hK3 : W3.heap[W0.heap.size]? = some (.deferred (some [])) := by rw [← hW3]; exact (World.putObj_heap_other (by omega)).trans h2.defd
    have hrow3 := hrow.kept hg3 (ownsRow_ne_a hrow h2.loop (fun cur e => by cases e))
    have hb3 : Below w.heap.size w W3 := h2.below.grown hg3 h2.below.size (fun k e => by cases e; omega)
    obtain ⟨hc3, hf3⟩ := cell_of_box_a hv3
    clear hW3
    refine ⟨none, W3, hend, ?_⟩
    gi_wp2
    rw [← hs0]
    refine ⟨by simp, .inl ⟨_, _, rfl, run_takeDeferred hK3, ?_⟩⟩
    refine ⟨_, results_tmp rfl _ _ _, v, ps, rfl, hS, ?_, by simpa using hnil, hb3.grown (grownBy_putObj_a _ _ _) hb3.size (fun k e => by cases e; omega)⟩
    have := hrow3.kept (grownBy_putObj_a W3 W0.heap.size (.deferred none)) (ownsRow_ne_a hrow3 hK3 (fun cur e => by cases e))
    simpa using this
end Go.Proofs.YtfngdplkcppabaaGreat
namespace Go.Proofs.YtfngdplkcppabaaGreat
open Go.RowKit Go.Maps
abbrev encQ (u : Upd) : Value := u.v
theorem encQ_inj {a b : Upd} (h : encQ a = encQ b) : a = b := by
  obtain ⟨⟨a1, a2, a3⟩, a4⟩ := a
  obtain ⟨⟨b1, b2, b3⟩, b4⟩ := b
  simpa [encQ, Upd.v, and_assoc] using h
theorem nodup_of_mapQ {β γ : Type} {f : β → γ} {l : List β} (h : (l.map f).Nodup) : l.Nodup := by
  induction l with
  | nil => simp
  | cons a r ih =>
    simp only [List.map_cons, List.nodup_cons] at h ⊢
    exact ⟨fun hm => h.1 (List.mem_map.2 ⟨a, hm, rfl⟩), ih h.2⟩
set_option maxRecDepth 100000 in
set_option maxHeartbeats 1000000 in
theorem vals1Q (n : Nat) (hn : 1 ≤ n) (l Bm b nn : Nat) (D0 : DataW Value) (L : List (Int × Value)) (hM : MapIs D0 L) (hE : ∀ p ∈ L, ∃ y : Upd, p.2 = encQ y) (J : List Upd → World → Prop)
    (hY : ∀ pre x W, J pre W → pre.length < L.length → YieldAt Fence.wide (n - 1) Tryz.prog l #[encQ x] W fun e W' => e = .returned (.bool true) ∧ J (pre ++ [x]) W' ∧ KeepsWalks W W')
    (W : World) (hJ : AbidesFrom W.heap.size J) (hm : W.cell? ⟨Bm, 0, none⟩ = some (.map (some b))) (hown : W.ownsMap Tryz.prog 3 RV b nn D0) (h0 : J [] W) :
    CallsIn Fence.wide n Tryz.prog 84 #[.func (.yield l) #[] #[], .pointer (some ⟨Bm, 0, none⟩)] W fun e W' => (∃ v, e = .returned v) ∧ ∃ ps : List (Int × Upd), (ps.map (fun p => (p.1, encQ p.2))).Perm L ∧ J (ps.map (·.2)) W' := by
  have KI := int_keyed (P := Tryz.prog) Tryz.underlying3
  have hin : ∀ (x : Int) (c : Value), (∀ zd, D0.atKey (.int .i64 x) zd = .held c) → (x, c) ∈ L := fun x c hat => by
    have hh : Maps.has D0 (.int .i64 x) = true := has_true_of_atKey hat
    obtain ⟨p, hp, rfl⟩ := List.mem_map.1 ((hM.has x).1 hh)
    have e := hM.mem p.1 p.2 hp (.held c)
    rw [hat] at e
    cases e
    exact hp
  refine callsIn_of_wp Tryz.func84 rfl trivial ?_ rfl
  simp only [Tryz.ntmps84, List.size_toArray, List.length_cons, List.length_nil, Nat.reduceAdd, Nat.reduceSub, Array.replicate_succ, Array.replicate_zero, List.push_toArray, List.append_toArray, List.nil_append, List.cons_append]
  gi_wp2_with (first
    | (gi_at_range; refine wpListIn_range_own _ rfl _ 104 rfl 3 130 KI Tryz.underlying104 _ b nn _ rfl hown ?_; intro w0 hrg0 hg0 hs0)
    | gi_in)
  go_frame
  gi_loopw [4] (fun _ wr => ∃ (left : Lit → Bool) (cnt : Nat) (ps : List (Int × Upd)), wr.ranges Tryz.prog 3 RV b W.heap.size nn D0 left cnt ∧ ps.length + cnt ≤ Maps.size D0 ∧ CollectedI D0 left (ps.map (·.1)) ∧ (∀ p ∈ ps, (p.1, encQ p.2) ∈ L) ∧ J (ps.map (·.2)) wr)
    (fun _ wr => wr.rangeLeft b W.heap.size)
  case atStart =>
    exact ⟨_, _, [], hrg0, by simp, CollectedI.start D0, by simp, hJ [] W w0 none h0 hg0 (fun r e => by cases e)⟩
  case round =>
    obtain ⟨left, cnt, ps, hrg, hcs, hC, hV, hJs⟩ := hrel
    gi_wp2_with (first
      | (gi_at_next; refine wpListIn_next_ranges _ rfl _ rfl 3 KI RV (Value.int .i64) id (fun key kl hk => by obtain ⟨x, hx, _⟩ := Maps.keyOf_i64 Tryz.underlying3 hk; exact ⟨x, hx⟩) (fun v _ _ => ⟨v, rfl⟩) b W.heap.size nn _ _ _ rfl hrg ?_ ?_)
      | gi_in)
    · intro hc0 hl0
      gi_wp2
      go_end0
      have hk : ∀ x, x ∈ ps.map (·.1) ↔ x ∈ L.map (·.1) := fun x => by rw [hC.2 x, hl0, ← hM.has x]; simp
      refine ⟨⟨_, rfl⟩, ps, ?_, hJs⟩
      have hnd : (ps.map (fun p => (p.1, encQ p.2))).Nodup := by
        have h1 : ((ps.map (fun p => (p.1, encQ p.2))).map (·.1)).Nodup := by rw [List.map_map]; exact hC.1
        exact nodup_of_mapQ h1
      refine (List.perm_ext_iff_of_nodup hnd (nodup_of_mapQ hM.nd)).2 (fun p => ⟨fun hp => ?_, fun hp => ?_⟩)
      · obtain ⟨q, hq, rfl⟩ := List.mem_map.1 hp
        exact hV q hq
      · obtain ⟨q, hq, e⟩ := List.mem_map.1 ((hk p.1).2 (List.mem_map.2 ⟨p, hp, rfl⟩))
        have h1 := hM.mem _ _ (hV q hq) (.held (.int .i64 0))
        have h2 := hM.mem _ _ hp (.held (.int .i64 0))
        rw [e, h2] at h1
        injection h1 with h1
        exact List.mem_map.2 ⟨q, hq, Prod.ext e h1.symm⟩
    · intro x c kl yd yp w2 cnt2 hkey hlk hv hat hrg2 hlt hg2 hs2 hen
      obtain ⟨x', ex, rfl, _⟩ := Maps.keyOf_i64 Tryz.underlying3 hkey
      obtain rfl : x = x' := by simpa using ex
      obtain rfl : yd = .held c := by simpa [RV] using (congrArg (Option.map (·.1)) hv).symm
      obtain ⟨y, hy⟩ := hE _ (hin x c hat)
      simp only at hy
      subst hy
      have hJ2 : J (ps.map (·.2)) w2 := hJ _ wr w2 (some W.heap.size) hJs hg2 (fun r e => by cases e; exact ⟨Nat.le_refl _, hrg.iter_walk⟩)
      clear hs2
      obtain ⟨⟨y1, y2, y3⟩, y4⟩ := y
      have hg3 : w2.grownBy (w2.alloc (.cells #[.int .i64 y1, .int .i64 y2, .int .i64 y3, .int .i64 y4] 130)) none := ⟨rfl, rfl, rfl, by simp, fun k hk _ => Below.heap_alloc _ _ k hk⟩
      obtain ⟨fn, tmps, assign, body, hy, hR⟩ := hY (ps.map (·.2)) ⟨⟨y1, y2, y3⟩, y4⟩ _ (hJ _ w2 _ none hJ2 hg3 (fun r e => by cases e)) (by have := hM.size; simp; omega)
      have hrg2 := hrg2.of_walks (KeepsWalks.alloc w2 (.cells #[.int .i64 y1, .int .i64 y2, .int .i64 y3, .int .i64 y4] 130))
      simp only [encQ, Upd.v] at hen hy ⊢
      have hmem := hin x (encQ (⟨⟨y1, y2, y3⟩, y4⟩ : Upd)) hat
      gi_wp2
      refine hR.mono ?_
      have hC2 : CollectedI D0 (fun z => left z && !z.sameKey (.int .i64 x)) ((ps ++ [(x, (⟨⟨y1, y2, y3⟩, y4⟩ : Upd))]).map (·.1)) := by simpa using hC.step hlk hat
      have hV2 : ∀ p ∈ ps ++ [(x, (⟨⟨y1, y2, y3⟩, y4⟩ : Upd))], (p.1, encQ p.2) ∈ L := fun p hp => (List.mem_append.1 hp).elim (hV p) (fun e => by simp at e; subst e; exact hmem)
      rintro e W3 ⟨rfl, hJ3, hk3⟩
      gi_wp2
      have hrg3 := hrg2.of_walks hk3
      go_roundw
      case rel => exact ⟨_, cnt2, ps ++ [(x, (⟨⟨y1, y2, y3⟩, y4⟩ : Upd))], hrg3, by simp; omega, hC2, hV2, by simpa using hJ3⟩
      case measure => rw [hrg3.left_eq, hrg.left_eq]; exact hlt
end Go.Proofs.YtfngdplkcppabaaGreat
