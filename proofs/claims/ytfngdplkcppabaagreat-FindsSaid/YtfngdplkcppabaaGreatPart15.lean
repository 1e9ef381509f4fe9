/-
  node.Receive.
  node.Receive of a message of another one: what is heard, what is answered.
  plain.Draws's function: the next number below n; node.Receive, whole; node.Join.
-/
import Derived.Test.YtfngdplkcppabaaGreatPart14
set_option linter.all false
namespace Go.Proofs.YtfngdplkcppabaaGreat
open Go.RowKit

/-- What a call gives: the node is another, what came out is the caller's. -/
def Gives (w : World) (a : Ad) (x : Nd) (r : List Pk × Nd) (v : Value) (w' : World) : Prop := ∃ a', Turned v w a x w' a' r.2 ∧ OutRow w' w.heap.size v r.1
theorem Gives.of {w w' : World} {a a' : Ad} {x x' : Nd} {ov : Value} {ps : List Pk} (h : St w.heap.size w a x w' a' x' ov ps) : Gives w a x (ps, x') ov w' :=
  ⟨a', ⟨h.node, ⟨h.chg.os, h.chg.tape, h.chg.output, h.chg.size, fun k o ho hs => h.chg.kept k o ho (fun hk => hk.elim hs (fun hl => absurd (heap_lt ho) (by have := hl.1; omega)))⟩, h.own, h.b⟩, h.out⟩
/-- Nothing is to come out yet. -/
theorem turned_nil {w : World} {a : Ad} {ov : Value} {x : Nd} (h : NodeAt w a ov x) : Turned (.slice none 0 0) w a x (w.setCell ⟨a.b, 20, none⟩ (.slice none 0 0)) a x := by
  refine ⟨?_, (Chg.refl _ _).setCell _ (fun _ _ => .inl rfl), fun _ => .inl, rfl⟩
  refine h.setNode (apart_of_chg ((Chg.refl _ _).setCell _ (fun _ _ => rfl))) ?_ ⟨rfl, rfl, rfl, rfl, rfl, rfl, rfl, rfl, rfl⟩
  exact (h.blk.set (i := 20) (by omega) (.slice none 0 0)).congr (by (intro i hi; rcases i with _ | _ | _ | _ | _ | _ | _ | _ | _ | _ | _ | _ | _ | _ | _ | _ | _ | _ | _ | _ | _ | _ | _ | _ | _ | _ | _ | i <;> first | rfl | exact absurd hi (by omega)))
theorem Turned.then {ov ov' : Value} {w w' w'' : World} {a a' a'' : Ad} {x x' x'' : Nd} (h : Turned ov w a x w' a' x') (k : Turned ov' w' a' x' w'' a'' x'') : Turned ov' w a x w'' a'' x'' :=
  ⟨k.node, ⟨k.chg.os.trans h.chg.os, k.chg.tape.trans h.chg.tape, k.chg.output.trans h.chg.output, Nat.le_trans h.chg.size k.chg.size, fun i o ho hs => k.chg.kept i o (h.chg.kept i o ho hs) (fun hk => (h.own i hk).elim hs (fun hl => absurd (heap_lt ho) (by omega)))⟩,
    fun j hj => (k.own j hj).elim (h.own j) (fun hl => .inr (Nat.le_trans h.chg.size hl)), k.b.trans h.b⟩
theorem Turned.st {B : Nat} {w w' : World} {a a' : Ad} {x x' : Nd} {v : Value} (h : Turned v w a x w' a' x') {ps : List Pk} (ho : OutRow w' B v ps) : St B w a x w' a' x' v ps :=
  ⟨h.node, ho, h.chg.mono (fun _ _ _ => .inl), h.own, h.b⟩
/-- One packet more is dropped. -/
theorem turned_dropped {w : World} {a : Ad} {ov : Value} {x : Nd} (h : NodeAt w a ov x) : Turned ov w a x (w.setCell ⟨a.b, 18, none⟩ (.int .i64 (x.dropped + 1))) a { x with dropped := x.dropped + 1 } := by
  refine ⟨?_, (Chg.refl _ _).setCell _ (fun _ _ => .inl rfl), fun _ => .inl, rfl⟩
  refine h.setNode (apart_of_chg ((Chg.refl _ _).setCell _ (fun _ _ => rfl))) ?_ ⟨rfl, rfl, rfl, rfl, rfl, rfl, rfl, rfl, rfl⟩
  exact (h.blk.set (i := 18) (by omega) (.int .i64 (x.dropped + 1))).congr (by (intro i hi; rcases i with _ | _ | _ | _ | _ | _ | _ | _ | _ | _ | _ | _ | _ | _ | _ | _ | _ | _ | _ | _ | _ | _ | _ | _ | _ | _ | _ | i <;> first | rfl | exact absurd hi (by omega)))

set_option maxRecDepth 100000 in
set_option maxHeartbeats 2000000 in
theorem receive_none {x : Nd} {C : Int} (hbd : Bd C x) (hC : C ≤ 1000000000000) (a : Ad) (ov : Value) (w : World) (h : NodeAt w a ov x) (s : ByteArray) (hm : s.size ≤ maxLen) (hd : decodeM s.data.toList = none) :
    Calls Tryz.prog 11 #[.pointer (some ⟨a.b, 0, none⟩), .string s] w fun e w' => ∃ v, e = .returned v ∧ Gives w a x (x.receive none) v w' := by
  have T0 := turned_nil h
  obtain ⟨w0, hw0⟩ : ∃ w0, w.setCell ⟨a.b, 20, none⟩ (.slice none 0 0) = w0 := ⟨_, rfl⟩
  rw [hw0] at T0
  have c20 : w.cell? ⟨a.b, 20, none⟩ = some ov := h.blk.cell (by omega)
  have f20 := h.blk.free 20
  have hdr := hbd.dropped
  have wd : IntKind.i64.wrap (x.dropped + 1) = x.dropped + 1 := IntWalk.i64_in _ (by omega)
  have HT0 := Lib.hid T0
  have HW0 := Lib.hid hw0
  have HD := Lib.hid hd
  clear T0 hw0 h hd
  go_enter Tryz.func11, Tryz.ntmps11
  go_wp2_with (first
    | (go_at_call 23; rw [HW0.out]; refine (message_any s w0 hm).mono ?_; rintro e w1 ⟨hb1, hp1⟩
       obtain rfl : e = .returned (.tuple #[noMsg, .iface 67 (.int .i64 2)]) := by
         rcases hp1 with ⟨_, e⟩ | ⟨e, _⟩
         · exact e
         · rw [HD.out] at e; cases e
       have HB1 := Lib.hid hb1
       have hd18 : ∀ o n, ((w1.alloc o).drewN n).cell? ⟨a.b, 18, none⟩ = some (.int .i64 x.dropped) := fun o n => ((HT0.out.node.below hb1).blk.alloc o).cell (by omega)
       have hf18 : ∀ o n, ((w1.alloc o).drewN n).frozen? ⟨a.b, 18, none⟩ = false := fun o n => ((HT0.out.node.below hb1).blk.alloc o).free 18
       clear hp1 hb1
       unfold noMsg))
  go_quiet (fail)
  go_wp2
  go_ret
  have hT1 := HT0.out.then ((Turned.below HT0.out.node HB1.out).then (Turned.drewN (Turned.alloc (HT0.out.node.below HB1.out) (.cells #[.int .i64 0, .int .i64 0, .int .i64 0, .int .i64 0, .int .i64 0, .slice none 0 0] 29)) nq))
  exact ⟨_, rfl, a, hT1.then (turned_dropped hT1.node), OutRow.nil _ _⟩

/-- A message of the node itself. -/
theorem receive_self_eq {x : Nd} {m : M} (h : m.frm = x.self.id) : x.receive (some m) = ([], { x with dropped := x.dropped + 1 }) := by
  unfold Nd.receive; simp only; rw [if_pos h]
set_option maxRecDepth 100000 in
set_option maxHeartbeats 2000000 in
theorem receive_own {x : Nd} {C : Int} (hbd : Bd C x) (hC : C ≤ 1000000000000) (a : Ad) (ov : Value) (w : World) (h : NodeAt w a ov x) (s : ByteArray) (hm : s.size ≤ maxLen) (m : M) (hd : decodeM s.data.toList = some m) (hf : m.frm = x.self.id) :
    Calls Tryz.prog 11 #[.pointer (some ⟨a.b, 0, none⟩), .string s] w fun e w' => ∃ v, e = .returned v ∧ Gives w a x (x.receive (some m)) v w' := by
  rw [receive_self_eq hf]
  have T0 := turned_nil h
  obtain ⟨w0, hw0⟩ : ∃ w0, w.setCell ⟨a.b, 20, none⟩ (.slice none 0 0) = w0 := ⟨_, rfl⟩
  rw [hw0] at T0
  have c20 : w.cell? ⟨a.b, 20, none⟩ = some ov := h.blk.cell (by omega)
  have f20 := h.blk.free 20
  have hdr := hbd.dropped
  have wd : IntKind.i64.wrap (x.dropped + 1) = x.dropped + 1 := IntWalk.i64_in _ (by omega)
  obtain ⟨kind, frm, inc, seq, tgt, ups⟩ := m
  simp only at hf
  have hfb : (frm == x.self.id) = true := by simpa using hf
  have HT0 := Lib.hid T0
  have HW0 := Lib.hid hw0
  have HD := Lib.hid hd
  clear T0 hw0 h hd hf
  go_enter Tryz.func11, Tryz.ntmps11
  go_wp2_with (first
    | (go_at_call 23; rw [HW0.out]; refine (message_any s w0 hm).mono ?_; rintro e w1 ⟨hb1, hp1⟩
       obtain ⟨v, rfl, hrow⟩ : ∃ v, e = .returned (.tuple #[(⟨kind, frm, inc, seq, tgt, ups⟩ : M).agg v, .nilIface]) ∧ w1.ownsRow w0.heap.size 31 3 v ups.length (keyCells ups) := by
         rcases hp1 with ⟨e, _⟩ | ⟨e, v, e', hr⟩
         · rw [HD.out] at e; cases e
         · have e2 := HD.out
           rw [e] at e2
           simp only [Option.some.injEq] at e2
           rw [e2] at e' hr
           exact ⟨v, e', hr⟩
       obtain ⟨ma, mc, rfl⟩ := ownsRow_sl hrow
       have HB1 := Lib.hid hb1
       have hd7 : ∀ o n, ((w1.alloc o).drewN n).cell? ⟨a.b, 7, none⟩ = some (.int .i64 x.self.id) := fun o n => ((HT0.out.node.below hb1).blk.alloc o).cell (by omega)
       have hd18 : ∀ o n, ((w1.alloc o).drewN n).cell? ⟨a.b, 18, none⟩ = some (.int .i64 x.dropped) := fun o n => ((HT0.out.node.below hb1).blk.alloc o).cell (by omega)
       have hf18 : ∀ o n, ((w1.alloc o).drewN n).frozen? ⟨a.b, 18, none⟩ = false := fun o n => ((HT0.out.node.below hb1).blk.alloc o).free 18
       clear hp1 hb1 hrow
       unfold M.agg))
  go_quiet (fail)
  go_wp2
  go_ret
  have hT1 := HT0.out.then ((Turned.below HT0.out.node HB1.out).then (Turned.drewN (Turned.alloc (HT0.out.node.below HB1.out) (.cells #[.int .i64 kind, .int .i64 frm, .int .i64 inc, .int .i64 seq, .int .i64 tgt, .slice ma ups.length mc] 29)) nq))
  exact ⟨_, rfl, a, hT1.then (turned_dropped hT1.node), OutRow.nil _ _⟩
end Go.Proofs.YtfngdplkcppabaaGreat
namespace Go.Proofs.YtfngdplkcppabaaGreat
open Go.RowKit

set_option maxHeartbeats 1000000 in
theorem table_any (m : M) (ma : Option Addr) (mn mc : Nat) (w : World) : Calls Tryz.prog 73 #[m.agg (.slice ma mn mc)] w fun e w' => e = .returned (.tuple #[]) ∧ Below w.heap.size w w' := by
  unfold M.agg
  go_enter Tryz.func73, Tryz.ntmps73
  go_wp2
  ((try simp only [Exit.inBlock, Exit.then]); first | refine bodyPost_ret (results_none rfl _ _ _) rfl ?_ | refine bodyPost_end (results_none rfl _ _ _) rfl ?_)
  exact ⟨rfl, (Below.refl _ _).alloc (Nat.le_refl _) _⟩
theorem turned_ptr {ov : Value} {w w' : World} {a a' : Ad} {x x' : Nd} (h : Turned ov w a x w' a' x') : a'.b = a.b := h.b

set_option maxRecDepth 100000 in
set_option maxHeartbeats 4000000 in
theorem receive_other {x : Nd} (ho : Ok x) {C : Int} (hbd : Bd C x) (hC : C ≤ 100000000000) (a : Ad) (ov : Value) (w : World) (h : NodeAt w a ov x) (s : ByteArray) (hm : s.size ≤ maxLen) (m : M) (hd : decodeM s.data.toList = some m) (hf : m.frm ≠ x.self.id) (hmok : MOk m) :
    Calls Tryz.prog 11 #[.pointer (some ⟨a.b, 0, none⟩), .string s] w fun e w' => ∃ v, e = .returned v ∧ Gives w a x (x.receive (some m)) v w' := by
  have T0 := turned_nil h
  obtain ⟨w0, hw0⟩ : ∃ w0, w.setCell ⟨a.b, 20, none⟩ (.slice none 0 0) = w0 := ⟨_, rfl⟩
  rw [hw0] at T0
  have c20 : w.cell? ⟨a.b, 20, none⟩ = some ov := h.blk.cell (by omega)
  have f20 := h.blk.free 20
  have hsz0 : w0.heap.size = w.heap.size := by rw [← hw0]; simp
  have hre := receive_some hf
  have hml := hmok.len
  have hkk := hmok.kind
  have HRE := Lib.hid hre
  have HMOK := Lib.hid hmok
  obtain ⟨kind, frm, inc, seq, tgt, ups⟩ := m
  simp only at hf hml hkk
  have hfb : (frm == x.self.id) = false := by simpa using hf
  have HL : Hid (∀ k, Owns a x k → k < w.heap.size) := Lib.hid (fun k hk => h.owns_lt hk)
  have HT0 := Lib.hid T0
  have HW0 := Lib.hid hw0
  have HD := Lib.hid hd
  have HO := Lib.hid ho
  have HBD := Lib.hid hbd
  clear T0 hw0 h hd hf hre hmok ho hbd
  go_enter Tryz.func11, Tryz.ntmps11
  go_wp2_with (first
    | (go_at_call 23; rw [HW0.out]; refine (message_any s w0 hm).mono ?_; rintro e w1 ⟨hb1, hp1⟩
       obtain ⟨v, rfl, hrow⟩ : ∃ v, e = .returned (.tuple #[(⟨kind, frm, inc, seq, tgt, ups⟩ : M).agg v, .nilIface]) ∧ w1.ownsRow w0.heap.size 31 3 v ups.length (keyCells ups) := by
         rcases hp1 with ⟨e, _⟩ | ⟨e, v, e', hr⟩
         · rw [HD.out] at e; cases e
         · have e2 := HD.out
           rw [e] at e2
           simp only [Option.some.injEq] at e2
           rw [e2] at e' hr
           exact ⟨v, e', hr⟩
       obtain ⟨ma, mc, rfl⟩ := ownsRow_sl hrow
       have HB1 := Lib.hid hb1
       have HROW := Lib.hid hrow
       have hd7 : ∀ o n, ((w1.alloc o).drewN n).cell? ⟨a.b, 7, none⟩ = some (.int .i64 x.self.id) := fun o n => ((HT0.out.node.below hb1).blk.alloc o).cell (by omega)
       clear hp1 hb1 hrow
       unfold M.agg))
  go_quiet (fail)
  have hT2' := HT0.out.then ((Turned.below HT0.out.node HB1.out).then (Turned.drewN (Turned.alloc (HT0.out.node.below HB1.out) (.cells #[.int .i64 kind, .int .i64 frm, .int .i64 inc, .int .i64 seq, .int .i64 tgt, .slice ma ups.length mc] 29)) nq))
  obtain ⟨w2, hw2⟩ : ∃ w2, (w1.alloc (.cells #[.int .i64 kind, .int .i64 frm, .int .i64 inc, .int .i64 seq, .int .i64 tgt, .slice ma ups.length mc] 29)).drewN nq = w2 := ⟨_, rfl⟩
  rw [hw2] at hT2' ⊢
  have hsz1 := HB1.out.size
  have hx2 : w2.heap[w1.heap.size]? = some (.cells #[.int .i64 kind, .int .i64 frm, .int .i64 inc, .int .i64 seq, .int .i64 tgt, .slice ma ups.length mc] 29 (0, 0)) := by rw [← hw2]; exact heap_alloc_eq w1 _
  have hr2 : w2.ownsRow w.heap.size 31 3 (.slice ma ups.length mc) ups.length (keyCells ups) := by
    rw [← hw2, ← hsz0]; exact own_heap (World.ownsRow.alloc HROW.out _) (fun _ _ => rfl)
  have b1 := cells_at hx2 1
  have b2 := cells_at hx2 2
  simp only [List.getElem?_toArray, List.getElem?_cons_succ, List.getElem?_cons_zero] at b1 b2
  have hk0 : keyOk ⟨frm, inc, 1⟩ := ⟨HMOK.out.frm, HMOK.out.inc, by show (1 : Int) ≤ 1 ∧ (1 : Int) ≤ 4; omega⟩
  have HK0 := Lib.hid hk0
  have HT2 := Lib.hid hT2'
  have HX2 := Lib.hid hx2
  have HR2 := Lib.hid hr2
  have hlt2 := heap_lt hx2
  clear hT2' hx2 hr2 hw2 hk0 hd7 c20 f20
  have HKEEP : Hid (∀ (wr : World) (ar : Ad) (xr : Nd), Turned (.slice none 0 0) w2 a x wr ar xr → ∀ j, w.heap.size ≤ j → j < w2.heap.size → wr.heap[j]? = w2.heap[j]?) := Lib.hid (fun wr ar xr hT j h1 h2 => by
    rw [Array.getElem?_eq_getElem h2]
    exact hT.chg.kept j _ (Array.getElem?_eq_getElem h2) (fun hk => by have := HL.out _ hk; omega))
  obtain ⟨x1, hx1⟩ : ∃ x1, x.hear ⟨frm, inc, 1⟩ = x1 := ⟨_, rfl⟩
  have hok1 : Ok x1 := by rw [← hx1]; exact HO.out.hear HBD.out.clock.1 HK0.out
  have hbd1 : Bd (C + 1) x1 := by rw [← hx1]; exact HBD.out.hear _
  have HOK1 := Lib.hid hok1
  have HBD1 := Lib.hid hbd1
  have HX1 := Lib.hid hx1
  have hwsz : w.heap.size ≤ w2.heap.size := by omega
  clear hok1 hbd1 hx1
  go_wp2_with (first
    | (go_at_call 24; refine (hear_any HO.out HBD.out (by omega) a (.slice none 0 0) ⟨frm, inc, 1⟩ HK0.out w2 HT2.out.node).mono ?_; rintro e w3 ⟨rfl, a3, hT3⟩
       rw [HX1.out] at hT3
       have hx3 := (HKEEP.out w3 a3 x1 hT3 _ (by omega) hlt2).trans HX2.out
       have b5 := cells_at hx3 5
       simp only [List.getElem?_toArray, List.getElem?_cons_succ, List.getElem?_cons_zero] at b5
       have HT3 := Lib.hid hT3
       clear hT3 hx3))
  go_loopw [46] (fun i wr => ∃ (k : Nat) (ak : Ad), k ≤ ups.length ∧ i = .int .i64 k ∧ Turned (.slice none 0 0) w2 a x wr ak ((ups.take k).foldl Nd.hear x1)) (fun i _ => ups.length - (intOf i).toNat)
  case atStart => exact ⟨0, a3, Nat.zero_le _, rfl, HT3.out⟩
  case round =>
    obtain ⟨k, ak, hk, rfl, hT⟩ := hrel
    have hrow := own_heap (w' := wr) HR2.out (fun j hj => by
      obtain ⟨q1, cu, q2⟩ := ownsRow_blk HR2.out hj
      exact HKEEP.out wr ak _ hT j q1 (heap_lt q2))
    have hxr := (HKEEP.out wr ak _ hT _ (by omega) hlt2).trans HX2.out
    have hab := hT.b
    have HT := Lib.hid hT
    have HAB := Lib.hid hab
    have HXR := Lib.hid hxr
    have HROWR := Lib.hid hrow
    have hsub : ∀ q ∈ ups.take k, keyOk q := fun q hq => HMOK.out.ups q (List.mem_of_mem_take hq)
    have hokk : Ok ((ups.take k).foldl Nd.hear x1) := HOK1.out.hears (by rw [← HX1.out, (same_hear _ _).clock]; exact HBD.out.clock.1) _ hsub
    have hbdk : Bd (C + 9) ((ups.take k).foldl Nd.hear x1) := (Bd.hears (ups.take k) HBD1.out).mono (by rw [List.length_take]; omega)
    have HOKK := Lib.hid hokk
    have HBDK := Lib.hid hbdk
    clear hT hrow hxr hab hsub hokk hbdk
    by_cases hlt : k < ups.length
    · obtain ⟨_, hka⟩ := keysAt_row HROWR.out
      have hu := List.getElem?_eq_getElem hlt
      obtain ⟨q, hq⟩ : ∃ q, ups[k] = q := ⟨_, rfl⟩
      rw [hq] at hu
      obtain ⟨g, off, hma, hg, k0, k1, k2⟩ := hka k q hu
      subst hma
      have hqk : keyOk q := HMOK.out.ups q (List.mem_of_getElem? hu)
      obtain ⟨q1, q2, q3⟩ := q
      simp only at k0 k1 k2
      have HU := Lib.hid hu
      have HQK := Lib.hid hqk
      clear hka hu hqk hq
      go_wp2_with (first
        | (go_at_call 24
           have hh := hear_any HOKK.out HBDK.out (by omega) ak (.slice none 0 0) ⟨q1, q2, q3⟩ HQK.out _ (Turned.alloc HT.out.node (.cells #[.int .i64 q1, .int .i64 q2, .int .i64 q3] 31)).node
           rw [HAB.out] at hh
           refine hh.mono ?_; rintro e w4 ⟨rfl, a4, hT4⟩))
      go_roundw
      case rel =>
        refine ⟨k + 1, a4, by omega, by go_num, ?_⟩
        rw [List.take_add_one, HU.out, List.foldl_append]
        exact HT.out.then ((Turned.alloc HT.out.node _).then hT4)
      case measure => simp [intOf]; omega
    · have hkn : k = ups.length := by omega
      subst hkn
      rw [List.take_length] at HT HOKK HBDK
      have hxm : ups.foldl Nd.hear x1 = x.heardAll ⟨kind, frm, inc, seq, tgt, ups⟩ := by rw [← HX1.out]; rfl
      have HXM := Lib.hid hxm
      clear hxm
      obtain ⟨xn, hxn⟩ : ∃ xn, ups.foldl Nd.hear x1 = xn := ⟨_, rfl⟩
      rw [hxn] at HT HOKK HBDK HXM
      clear hxn
      have b0 := cells_at HXR.out 0
      have b1' := cells_at HXR.out 1
      have b2' := cells_at HXR.out 2
      have b3 := cells_at HXR.out 3
      have b4 := cells_at HXR.out 4
      have b5' := cells_at HXR.out 5
      simp only [List.getElem?_toArray, List.getElem?_cons_succ, List.getElem?_cons_zero] at b0 b1' b2' b3 b4 b5'
      have n22 : wr.cell? ⟨a.b, 22, none⟩ = some (boundV a.b 69) := by have := HT.out.node.blk.cell (i := 22) (by omega); rw [HAB.out] at this; rw [this]; simp only [nodeF, HAB.out]
      have n23 : wr.cell? ⟨a.b, 23, none⟩ = some (boundV a.b 70) := by have := HT.out.node.blk.cell (i := 23) (by omega); rw [HAB.out] at this; rw [this]; simp only [nodeF, HAB.out]
      have n24 : wr.cell? ⟨a.b, 24, none⟩ = some (boundV a.b 71) := by have := HT.out.node.blk.cell (i := 24) (by omega); rw [HAB.out] at this; rw [this]; simp only [nodeF, HAB.out]
      have n25 : wr.cell? ⟨a.b, 25, none⟩ = some (boundV a.b 72) := by have := HT.out.node.blk.cell (i := 25) (by omega); rw [HAB.out] at this; rw [this]; simp only [nodeF, HAB.out]
      have n26 : wr.cell? ⟨a.b, 26, none⟩ = some (.func (.func 73) #[] #[]) := by have := HT.out.node.blk.cell (i := 26) (by omega); rw [HAB.out] at this; exact this
      unfold boundV at n22 n23 n24 n25
      have HST := Lib.hid (((HT2.out.then HT.out).st (B := w.heap.size) (ps := []) (OutRow.nil _ _)).drewN 1)
      have hszr : w.heap.size ≤ wr.heap.size := by have := HT.out.chg.size; omega
      rcases (show kind = 1 ∨ kind = 2 ∨ kind = 3 ∨ kind = 4 ∨ kind = 5 by omega) with rfl | rfl | rfl | rfl | rfl
      · go_wp2
        (refine wp_tail 8 (by kernel_rfl) (by kernel_rfl) ?_; simp only [List.take_succ_cons, List.take_zero, List.drop_succ_cons, List.drop_zero])
        iterate 8 still_step
        refine wpStill_nil ?_
        go_wp2_with (first
          | (go_at_call 69
             have hh := pinged_any HOKK.out ak (.slice none 0 0) w.heap.size [] wr.drew HST.out.node HST.out.out hszr (by simp) ⟨1, frm, inc, seq, tgt, ups⟩ ma ups.length mc
             rw [HAB.out] at hh
             refine hh.mono ?_; rintro e w5 ⟨rfl, a5, ov5, hT5⟩
             have hT6 := HST.out.trans hT5
             have c20 : w5.cell? ⟨a.b, 20, none⟩ = some ov5 := by rw [← hT6.b]; exact hT6.node.blk.cell (by omega)
             have HT6 := Lib.hid hT6
             clear hT5 hT6))
        go_ret
        refine ⟨_, rfl, ?_⟩
        rw [HRE.out, ← HXM.out]
        exact Gives.of HT6.out
      · go_wp2
        (refine wp_tail 8 (by kernel_rfl) (by kernel_rfl) ?_; simp only [List.take_succ_cons, List.take_zero, List.drop_succ_cons, List.drop_zero])
        iterate 8 still_step
        refine wpStill_nil ?_
        go_wp2_with (first
          | (go_at_call 70
             have hh := acked_any HOKK.out ak (.slice none 0 0) w.heap.size [] wr.drew HST.out.node HST.out.out hszr (by simp) ⟨2, frm, inc, seq, tgt, ups⟩ HMOK.out ma ups.length mc
             rw [HAB.out] at hh
             refine hh.mono ?_; rintro e w5 ⟨rfl, a5, ov5, hT5⟩
             have hT6 := HST.out.trans hT5
             have c20 : w5.cell? ⟨a.b, 20, none⟩ = some ov5 := by rw [← hT6.b]; exact hT6.node.blk.cell (by omega)
             have HT6 := Lib.hid hT6
             clear hT5 hT6))
        go_ret
        refine ⟨_, rfl, ?_⟩
        rw [HRE.out, ← HXM.out]
        exact Gives.of HT6.out
      · go_wp2
        (refine wp_tail 8 (by kernel_rfl) (by kernel_rfl) ?_; simp only [List.take_succ_cons, List.take_zero, List.drop_succ_cons, List.drop_zero])
        iterate 8 still_step
        refine wpStill_nil ?_
        go_wp2_with (first
          | (go_at_call 71
             have hh := asked_any HOKK.out HBDK.out (by omega) ak (.slice none 0 0) w.heap.size [] wr.drew HST.out.node HST.out.out hszr (by simp) ⟨3, frm, inc, seq, tgt, ups⟩ HMOK.out rfl ma ups.length mc
             rw [HAB.out] at hh
             refine hh.mono ?_; rintro e w5 ⟨rfl, a5, ov5, hT5⟩
             have hT6 := HST.out.trans hT5
             have c20 : w5.cell? ⟨a.b, 20, none⟩ = some ov5 := by rw [← hT6.b]; exact hT6.node.blk.cell (by omega)
             have HT6 := Lib.hid hT6
             clear hT5 hT6))
        go_ret
        refine ⟨_, rfl, ?_⟩
        rw [HRE.out, ← HXM.out]
        exact Gives.of HT6.out
      · go_wp2
        (refine wp_tail 8 (by kernel_rfl) (by kernel_rfl) ?_; simp only [List.take_succ_cons, List.take_zero, List.drop_succ_cons, List.drop_zero])
        iterate 8 still_step
        refine wpStill_nil ?_
        go_wp2_with (first
          | (go_at_call 72
             have hh := joined_any HOKK.out ak (.slice none 0 0) w.heap.size [] wr.drew HST.out.node HST.out.out hszr (by simp) ⟨4, frm, inc, seq, tgt, ups⟩ ma ups.length mc
             rw [HAB.out] at hh
             refine hh.mono ?_; rintro e w5 ⟨rfl, a5, ov5, hT5⟩
             have hT6 := HST.out.trans hT5
             have c20 : w5.cell? ⟨a.b, 20, none⟩ = some ov5 := by rw [← hT6.b]; exact hT6.node.blk.cell (by omega)
             have HT6 := Lib.hid hT6
             clear hT5 hT6))
        go_ret
        refine ⟨_, rfl, ?_⟩
        rw [HRE.out, ← HXM.out]
        exact Gives.of HT6.out
      · go_wp2
        (refine wp_tail 8 (by kernel_rfl) (by kernel_rfl) ?_; simp only [List.take_succ_cons, List.take_zero, List.drop_succ_cons, List.drop_zero])
        iterate 8 still_step
        refine wpStill_nil ?_
        go_wp2_with (first
          | (go_at_call 73
             refine (table_any ⟨5, frm, inc, seq, tgt, ups⟩ ma ups.length mc wr.drew).mono ?_; rintro e w5 ⟨rfl, hb5⟩
             have hT6 := HST.out.below hb5
             have c20 : w5.cell? ⟨a.b, 20, none⟩ = some (.slice none 0 0) := by rw [← hT6.b]; exact hT6.node.blk.cell (by omega)
             have HT6 := Lib.hid hT6
             clear hb5 hT6))
        go_ret
        refine ⟨_, rfl, ?_⟩
        rw [HRE.out, ← HXM.out]
        exact Gives.of HT6.out
end Go.Proofs.YtfngdplkcppabaaGreat
namespace Go.Proofs.YtfngdplkcppabaaGreat
open Go.RowKit

theorem receive_any {x : Nd} (ho : Ok x) {C : Int} (hbd : Bd C x) (hC : C ≤ 100000000000) (a : Ad) (ov : Value) (w : World) (h : NodeAt w a ov x) (s : ByteArray) (hm : s.size ≤ maxLen) (hmok : ∀ m, decodeM s.data.toList = some m → MOk m) :
    Calls Tryz.prog 11 #[.pointer (some ⟨a.b, 0, none⟩), .string s] w fun e w' => ∃ v, e = .returned v ∧ Gives w a x (x.receive (decodeM s.data.toList)) v w' := by
  cases hd : decodeM s.data.toList with
  | none => exact receive_none hbd (by omega) a ov w h s hm hd
  | some m =>
    by_cases hf : m.frm = x.self.id
    · exact receive_own hbd (by omega) a ov w h s hm m hd hf
    · exact receive_other ho hbd hC a ov w h s hm m hd hf (hmok m hd)
theorem owns_w2 (a : Ad) (x : Nd) : Owns a x a.w2 := by unfold Owns; simp
/-- One more was drawn. -/
theorem NodeAt.setAt {w w' : World} {a : Ad} {ov : Value} {x : Nd} (h : NodeAt w a ov x) (e : Apart w w' (fun j => j = a.w2)) (k : Nat) (hb : w'.heap[a.w2]? = some (.cells #[.int .i64 (k : Int)] 3 (0, 0))) : NodeAt w' a ov { x with at_ := k } := by
  obtain ⟨es, n, hm⟩ := h.news.isMap
  obtain ⟨es1, n1, hb1⟩ := h.others.isMap
  obtain ⟨es2, n2, hb2⟩ := h.relays.isMap
  obtain ⟨s, r, hc⟩ := h.chan
  obtain ⟨cs, h0⟩ := h.blk.block
  have h2 := h.box2
  have nt : ∀ {b : Nat} {cs' : Array Value} {t : TypeId} {f : Nat × Nat}, w.heap[b]? = some (.cells cs' t f) → t ≠ 3 → b ≠ a.w2 := by
    rintro b cs' t f h1 ht rfl; rw [h1] at h2; simp only [Option.some.injEq, Obj.cells.injEq] at h2; exact ht h2.2.1
  have nm : ∀ {b : Nat} {o : Obj}, w.heap[b]? = some o → (∀ cs t f, o ≠ .cells cs t f) → b ≠ a.w2 := by
    rintro b o h1 hno rfl; rw [h1] at h2; exact hno _ _ _ (Option.some.inj h2)
  exact
    { h with
      blk := h.blk.heap (e.at h0 (nt h0 (by decide)))
      others := h.others.heap (e.at hb1 (nm hb1 (by simp)))
      mems := fun m hm => (e.at (h.mems m hm) (nt (h.mems m hm) (by decide))).trans (h.mems m hm)
      queue := (e.at h.queue (nt h.queue (by decide))).trans h.queue
      news := h.news.heap (e.at hm (nm hm (by simp)))
      chan := ⟨s, r, (e.at hc (nm hc (by simp))).trans hc⟩
      pass := h.pass.heap (fun k hk => by obtain ⟨cur, hg⟩ := h.pass.blk hk; exact e.at hg (fun e' => h.ne4 (by rw [← e']; exact hk)))
      prb := fun p hp => (e.at (h.prb p hp) (nt (h.prb p hp) (by decide))).trans (h.prb p hp)
      relays := h.relays.heap (e.at hb2 (nm hb2 (by simp)))
      box1 := (e.at h.box1 (nt h.box1 (by decide))).trans h.box1
      box2 := hb
      ds := h.ds.heap (fun k hk => by obtain ⟨cur, hg⟩ := h.ds.blk hk; exact e.at hg (fun e' => h.ne5 (by rw [← e']; exact hk))) }
theorem draw_nil {x : Nd} (a : Ad) (ov : Value) (w : World) (h : NodeAt w a ov x) (n : Int) (hds : x.ds = []) :
    Calls Tryz.prog 58 #[.int .i64 n, .pointer (some ⟨a.w1, 0, none⟩), .pointer (some ⟨a.w2, 0, none⟩)] w fun e w' => e = .returned (.int .i64 (x.draw n).1) ∧ Turned ov w a x w' a (x.draw n).2 := by
  have e : x.draw n = (0, x) := by unfold Nd.draw; rw [if_pos hds]
  rw [e]
  have hb := h.box1
  rw [hds] at hb
  have c1 := cells_at hb 0
  simp only [List.getElem?_toArray, List.getElem?_cons_zero] at c1
  have H := Lib.hid h
  clear h hb e hds
  go_enter Tryz.func58, Tryz.ntmps58
  go_wp2
  go_ret
  exact ⟨rfl, Turned.refl H.out⟩
set_option maxRecDepth 100000 in
set_option maxHeartbeats 1000000 in
theorem draw_some {x : Nd} {C : Int} (hbd : Bd C x) (hC : C ≤ 1000000000000) (a : Ad) (ov : Value) (w : World) (h : NodeAt w a ov x) (n : Int) (hn : 1 ≤ n ∧ n ≤ 1000) (hds : x.ds ≠ []) (hdl : x.ds.length ≤ 1000000) :
    Calls Tryz.prog 58 #[.int .i64 n, .pointer (some ⟨a.w1, 0, none⟩), .pointer (some ⟨a.w2, 0, none⟩)] w fun e w' => e = .returned (.int .i64 (x.draw n).1) ∧ Turned ov w a x w' a (x.draw n).2 := by
  have e : x.draw n = (rawDraw x.ds x.at_ n, { x with at_ := x.at_ + 1 }) := by unfold Nd.draw; rw [if_neg hds]
  rw [e]
  obtain ⟨len, hlen⟩ : ∃ len, x.ds.length = len := ⟨_, rfl⟩
  have hpos : 0 < len := by rw [← hlen]; exact List.length_pos_iff.2 hds
  obtain ⟨at_, hat⟩ : ∃ k, x.at_ = k := ⟨_, rfl⟩
  have hidx : at_ % len < x.ds.length := by rw [hlen]; exact Nat.mod_lt _ hpos
  obtain ⟨kv, hkv⟩ : ∃ kv, x.ds[at_ % len] = kv := ⟨_, rfl⟩
  have hfit : fitsI kv := h.dfit kv (by rw [← hkv]; exact List.getElem_mem hidx)
  unfold fitsI at hfit
  obtain ⟨p, hda⟩ : ∃ p, a.da = some p := by
    cases hda : a.da with
    | none => exact absurd (h.ds0 hda).1 hds
    | some p => exact ⟨p, rfl⟩
  obtain ⟨cur, hg, hsp, hoc, hcs⟩ := h.ds.2.2 p hda
  have hcap := h.ds.2.1
  obtain ⟨pb, po, psp⟩ := p
  simp only at hg hsp hoc hcs
  subst hsp
  have cv : w.cell? ⟨pb, po + at_ % len, none⟩ = some (.int .i64 kv) := by
    rw [cells_at hg]
    exact hcs _ _ (by rw [List.getElem?_eq_getElem hidx, hkv])
  have hb1 := h.box1
  have hb2 := h.box2
  rw [hda, hlen] at hb1
  rw [hat] at hb2
  have c1 := cells_at hb1 0
  have c2 := cells_at hb2 0
  have f2 := unfrozen hb2 0
  simp only [List.getElem?_toArray, List.getElem?_cons_zero] at c1 c2
  have hraw : rawDraw x.ds x.at_ n = (if kv < 0 then -(kv + 1) else kv) % n := by
    unfold rawDraw
    rw [hlen, hat, List.getD_eq_getElem?_getD, List.getElem?_eq_getElem hidx, hkv]; rfl
  have hatb : (at_ : Int) ≤ C := by rw [← hat]; exact hbd.at_
  have w1 : IntKind.i64.wrap ((at_ : Int) + 1) = ((at_ + 1 : Nat) : Int) := by rw [IntWalk.i64_in _ (by omega)]; omega
  have r1 : ((at_ : Int).tmod (len : Int)) = ((at_ % len : Nat) : Int) := by rw [Int.tmod_eq_emod_of_nonneg (by omega)]; rfl
  have HRAW := Lib.hid hraw
  have HB2 := Lib.hid hb2
  have HAT := Lib.hid hat
  have H := Lib.hid h
  have hml : at_ % len < len := Nat.mod_lt _ hpos
  have hl2 : ((len : Int) == 0) = false := by simp; omega
  clear h e hds hlen hat hkv hidx hcs hg hraw hb1 hb2 hda hoc hcap hbd hdl
  have hT : Hid (∀ nq, Turned ov w a x ((w.drewN nq).setCell ⟨a.w2, 0, none⟩ (.int .i64 ((at_ + 1 : Nat) : Int))) a { x with at_ := x.at_ + 1 }) := by
    refine Lib.hid fun nq => ⟨?_, (chg_of_drewN w _ nq).setCell _ (fun _ _ => owns_w2 a x), fun _ => .inl, rfl⟩
    refine NodeAt.setAt (w := w) H.out (apart_of_chg ((chg_of_drewN w _ nq).setCell _ (fun _ _ => rfl))) (x.at_ + 1) ?_
    rw [HAT.out]
    exact heap_setCell_eq HB2.out
  go_enter Tryz.func58, Tryz.ntmps58
  go_wp2
  go_quiet (fail)
  by_cases hk : kv < 0
  · have w2 : IntKind.i64.wrap (kv + 1) = kv + 1 := IntWalk.i64_in _ (by omega)
    have w3 : IntKind.i64.wrap (-(kv + 1)) = -(kv + 1) := IntWalk.i64_in _ (by omega)
    have hge : 0 ≤ -(kv + 1) := by omega
    obtain ⟨y, hy⟩ : ∃ y, -(kv + 1) = y := ⟨_, rfl⟩
    rw [hy] at w3 hge
    have r2 : y.tmod n = y % n := Int.tmod_eq_emod_of_nonneg hge
    have hn0 : (n == 0) = false := by simp; omega
    go_wp2
    go_ret
    refine ⟨?_, hT.out nq⟩
    rw [HRAW.out, if_pos hk, hy]; rfl
  · have hge : 0 ≤ kv := by omega
    have r2 : kv.tmod n = kv % n := Int.tmod_eq_emod_of_nonneg hge
    have hn0 : (n == 0) = false := by simp; omega
    go_wp2
    go_ret
    refine ⟨?_, hT.out nq⟩
    rw [HRAW.out, if_neg (by omega)]; rfl
theorem draw_any {x : Nd} {C : Int} (hbd : Bd C x) (hC : C ≤ 1000000000000) (a : Ad) (ov : Value) (w : World) (h : NodeAt w a ov x) (n : Int) (hn : 1 ≤ n ∧ n ≤ 1000) (hdl : x.ds.length ≤ 1000000) :
    Calls Tryz.prog 58 #[.int .i64 n, .pointer (some ⟨a.w1, 0, none⟩), .pointer (some ⟨a.w2, 0, none⟩)] w fun e w' => e = .returned (.int .i64 (x.draw n).1) ∧ Turned ov w a x w' a (x.draw n).2 := by
  by_cases hds : x.ds = []
  · exact draw_nil a ov w h n hds
  · exact draw_some hbd hC a ov w h n hn hds hdl
end Go.Proofs.YtfngdplkcppabaaGreat
