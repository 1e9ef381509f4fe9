/-
  What makes a node: plain.Draws, news.New, node.New, gossip.New, plain.New.
  Nodes of a caller's, each with its box: what a call of one leaves of the others.
  Where all answer: a tick, and what comes of it. No program in sight.
-/
import Derived.Test.YtfngdplkcppabaaGreatPart16
import Derived.Laws.EntriesVeiled
import Derived.Conc.SmallLaws
import Derived.Deep.RegionLaw
import Derived.Deep.RegionHeld3
import Derived.Test.YtfngdplkcppabaaGreatPart15
import Derived.Test.YtfngdplkcppabaaGreatPart14
set_option linter.all false
namespace Go.Proofs.YtfngdplkcppabaaGreat
open Go.RowKit

theorem key_bytes : ∃ i, Tryz.prog.info? 31 = some i ∧ i.bytes = 24 := by
  have h : (Tryz.prog.info? 31).map (·.bytes) = some 24 := by kernel_rfl
  obtain ⟨i, hi, hb⟩ := Option.map_eq_some_iff.1 h
  exact ⟨i, hi, hb⟩
theorem make_events (w : World) : (Instr.makeChan 73 (.int .i64 8)).run Tryz.prog w = .ok (.chan (some w.heap.size)) (w.alloc (.chan 8 #[] false 0 0 false)) := by
  obtain ⟨i, hi, hb⟩ := key_bytes
  simpa using Conc.run_makeChan (P := Tryz.prog) (w := w) Tryz.underlying73 hi .i64 8 (by omega) (by rw [hb]; omega)

theorem newsNew_any (n : Int) (w : World) :
    Calls Tryz.prog 68 #[.int .i64 n] w fun e w' => e = .returned (.pointer (some ⟨w.heap.size + 1, 0, none⟩)) ∧ w' = ((w.alloc (.map #[] 0)).alloc (.cells #[.int .i64 n, .map (some w.heap.size)] 106)) := by
  have hmm := @run_makeMap Tryz.prog
  go_enter Tryz.func68, Tryz.ntmps68
  go_wp2
  go_ret
  exact ⟨rfl, rfl⟩
/-- The draws of a list of numbers: where they lie. -/
structure DrawsAt (w : World) (B : Nat) (ds : List Int) (w1 w2 : Nat) (da : Option Addr) (dc : Nat) : Prop where
  box1 : w.heap[w1]? = some (.cells #[.slice da ds.length dc] 22 (0, 0))
  box2 : w.heap[w2]? = some (.cells #[.int .i64 0] 3 (0, 0))
  row : w.ownsRow B 3 1 (.slice da ds.length dc) ds.length (ds.map (Value.int .i64))
  ne : (Value.slice da ds.length dc).ownBlock ≠ some w2
  low1 : B ≤ w1
  low2 : B ≤ w2
theorem DrawsAt.below {w w' : World} {B w1 w2 dc : Nat} {ds : List Int} {da : Option Addr} (h : DrawsAt w B ds w1 w2 da dc) (hb : Below w.heap.size w w') : DrawsAt w' B ds w1 w2 da dc :=
  ⟨(hb.block _ (heap_lt h.box1)).trans h.box1, (hb.block _ (heap_lt h.box2)).trans h.box2, own_heap h.row (fun k hk => hb.block k (h.row.lt k hk).2), h.ne, h.low1, h.low2⟩
def funV (w1 w2 : Nat) : Value := .func (.func 58) #[] #[.pointer (some ⟨w1, 0, none⟩), .pointer (some ⟨w2, 0, none⟩)]
set_option maxRecDepth 100000 in
theorem draws_any (ds : List Int) (da : Option Addr) (n c : Nat) (w : World) (hn : ds.length = n) (hl : n < 1000000) (hd : CellsAt w da (ds.map (Value.int .i64))) :
    Calls Tryz.prog 34 #[.slice da n c] w fun e w' => ∃ w1 w2 da' dc, e = .returned (funV w1 w2) ∧ DrawsAt w' w.heap.size ds w1 w2 da' dc ∧ Below w.heap.size w w' := by
  have HD := Lib.hid hd
  have HN := Lib.hid hn
  have hkl : (ds.map (Value.int .i64)).length = n * 1 := by rw [List.length_map]; omega
  have HKL := Lib.hid hkl
  have h1c : ∀ u ∈ ds.map (Value.int .i64), u.oneCell' = true := by
    intro u hu
    obtain ⟨x, _, rfl⟩ := List.mem_map.1 hu
    rfl
  have H1C := Lib.hid h1c
  have k3 : 0 + n ≤ maxLen := by unfold maxLen; omega
  have K3 := Lib.hid k3
  obtain ⟨i0, hi, hz0, hz1, hz2⟩ := info_parts info_int
  clear hd hn hkl h1c k3
  go_enter Tryz.func34, Tryz.ntmps34
  go_wp2_with (at_builtin; refine wpList_append_any _ rfl _ _ 22 rfl w.heap.size 3 i0 _ 1 8 Tryz.underlying22 hi hz0 hz1 hz2 rfl (by decide) (.slice none 0 0) 0 [] rfl (World.ownsRow_nil _ _ _ _) da n c _ rfl HKL.out HD.out H1C.out K3.out (by omega) (Nat.le_refl _) ?_)
  intro a7 c7 w2 hl2 hto2
  try simp only [Nat.zero_add, List.nil_append] at hl2
  have HL2 := Lib.hid hl2
  have HG2 := Lib.hid hto2.grown
  clear hl2 hto2
  go_wp2
  go_ret
  have hsz := HG2.out.size
  refine ⟨_, _, a7, c7, rfl, ⟨by rw [HN.out]; exact heap_old _ (heap_alloc_eq w2 _), heap_new _ _ (by simp), by rw [HN.out]; exact (HL2.out.alloc _).alloc _, fun e => ?_, hsz, by omega⟩, ((((Below.refl w.heap.size w).grown HG2.out (Nat.le_refl _) (fun j hj => by cases hj)).alloc hsz _).alloc (by simp; omega) _)⟩
  rw [HN.out] at e
  have := (HL2.out.lt _ e).2
  omega
theorem mapAt_nil {t : TypeId} {w : World} {b : Nat} (h : w.heap[b]? = some (.map #[] 0)) : MapAt Tryz.prog t w b [] := by
  obtain ⟨D, ⟨es, clock, hb, r⟩, hD⟩ := MapAt.made (P := Tryz.prog) (kT := t) w
  rw [heap_alloc_eq] at hb
  simp only [Option.some.injEq, Obj.map.injEq] at hb
  obtain ⟨rfl, rfl⟩ := hb
  exact ⟨D, ⟨_, _, h, r⟩, hD⟩
theorem four_1 (w : World) (o1 o2 o3 o4 : Obj) : ((((w.alloc o1).alloc o2).alloc o3).alloc o4).heap[w.heap.size]? = some o1 := heap_old _ (heap_old _ (heap_old _ (heap_alloc_eq w o1)))
theorem four_2 (w : World) (o1 o2 o3 o4 : Obj) : ((((w.alloc o1).alloc o2).alloc o3).alloc o4).heap[w.heap.size + 1]? = some o2 := heap_old _ (heap_old _ (heap_new _ _ (by simp)))
theorem four_3 (w : World) (o1 o2 o3 o4 : Obj) : ((((w.alloc o1).alloc o2).alloc o3).alloc o4).heap[w.heap.size + 1 + 1]? = some o3 := heap_old _ (heap_new _ _ (by simp))
theorem four_4 (w : World) (o1 o2 o3 o4 : Obj) : ((((w.alloc o1).alloc o2).alloc o3).alloc o4).heap[w.heap.size + 1 + 1 + 1]? = some o4 := heap_new _ _ (by simp)
theorem four_below (w : World) (o1 o2 o3 o4 : Obj) : Below w.heap.size w ((((w.alloc o1).alloc o2).alloc o3).alloc o4).drew := (((((Below.refl _ _).alloc (Nat.le_refl _) _).alloc (by simp) _).alloc (by simp; omega) _).alloc (by simp; omega) _).drew
/-- A new node lies there. -/
theorem node_new {W : World} {c : Cfg} {ds : List Int} {B b bo bq bm bc br w1 w2 dc : Nat} {da : Option Addr} (hfit : ∀ v ∈ ds, fitsI v) (hd : DrawsAt W B ds w1 w2 da dc)
    (hb : NB W b (nodeF ⟨b, bo, bq, bm, bc, br, fun _ => 0, none, 0, 0, w1, w2, da, dc⟩ (.slice none 0 0) (Nd.new c ds))) (ho : W.heap[bo]? = some (.map #[] 0)) (hr : W.heap[br]? = some (.map #[] 0)) (hm : W.heap[bm]? = some (.map #[] 0)) (hc : W.heap[bc]? = some (.chan 8 #[] false 0 0 false))
    (hq : W.heap[bq]? = some (.cells #[.int .i64 c.sends, .map (some bm)] 106 (0, 0))) (n1 : bo ≠ bm) (n2 : bm ≠ br) (n3 : bo ≠ br) :
    NodeAt W ⟨b, bo, bq, bm, bc, br, fun _ => 0, none, 0, 0, w1, w2, da, dc⟩ (.slice none 0 0) (Nd.new c ds) := by
  obtain ⟨_, hn, h0⟩ := nums_of_row hd.row
  exact
    { blk := hb
      others := mapAt_nil ho
      mems := fun m hm => by simp [Nd.new] at hm
      minj := fun m hm => by simp [Nd.new] at hm
      queue := hq
      news := mapAt_nil hm
      chan := ⟨0, 0, hc⟩
      pass := ⟨rfl, Nat.le_refl _, fun p hp => by cases hp⟩
      pass0 := fun _ => ⟨rfl, rfl⟩
      prb := fun p hp => by simp [Nd.new] at hp
      relays := mapAt_nil hr
      box1 := hd.box1
      box2 := hd.box2
      ds := hn
      ds0 := h0
      dfit := hfit
      ne1 := n1
      ne2 := n2
      ne3 := n3
      ne4 := fun e => by simp [Value.ownBlock] at e
      ne5 := hd.ne
      ne6 := fun k e => by simp [Value.ownBlock] at e }
theorem owns_new {c : Cfg} {ds : List Int} {B b bo bq bm bc br w1 w2 dc : Nat} {da : Option Addr} {W : World} (hd : DrawsAt W B ds w1 w2 da dc) (h1 : B ≤ b) (h2 : B ≤ bo) (h3 : B ≤ bq) (h4 : B ≤ bm) (h5 : B ≤ bc) (h6 : B ≤ br) :
    ∀ k, Owns ⟨b, bo, bq, bm, bc, br, fun _ => 0, none, 0, 0, w1, w2, da, dc⟩ (Nd.new c ds) k → B ≤ k := by
  intro k hk
  rcases hk with e | e | e | e | e | e | ⟨m, hm, _⟩ | e | ⟨e, _⟩ | e | e | e
  · rw [e]; exact h1
  · rw [e]; exact h2
  · rw [e]; exact h3
  · rw [e]; exact h4
  · rw [e]; exact h5
  · rw [e]; exact h6
  · simp [Nd.new] at hm
  · simp [Value.ownBlock] at e
  · simp [Nd.new] at e
  · rw [e]; exact hd.low1
  · rw [e]; exact hd.low2
  · exact (hd.row.lt k e).1
set_option maxRecDepth 100000 in
set_option maxHeartbeats 2000000 in
theorem nodeNew_any (c : Cfg) (_ : cfgB c = true) (ds : List Int) (hfit : ∀ v ∈ ds, fitsI v) (B w1 w2 dc : Nat) (da : Option Addr) (w : World) (hd : DrawsAt w B ds w1 w2 da dc) (hB : B ≤ w.heap.size) :
    Calls Tryz.prog 57 #[.agg #[.int .i64 c.self, .int .i64 c.period, .int .i64 c.wait, .int .i64 c.susp, .int .i64 c.prox, .int .i64 c.sends], .func (.func 58) #[] #[.pointer (some ⟨w1, 0, none⟩), .pointer (some ⟨w2, 0, none⟩)]] w fun e w' =>
      ∃ a ov, e = .returned (.pointer (some ⟨a.b, 0, none⟩)) ∧ NodeAt w' a ov (Nd.new c ds) ∧ (∀ k, Owns a (Nd.new c ds) k → B ≤ k) ∧ Below w.heap.size w w' := by
  have hmm := @run_makeMap Tryz.prog
  have hmc := make_events
  go_enter Tryz.func57, Tryz.ntmps57
  go_wp2_with (go_at_call 68; refine (newsNew_any c.sends _).mono ?_; rintro e w4 ⟨rfl, hw4⟩; have HW4 := Lib.hid hw4; clear hw4)
  have hw4 := HW4.out
  have e1 : (w.alloc (.cells #[.int .i64 c.self, .int .i64 c.period, .int .i64 c.wait, .int .i64 c.susp, .int .i64 c.prox, .int .i64 c.sends] 50)).heap.size = w.heap.size + 1 := by simp
  rw [e1] at hw4
  have hq4 : w4.heap[w.heap.size + 2]? = some (.cells #[.int .i64 c.sends, .map (some (w.heap.size + 1))] 106 (0, 0)) := by rw [hw4]; exact heap_new _ _ (by simp)
  have hm4 : w4.heap[w.heap.size + 1]? = some (.map #[] 0) := by rw [hw4]; exact heap_old _ (heap_new _ _ (by simp))
  have hc4 : w4.heap[w.heap.size]? = some (.cells #[.int .i64 c.self, .int .i64 c.period, .int .i64 c.wait, .int .i64 c.susp, .int .i64 c.prox, .int .i64 c.sends] 50 (0, 0)) := by rw [hw4]; exact heap_old _ (heap_old _ (heap_alloc_eq w _))
  have hb4 : Below w.heap.size w w4 := by rw [hw4]; exact (((Below.refl _ _).alloc (Nat.le_refl _) _).alloc (by simp) _).alloc (by simp; omega) _
  have hs4 : w4.heap.size = w.heap.size + 3 := by rw [hw4]; simp
  have hS : ∀ w' : World, w'.heap[w.heap.size]? = some (.cells #[.int .i64 c.self, .int .i64 c.period, .int .i64 c.wait, .int .i64 c.susp, .int .i64 c.prox, .int .i64 c.sends] 50 (0, 0)) → (w'.cell? ⟨w.heap.size, 0, none⟩ = some (.int .i64 c.self) ∧ w'.cell? ⟨w.heap.size, 1, none⟩ = some (.int .i64 c.period) ∧ w'.cell? ⟨w.heap.size, 2, none⟩ = some (.int .i64 c.wait) ∧ w'.cell? ⟨w.heap.size, 3, none⟩ = some (.int .i64 c.susp) ∧ w'.cell? ⟨w.heap.size, 4, none⟩ = some (.int .i64 c.prox) ∧ w'.cell? ⟨w.heap.size, 5, none⟩ = some (.int .i64 c.sends)) := fun w' h => by
    refine ⟨?_, ?_, ?_, ?_, ?_, ?_⟩ <;> (rw [cells_at h]; rfl)
  have HS := Lib.hid hS
  have HC4 := Lib.hid hc4
  have HM4 := Lib.hid hm4
  have HQ4 := Lib.hid hq4
  have HB4 := Lib.hid hb4
  have HSZ := Lib.hid hs4
  have HD := Lib.hid (hd.below (hb4.mono (Nat.le_refl _)))
  have hq : (w.alloc (.cells #[.int .i64 c.self, .int .i64 c.period, .int .i64 c.wait, .int .i64 c.susp, .int .i64 c.prox, .int .i64 c.sends] 50)).heap.size + 1 = w.heap.size + 2 := by simp
  clear hw4 hq4 hm4 hc4 hb4 hs4 hS hd
  go_cut [6] (fun s6 wx => ∃ bo bc br b, s6 = .pointer (some ⟨b, 0, none⟩) ∧ wx.heap[bo]? = some (.map #[] 0) ∧ wx.heap[br]? = some (.map #[] 0) ∧ wx.heap[bc]? = some (.chan 8 #[] false 0 0 false) ∧
    wx.heap[b]? = some (.cells #[.int .i64 c.self, .int .i64 c.period, .int .i64 c.wait, .int .i64 c.susp, .int .i64 c.prox, .int .i64 c.sends, funV w1 w2, .int .i64 c.self, .int .i64 1, .int .i64 1, .map (some bo), .pointer (some ⟨w.heap.size + 2, 0, none⟩), .chan (some bc), .int .i64 0, .int .i64 0, .slice none 0 0, .pointer none, .map (some br), .int .i64 0, .int .i64 0, .slice none 0 0, .nilFunc, .nilFunc, .nilFunc, .nilFunc, .nilFunc, .nilFunc] 79 (0, 0)) ∧ bo ≠ br ∧ w.heap.size + 3 ≤ bo ∧ w.heap.size + 3 ≤ br ∧ w.heap.size + 3 ≤ bc ∧ w.heap.size + 3 ≤ b ∧ Below w4.heap.size w4 wx)
  case first =>
    go_region_held3 (fun w' => w'.cell? ⟨w.heap.size, 0, none⟩ = some (.int .i64 c.self) ∧ w'.cell? ⟨w.heap.size, 1, none⟩ = some (.int .i64 c.period) ∧ w'.cell? ⟨w.heap.size, 2, none⟩ = some (.int .i64 c.wait) ∧ w'.cell? ⟨w.heap.size, 3, none⟩ = some (.int .i64 c.susp) ∧ w'.cell? ⟨w.heap.size, 4, none⟩ = some (.int .i64 c.prox) ∧ w'.cell? ⟨w.heap.size, 5, none⟩ = some (.int .i64 c.sends))
      (first | exact HS.out _ HC4.out | exact HS.out _ (heap_old _ HC4.out) | exact HS.out _ (heap_old _ (heap_old _ HC4.out)) | exact HS.out _ (heap_old _ (heap_old _ (heap_old _ HC4.out))) | exact HS.out _ (heap_old _ (heap_old _ (heap_old _ (heap_old _ HC4.out)))))
      ((fail))
    all_goals
      go_wp2
      go_meet
      case rel =>
        have hz := HSZ.out
        refine ⟨_, _, _, _, rfl, ?_, ?_, ?_, four_4 w4 _ _ _ _, ?_⟩
        · first | exact four_1 w4 _ _ _ _ | exact four_2 w4 _ _ _ _ | exact four_3 w4 _ _ _ _
        · first | exact four_1 w4 _ _ _ _ | exact four_2 w4 _ _ _ _ | exact four_3 w4 _ _ _ _
        · first | exact four_1 w4 _ _ _ _ | exact four_2 w4 _ _ _ _ | exact four_3 w4 _ _ _ _
        · exact ⟨by omega, by omega, by omega, by omega, by omega, four_below w4 _ _ _ _⟩
  case rest =>
    obtain ⟨bo, bc, br, b, rfl, ho, hr, hc', hb, hne, l1, l2, l3, l4, hB⟩ := hcut
    have sc := cells_at hb
    have sf := unfrozen hb
    have HO := Lib.hid ho
    have HR := Lib.hid hr
    have HC := Lib.hid hc'
    have HB := Lib.hid hb
    have HBB := Lib.hid hB
    clear ho hr hc' hb hB
    go_wp2
    go_ret
    have hb0 : SB 79 27 wc b (fun i => (#[.int .i64 c.self, .int .i64 c.period, .int .i64 c.wait, .int .i64 c.susp, .int .i64 c.prox, .int .i64 c.sends, funV w1 w2, .int .i64 c.self, .int .i64 1, .int .i64 1, .map (some bo), .pointer (some ⟨w.heap.size + 2, 0, none⟩), .chan (some bc), .int .i64 0, .int .i64 0, .slice none 0 0, .pointer none, .map (some br), .int .i64 0, .int .i64 0, .slice none 0 0, .nilFunc, .nilFunc, .nilFunc, .nilFunc, .nilFunc, .nilFunc] : Array Value).getD i .nilFunc) := ⟨_, HB.out, by simp, fun i hi => by
      rcases i with _ | _ | _ | _ | _ | _ | _ | _ | _ | _ | _ | _ | _ | _ | _ | _ | _ | _ | _ | _ | _ | _ | _ | _ | _ | _ | _ | i <;> first | rfl | exact absurd hi (by omega)⟩
    have hb1 := (((((hb0.set (i := 21) (by omega) .nilFunc).set (i := 22) (by omega) (boundV b 69)).set (i := 23) (by omega) (boundV b 70)).set (i := 24) (by omega) (boundV b 71)).set (i := 25) (by omega) (boundV b 72)).set (i := 26) (by omega) (.func (.func 73) #[] #[])
    have hcg := (((((((Chg.refl (fun k _ => k = b) wc).setCell (p := ⟨b, 21, none⟩) .nilFunc (fun _ _ => rfl)).setCell (p := ⟨b, 22, none⟩) (boundV b 69) (fun _ _ => rfl)).setCell (p := ⟨b, 23, none⟩) (boundV b 70) (fun _ _ => rfl)).setCell (p := ⟨b, 24, none⟩) (boundV b 71) (fun _ _ => rfl)).setCell (p := ⟨b, 25, none⟩) (boundV b 72) (fun _ _ => rfl)).setCell (p := ⟨b, 26, none⟩) (.func (.func 73) #[] #[]) (fun _ _ => rfl))
    have hz := HSZ.out
    have hbl : Below w4.heap.size w4 _ := HBB.out.trans (hcg.below (by have := HBB.out.size; omega) (fun k _ e => by omega))
    have hD := HD.out.below hbl
    have hap := fun (k : Nat) (hk : k ≠ b) (o : Obj) (ho : wc.heap[k]? = some o) => hcg.kept k o ho hk
    refine ⟨⟨b, bo, w.heap.size + 2, w.heap.size + 1, bc, br, fun _ => 0, none, 0, 0, w1, w2, da, dc⟩, .slice none 0 0, rfl, node_new hfit hD ?_ (hap bo (fun e => ?_) _ HO.out) (hap br (fun e => ?_) _ HR.out) (hap _ (by omega) _ ((HBB.out.block _ (by omega)).trans HM4.out)) (hap bc (fun e => ?_) _ HC.out) (hap _ (by omega) _ ((HBB.out.block _ (by omega)).trans HQ4.out)) (by omega) (by omega) hne, owns_new hD (by omega) (by omega) (by omega) (by omega) (by omega) (by omega), HB4.out.trans (hbl.mono HB4.out.size)⟩
    · exact hb1.congr (by intro i hi; rcases i with _ | _ | _ | _ | _ | _ | _ | _ | _ | _ | _ | _ | _ | _ | _ | _ | _ | _ | _ | _ | _ | _ | _ | _ | _ | _ | _ | i <;> first | rfl | exact absurd hi (by omega))
    · subst e; have := HO.out.symm.trans HB.out; simp at this
    · subst e; have := HR.out.symm.trans HB.out; simp at this
    · subst e; have := HC.out.symm.trans HB.out; simp at this
end Go.Proofs.YtfngdplkcppabaaGreat
namespace Go.Proofs.YtfngdplkcppabaaGreat
open Go.RowKit

/-- A node of the caller's: its box (a gossip.Node), where it lies, what it is. -/
structure Bx where
  g : Nat
  a : Ad
  x : Nd
def Foot (q : Bx) (k : Nat) : Prop := k = q.g ∨ Owns q.a q.x k
def Bx.v (q : Bx) : Value := .pointer (some ⟨q.g, 0, none⟩)
structure BxAt (w : World) (B0 : Nat) (q : Bx) : Prop where
  node : ∃ ov, NodeAt w q.a ov q.x
  box : w.heap[q.g]? = some (.cells #[.pointer (some ⟨q.a.b, 0, none⟩)] 40 (0, 0))
  free : ¬ Owns q.a q.x q.g
  low : ∀ k, Foot q k → B0 ≤ k
theorem BxAt.lt {w : World} {B0 : Nat} {q : Bx} (h : BxAt w B0 q) {k : Nat} (hk : Foot q k) : k < w.heap.size := by
  rcases hk with rfl | hk
  · exact heap_lt h.box
  · obtain ⟨ov, hn⟩ := h.node; exact hn.owns_lt hk
theorem BxAt.keep {w w' : World} {B0 : Nat} {q : Bx} (h : BxAt w B0 q) (e : ∀ k, Foot q k → w'.heap[k]? = w.heap[k]?) : BxAt w' B0 q := by
  obtain ⟨ov, hn⟩ := h.node
  exact ⟨⟨ov, hn.keep (fun k hk => e k (.inr hk))⟩, (e _ (.inl rfl)).trans h.box, h.free, h.low⟩
structure Bxs (w : World) (B0 : Nat) (l : List Bx) : Prop where
  at_ : ∀ q ∈ l, BxAt w B0 q
  apart : l.Pairwise (fun p q => ∀ k, Foot p k → ¬ Foot q k)
theorem Bxs.nil (w : World) (B0 : Nat) : Bxs w B0 [] := ⟨by simp, List.Pairwise.nil⟩
theorem Bxs.keep {w w' : World} {B0 : Nat} {l : List Bx} (h : Bxs w B0 l) (e : ∀ q ∈ l, ∀ k, Foot q k → w'.heap[k]? = w.heap[k]?) : Bxs w' B0 l :=
  ⟨fun q hq => (h.at_ q hq).keep (e q hq), h.apart⟩
theorem Bxs.below {w w' : World} {B0 : Nat} {l : List Bx} (h : Bxs w B0 l) (hb : Below w.heap.size w w') : Bxs w' B0 l :=
  h.keep (fun q hq k hk => hb.block k ((h.at_ q hq).lt hk))
theorem Bxs.add {w : World} {B0 : Nat} {l : List Bx} (h : Bxs w B0 l) {q : Bx} (hq : BxAt w B0 q) (ha : ∀ p ∈ l, ∀ k, Foot p k → ¬ Foot q k) : Bxs w B0 (l ++ [q]) :=
  ⟨fun p hp => by rcases List.mem_append.1 hp with hp | hp
                  · exact h.at_ p hp
                  · rw [List.mem_singleton] at hp; subst hp; exact hq,
   List.pairwise_append.2 ⟨h.apart, List.pairwise_singleton _ _, fun p hp p' hp' => by rw [List.mem_singleton] at hp'; subst hp'; exact ha p hp⟩⟩
theorem pairwise_at {l : List Bx} (h : l.Pairwise (fun p q => ∀ k, Foot p k → ¬ Foot q k)) {i j : Nat} {p q : Bx} (hp : l[i]? = some p) (hq : l[j]? = some q) (hne : i ≠ j) : ∀ k, Foot p k → ¬ Foot q k := by
  rw [List.pairwise_iff_getElem] at h
  obtain ⟨hi, rfl⟩ := List.getElem?_eq_some_iff.1 hp
  obtain ⟨hj, rfl⟩ := List.getElem?_eq_some_iff.1 hq
  rcases Nat.lt_or_gt_of_ne hne with e | e
  · exact h i j hi hj e
  · intro k h1 h2; exact h j i hj hi e k h2 h1
/-- One node's call. -/
theorem Bxs.turn {w w' : World} {B0 : Nat} {l : List Bx} (h : Bxs w B0 l) (hB : B0 ≤ w.heap.size) {j : Nat} {q : Bx} (hq : l[j]? = some q) {v : Value} {a' : Ad} {x' : Nd} (ht : Turned v w q.a q.x w' a' x') :
    Bxs w' B0 (l.set j ⟨q.g, a', x'⟩) ∧ (∀ k, Foot ⟨q.g, a', x'⟩ k → Foot q k ∨ w.heap.size ≤ k) := by
  have hqm := List.mem_of_getElem? hq
  have hqa := h.at_ q hqm
  have hold : ∀ k, ¬ Owns q.a q.x k → k < w.heap.size → w'.heap[k]? = w.heap[k]? := apart_of_chg ht.chg
  have hft : ∀ k, Foot ⟨q.g, a', x'⟩ k → Foot q k ∨ w.heap.size ≤ k := fun k hk => by
    rcases hk with hk | hk
    · exact .inl (.inl hk)
    · exact (ht.own k hk).imp .inr id
  refine ⟨⟨fun p hp => ?_, ?_⟩, hft⟩
  · obtain ⟨i, hi⟩ := List.mem_iff_getElem?.1 hp
    by_cases hij : j = i
    · subst hij
      rw [List.getElem?_set_self (List.getElem?_eq_some_iff.1 hq).1] at hi
      cases hi
      refine ⟨⟨v, ht.node⟩, ?_, ?_, fun k hk => ?_⟩
      · show w'.heap[q.g]? = some (.cells #[.pointer (some ⟨a'.b, 0, none⟩)] _ _)
        rw [ht.b, hold _ hqa.free (heap_lt hqa.box)]; exact hqa.box
      · intro ho
        rcases ht.own _ ho with e | e
        · exact hqa.free e
        · have := heap_lt hqa.box; simp only at e; omega
      · rcases hft k hk with e | e
        · exact hqa.low k e
        · omega
    · rw [List.getElem?_set_ne hij] at hi
      have hpa := h.at_ p (List.mem_of_getElem? hi)
      refine hpa.keep (fun k hk => hold k (fun ho => ?_) (hpa.lt hk))
      exact pairwise_at h.apart hi hq (fun e => hij e.symm) k hk (.inr ho)
  · rw [List.pairwise_iff_getElem]
    intro i1 i2 h1 h2 hlt k hk1 hk2
    rw [List.length_set] at h1 h2
    rw [List.getElem_set] at hk1 hk2
    by_cases e1 : j = i1
    · subst e1
      rw [if_pos rfl] at hk1
      rw [if_neg (by omega)] at hk2
      have hp2 : l[i2]? = some l[i2] := List.getElem?_eq_getElem h2
      rcases hft k hk1 with e | e
      · exact pairwise_at h.apart hq hp2 (by omega) k e hk2
      · have := (h.at_ _ (List.mem_of_getElem? hp2)).lt hk2; omega
    · rw [if_neg e1] at hk1
      have hp1 : l[i1]? = some l[i1] := List.getElem?_eq_getElem h1
      by_cases e2 : j = i2
      · subst e2
        rw [if_pos rfl] at hk2
        rcases hft k hk2 with e | e
        · exact pairwise_at h.apart hp1 hq (by omega) k hk1 e
        · have := (h.at_ _ (List.mem_of_getElem? hp1)).lt hk1; omega
      · rw [if_neg e2] at hk2
        have hp2 : l[i2]? = some l[i2] := List.getElem?_eq_getElem h2
        exact pairwise_at h.apart hp1 hp2 (by omega) k hk1 hk2
/-- The caller's list of them. -/
structure Ns (w : World) (B0 : Nat) (v : Value) (l : List Bx) : Prop where
  bxs : Bxs w B0 l
  row : w.ownsRow B0 25 1 v l.length (l.map Bx.v)
  off : ∀ g, v.ownBlock = some g → ∀ q ∈ l, ¬ Foot q g
theorem Ns.below {w w' : World} {B0 : Nat} {v : Value} {l : List Bx} (h : Ns w B0 v l) (hb : Below w.heap.size w w') : Ns w' B0 v l :=
  ⟨h.bxs.below hb, own_heap h.row (fun k hk => hb.block k (h.row.lt k hk).2), h.off⟩
theorem Ns.drewN {w : World} {B0 : Nat} {v : Value} {l : List Bx} (h : Ns w B0 v l) (n : Nat) : Ns (w.drewN n) B0 v l :=
  ⟨h.bxs.keep (fun _ _ _ _ => rfl), own_heap h.row (fun _ _ => rfl), h.off⟩
theorem set_v {l : List Bx} {j : Nat} {q : Bx} (hq : l[j]? = some q) (a' : Ad) (x' : Nd) : (l.set j ⟨q.g, a', x'⟩).map Bx.v = l.map Bx.v := by
  rw [List.map_set]
  refine List.ext_getElem? (fun i => ?_)
  by_cases e : j = i
  · subst e
    rw [List.getElem?_set_self (by rw [List.length_map]; exact (List.getElem?_eq_some_iff.1 hq).1), List.getElem?_map, hq]; rfl
  · rw [List.getElem?_set_ne e]
theorem Ns.turn {w w' : World} {B0 : Nat} {rv : Value} {l : List Bx} (h : Ns w B0 rv l) (hB : B0 ≤ w.heap.size) {j : Nat} {q : Bx} (hq : l[j]? = some q) {v : Value} {a' : Ad} {x' : Nd} (ht : Turned v w q.a q.x w' a' x') :
    Ns w' B0 rv (l.set j ⟨q.g, a', x'⟩) := by
  obtain ⟨h1, h2⟩ := h.bxs.turn hB hq ht
  refine ⟨h1, ?_, fun g hg p hp hf => ?_⟩
  · rw [List.length_set, set_v hq]
    exact own_heap h.row (fun k hk => apart_of_chg ht.chg k (fun ho => h.off k hk q (List.mem_of_getElem? hq) (.inr ho)) (h.row.lt k hk).2)
  · obtain ⟨i, hi⟩ := List.mem_iff_getElem?.1 hp
    by_cases e : j = i
    · subst e
      rw [List.getElem?_set_self (List.getElem?_eq_some_iff.1 hq).1] at hi
      cases hi
      rcases h2 g hf with e | e
      · exact h.off g hg q (List.mem_of_getElem? hq) e
      · have := (h.row.lt g hg).2; omega
    · rw [List.getElem?_set_ne e] at hi
      exact h.off g hg p (List.mem_of_getElem? hi) hf
/-- What a call turns lies where the caller's own things lie. -/
theorem Bxs.under {w w' : World} {B0 : Nat} {l : List Bx} (h : Bxs w B0 l) (hB : B0 ≤ w.heap.size) {q : Bx} (hq : q ∈ l) {v : Value} {a' : Ad} {x' : Nd} (ht : Turned v w q.a q.x w' a' x') : Below B0 w w' :=
  ht.chg.below hB (fun k _ ho => (h.at_ q hq).low k (.inr ho))
/-- A call of one node's. -/
theorem Ns.gives {w w' : World} {B0 : Nat} {rv : Value} {l : List Bx} (h : Ns w B0 rv l) (hB : B0 ≤ w.heap.size) {j : Nat} {q : Bx} (hq : l[j]? = some q) {v : Value} {r : List Pk × Nd} (hg : Gives w q.a q.x r v w') :
    ∃ a', Ns w' B0 rv (l.set j ⟨q.g, a', r.2⟩) ∧ OutRow w' w.heap.size v r.1 ∧ Below B0 w w' ∧ Turned v w q.a q.x w' a' r.2 := by
  obtain ⟨a', hT, hO⟩ := hg
  exact ⟨a', h.turn hB hq hT, hO, h.bxs.under hB (List.mem_of_getElem? hq) hT, hT⟩
/-- Where the list's row lies. -/
theorem Ns.sl {w : World} {B0 : Nat} {v : Value} {l : List Bx} (h : Ns w B0 v l) (hl : 0 < l.length) : ∃ g c, v = .slice (some ⟨g, 0, none⟩) l.length c := by
  rcases h.row.2 with ⟨e, e'⟩ | ⟨g, cap, cur, e, _⟩
  · omega
  · exact ⟨g, cap, e⟩
theorem Ns.cell {w : World} {B0 : Nat} {g n c : Nat} {l : List Bx} (h : Ns w B0 (.slice (some ⟨g, 0, none⟩) n c) l) {i : Nat} {q : Bx} (hq : l[i]? = some q) : w.cell? ⟨g, i, none⟩ = some (.pointer (some ⟨q.g, 0, none⟩)) := by
  have hil := (List.getElem?_eq_some_iff.1 hq).1
  rcases h.row.2 with ⟨e, e'⟩ | ⟨g', cap, cur, e, hB, hg, h1, h2, h3, h4⟩
  · omega
  · simp only [Value.slice.injEq] at e
    obtain ⟨e1, _, rfl⟩ := e
    simp only [Option.some.injEq, Addr.mk.injEq] at e1
    obtain ⟨rfl, _⟩ := e1
    rw [cells_at hg]
    have : (cur.toList.take (l.length * 1))[i]? = some q.v := by rw [h4, List.getElem?_map, hq]; rfl
    rw [List.getElem?_take, if_pos (by omega), Array.getElem?_toList] at this
    exact this
theorem Ns.box {w : World} {B0 : Nat} {v : Value} {l : List Bx} (h : Ns w B0 v l) {i : Nat} {q : Bx} (hq : l[i]? = some q) : w.cell? ⟨q.g, 0, none⟩ = some (.pointer (some ⟨q.a.b, 0, none⟩)) := by
  rw [cells_at (h.bxs.at_ q (List.mem_of_getElem? hq)).box]; rfl
/-- The first packet. -/
theorem out_one {w : World} {B : Nat} {v : Value} {p : Pk} (h : OutRow w B v [p]) : ∃ g c, v = .slice (some ⟨g, 0, none⟩) 1 c ∧ B ≤ g ∧ w.cell? ⟨g, 0, none⟩ = some (.int .i64 p.1) ∧ w.cell? ⟨g, 1, none⟩ = some (.string (strOfNums (msgBytes p.2))) := by
  rcases h.2 with ⟨e, e'⟩ | ⟨g, cap, cur, e, hB, hg, h1, h2, h3, h4⟩
  · simp at e'
  · refine ⟨g, cap, e, hB, ?_, ?_⟩
    · rw [cells_at hg]
      have : (cur.toList.take ([p].length * 2))[0]? = some (.int .i64 p.1) := by rw [h4]; rfl
      rw [List.getElem?_take, if_pos (by simp), Array.getElem?_toList] at this
      exact this
    · rw [cells_at hg]
      have : (cur.toList.take ([p].length * 2))[1]? = some (.string (strOfNums (msgBytes p.2))) := by rw [h4]; rfl
      rw [List.getElem?_take, if_pos (by simp), Array.getElem?_toList] at this
      exact this
end Go.Proofs.YtfngdplkcppabaaGreat
namespace Go.Proofs.YtfngdplkcppabaaGreat
open Go.RowKit

section
variable {g n j P : Int} {x y : Nd}
/-- The next one is probed. -/
theorem begins_calm (h : Calm g n j x) (hs : 0 ≤ x.seq ∧ x.seq < 4294967295) :
    (∃ k l, x.newPass = { x with at_ := k, pass := l } ∧ (x.pass = [] → l.Perm ((x.others.filter here).map (·.k.id))) ∧ (x.pass ≠ [] → l = x.pass) ∧
      ((l = [] ∧ x.begins = ([], { x with at_ := k, pass := l })) ∨
       ∃ t rest m q, l = t :: rest ∧ x.begins = ([(t, m)], { x with at_ := k, pass := rest, probe := some ⟨t, x.seq + 1, x.clock, false⟩, seq := x.seq + 1, queue := q }) ∧
         Calm g n j { x with at_ := k, pass := rest, probe := some ⟨t, x.seq + 1, x.clock, false⟩, seq := x.seq + 1, queue := q } ∧ CalmM g n m ∧ m.kind = 1 ∧ m.tgt = t ∧ m.seq = x.seq + 1 ∧ m.frm = j ∧ t ∈ ids x.others)) := by
  obtain ⟨k, l, he, hp1, hp2, hok⟩ : ∃ k l, x.newPass = { x with at_ := k, pass := l } ∧ (x.pass = [] → l.Perm ((x.others.filter here).map (·.k.id))) ∧ (x.pass ≠ [] → l = x.pass) ∧ Ok x.newPass := by
    unfold Nd.newPass
    split
    · rename_i e
      simp only
      have hlen : ((x.others.filter here).map (·.k.id)).length ≤ 7 := by
        rw [List.length_map]
        exact Nat.le_trans (List.length_filter_le _ _) h.ok.len
      obtain ⟨h1, h2, k, hk⟩ := mix_perm (((x.others.filter here).map (·.k.id)).length - 1) ((x.others.filter here).map (·.k.id)) h.ok (by omega)
      refine ⟨k, _, by rw [hk], fun _ => h1, fun hne => absurd e hne, ?_⟩
      exact { h2 with
        pin := fun n hn => by
          have := hereIds_in (h1.mem_iff.1 hn)
          rw [hk]; exact this
        pnd := by show (Nd.mix _ _ x).1.length ≤ 7; rw [h1.length_eq]; exact hlen }
    · rename_i e
      exact ⟨x.at_, x.pass, rfl, fun e' => absurd e' e, fun _ => rfl, h.ok⟩
  refine ⟨k, l, he, hp1, hp2, ?_⟩
  rw [he] at hok
  cases l with
  | nil =>
    refine .inl ⟨rfl, ?_⟩
    unfold Nd.begins
    rw [he]
  | cons t rest =>
    refine .inr ?_
    have hin : ∀ i ∈ t :: rest, i ∈ ids x.others := fun i hi => hok.pin i hi
    have ht : idOk t := h.ok.ids_ok (hin t (by simp))
    have hz : Calm g n j { x with at_ := k, pass := rest, probe := some ⟨t, x.seq + 1, x.clock, false⟩, seq := x.seq + 1 } := by
      refine { ok := ?_, self := h.self, range := h.range, ne := h.ne, small := h.small, clk := h.clk, oth := h.oth, que := h.que }
      exact { h.ok.next with
        pin := fun i hi => hin i (List.mem_cons_of_mem _ hi)
        pnd := by have := hok.pnd; simp only [List.length_cons] at this; show rest.length ≤ 7; omega
        prb := fun p hp => by
          cases hp
          exact ⟨ht, ⟨by show 1 ≤ x.seq + 1; omega, Int.le_refl _⟩, h.clk, Int.le_refl _⟩ }
    have hm : CalmM g n (Nd.msg { x with at_ := k, pass := rest, probe := some ⟨t, x.seq + 1, x.clock, false⟩, seq := x.seq + 1 } ⟨1, 0, 0, x.seq + 1, t, []⟩) :=
      hz.lowM (.inl rfl) (by omega) ht 0 0 []
    refine ⟨t, rest, _, _, rfl, ?_, hz.sent ⟨1, 0, 0, x.seq + 1, t, []⟩, hm, rfl, rfl, rfl, hz.id, hin t (by simp)⟩
    unfold Nd.begins
    rw [he]
    rfl
theorem heardAll_same (h : Calm 0 n j x) (hn : Known n j x) {m : M} (hm : CalmM 0 n m) : x.heardAll m = x := by
  have h1 : ∀ k, CalmK 0 n k → x.hear k = x := fun k hk => by
    rcases h.hear_known hn hk with e | ⟨e, _⟩
    · exact e
    · have := hk.2.1; omega
  unfold Nd.heardAll
  rw [h1 _ hm.fromK]
  have : ∀ l : List K, (∀ k ∈ l, CalmK 0 n k) → l.foldl Nd.hear x = x := by
    intro l
    induction l with
    | nil => intro _; rfl
    | cons k l ih => intro hl; rw [List.foldl_cons, h1 k (hl k (by simp))]; exact ih (fun k' hk' => hl k' (by simp [hk']))
  exact this _ hm.ups

/-- Between ticks, where all answer. -/
structure Still (n P j : Int) (x : Nd) : Prop where
  calm : Calm 0 n j x
  known : Known n j x
  relays : x.relays = []
  per : x.c.period = P
  dropped : x.dropped = 0
  two : 2 ≤ n
def Answered (P : Int) (x : Nd) : Prop := ∀ p, x.probe = some p → p.acked = true ∧ x.clock < p.start + P
theorem Still.alive (h : Still n P j x) {m : Mem} (hm : m ∈ x.others) : m.k.st = 1 := by
  have hc := h.calm.oth m hm
  have := hc.2.1
  rcases hc.2.2.2 with e | ⟨e, _⟩ <;> omega
theorem Still.clocked (h : Still n P j x) : x.clocked = { x with clock := x.clock + 1 } := by
  have hd : ({ x with clock := x.clock + 1, relays := x.relays.filter (fun r => decide (x.clock + 1 < r.ends)) } : Nd).due = [] := by
    unfold Nd.due
    refine List.filter_eq_nil_iff.2 (fun m hm => ?_)
    have := h.alive hm
    simp [this]
  unfold Nd.clocked
  simp only
  rw [hd, h.relays]
  simp only [List.foldl_nil, List.filter_nil]
/-- A tick, where all answer. -/
theorem tick_still (h : Still n P j x) (ha : Answered P x) (hs : 0 ≤ x.seq ∧ x.seq < 4294967295) :
    (∃ y, x.tick = ([], y) ∧ Still n P j y ∧ Answered P y ∧ y.clock = x.clock + 1 ∧ ∃ p, x.probe = some p ∧ y.probe = some p) ∨
    (∃ t m y, x.tick = ([(t, m)], y) ∧ Still n P j y ∧ y.clock = x.clock + 1 ∧ y.probe = some ⟨t, m.seq, y.clock, false⟩ ∧ CalmM 0 n m ∧ m.kind = 1 ∧ m.tgt = t ∧ m.frm = j ∧ (1 ≤ t ∧ t ≤ n) ∧ t ≠ j ∧
      ∀ p, x.probe = some p → x.clock + 1 = p.start + P) := by
  have hc := h.clocked
  have hcfg := cfg_bounds h.calm.ok.cfg
  have hper := h.per
  have hz : Still n P j { x with clock := x.clock + 1 } := by
    refine { h with calm := { h.calm with ok := ?_, self := h.calm.self, clk := by have := h.calm.clk; show 0 ≤ x.clock + 1; omega, oth := h.calm.oth, que := h.calm.que }, known := h.known, relays := h.relays }
    exact { h.calm.ok with
      rok := fun r hr => by
        have hr : r ∈ x.relays := hr
        rw [h.relays] at hr; simp at hr
      prb := fun p hp => by
        obtain ⟨a, b, c⟩ := h.calm.ok.prb p hp
        exact ⟨a, b, c.1, by show p.start ≤ x.clock + 1; omega⟩
      due := fun m hm => by
        have := h.calm.ok.due m hm
        exact ⟨this.1, by show m.due ≤ x.clock + 1 + 500; omega⟩ }
  have hbeg : ∀ z : Nd, z = { x with clock := x.clock + 1, probe := none } → (∀ p, x.probe = some p → x.clock + 1 = p.start + P) →
      ∃ t m y, z.begins = ([(t, m)], y) ∧ Still n P j y ∧ y.clock = x.clock + 1 ∧ y.probe = some ⟨t, m.seq, y.clock, false⟩ ∧ CalmM 0 n m ∧ m.kind = 1 ∧ m.tgt = t ∧ m.frm = j ∧ (1 ≤ t ∧ t ≤ n) ∧ t ≠ j ∧ ∀ p, x.probe = some p → x.clock + 1 = p.start + P := by
    intro z ez hp
    have hzc : Calm 0 n j z := by
      subst ez
      exact { hz.calm with ok := hz.calm.ok.probeOf (fun q hq => by cases hq), self := h.calm.self, clk := hz.calm.clk, oth := h.calm.oth, que := h.calm.que }
    obtain ⟨k, l, _, hp1, hp2, hr⟩ := begins_calm hzc (by subst ez; exact hs)
    rcases hr with ⟨rfl, _⟩ | ⟨t, rest, m, q, rfl, hbg, hcalm, hm, hk, ht, hsq, hf, hin⟩
    · exfalso
      by_cases e : z.pass = []
      · have hl := hp1 e
        have h2 := h.two
        have : (if j = 1 then (2 : Int) else 1) ∈ (z.others.filter here).map (·.k.id) := by
          obtain ⟨m, hm, e⟩ := mem_ids.1 (h.known (if j = 1 then (2 : Int) else 1) (by split <;> omega) (by split <;> omega) (by split <;> omega))
          refine List.mem_map.2 ⟨m, List.mem_filter.2 ⟨by subst ez; exact hm, ?_⟩, e⟩
          unfold here
          rw [h.alive hm]; rfl
        have := hl.symm.mem_iff.1 this
        simp at this
      · exact e (hp2 e).symm
    · have hin' : t ∈ ids x.others := by subst ez; exact hin
      obtain ⟨mm, hmm, emm⟩ := mem_ids.1 hin'
      have hr := (h.calm.oth mm hmm).2.1
      have hns := h.calm.ok.notSelf mm hmm
      refine ⟨t, m, _, hbg, ?_, by subst ez; rfl, by rw [hsq], hm, hk, ht, hf, by omega, by rw [h.calm.id] at hns; omega, hp⟩
      exact { calm := hcalm, known := by subst ez; exact h.known, relays := by subst ez; exact h.relays, per := by subst ez; exact h.per, dropped := by subst ez; exact h.dropped, two := h.two }
  have hst : x.self.st = 1 := by rw [h.calm.self]
  unfold Nd.tick
  rw [hc]
  simp only
  rcases Option.eq_none_or_eq_some x.probe with hp | ⟨p, hp⟩
  · have hw : Nd.waits { x with clock := x.clock + 1 } = ([], { x with clock := x.clock + 1 }) := by
      unfold Nd.waits
      simp only [hp]
    rw [hw, if_pos ⟨by simp [hp], by show x.self.st ≠ 4; omega⟩]
    right
    have := hbeg { x with clock := x.clock + 1 } (by rw [← hp]) (fun p hp' => by rw [hp] at hp'; cases hp')
    obtain ⟨t, m, y, hbg, r⟩ := this
    exact ⟨t, m, y, by rw [hbg]; rfl, r⟩
  · obtain ⟨hack, hclk⟩ := ha p hp
    by_cases hlt : x.clock + 1 - p.start < x.c.period
    · have hw : Nd.waits { x with clock := x.clock + 1 } = ([], { x with clock := x.clock + 1 }) := by
        unfold Nd.waits
        simp only [hp, hack]
        unfold Nd.endProbe
        simp only
        rw [if_neg (by simp), if_pos hlt]
      rw [hw, if_neg (by simp [hp])]
      left
      refine ⟨_, rfl, hz, fun q hq => ?_, rfl, p, hp, hp⟩
      have hq : x.probe = some q := hq
      rw [hp] at hq
      cases hq
      exact ⟨hack, by show x.clock + 1 < p.start + P; omega⟩
    · have hw : Nd.waits { x with clock := x.clock + 1 } = ([], { x with clock := x.clock + 1, probe := none }) := by
        unfold Nd.waits
        simp only [hp, hack]
        unfold Nd.endProbe
        simp only
        rw [if_neg (by simp), if_neg hlt]
        cases findM x.others p.tgt with
        | none => rfl
        | some m => simp only [hack]; rw [if_neg (by simp)]
      rw [hw, if_pos ⟨rfl, by show x.self.st ≠ 4; omega⟩]
      right
      obtain ⟨t, m, y, hbg, r⟩ := hbeg { x with clock := x.clock + 1, probe := none } rfl (fun q hq => by rw [hp] at hq; cases hq; omega)
      exact ⟨t, m, y, by rw [hbg]; rfl, r⟩
/-- The Ping comes to its target. -/
theorem ping_still (h : Still n P j x) (ha : Answered P x) {m : M} (hm : CalmM 0 n m) (hk : m.kind = 1) (ht : m.tgt = j) (hne : m.frm ≠ j) :
    ∃ a y, x.receive (some m) = ([(m.frm, a)], y) ∧ Still n P j y ∧ Answered P y ∧ y.clock = x.clock ∧ y.probe = x.probe ∧ y.seq = x.seq ∧ y.at_ = x.at_ ∧ CalmM 0 n a ∧ a.kind = 2 ∧ a.frm = j ∧ a.seq = m.seq ∧ a.tgt = j := by
  obtain ⟨a, hr, ha1, ha2, ha3, ha4, ha5⟩ := receive_ping h.calm hm hk ht hne
  rw [heardAll_same h.calm h.known hm] at hr
  have s := sameQ_sent x ⟨2, 0, 0, m.seq, m.tgt, []⟩
  refine ⟨a, _, hr, { calm := h.calm.sent _, known := by unfold Known; rw [s.others]; exact h.known, relays := s.relays.trans h.relays, per := by rw [s.c]; exact h.per, dropped := s.dropped.trans h.dropped, two := h.two }, ?_, s.clock, s.probe, s.seq, s.at_, ha1, ha2, ha3, ha4, ha5⟩
  intro p hp
  rw [s.probe] at hp
  rw [s.clock]
  exact ha p hp
/-- The Ack comes back. -/
theorem ack_still (h : Still n P j x) {m : M} (hm : CalmM 0 n m) (hk : m.kind = 2) (hne : m.frm ≠ j) {t : Int} (hp : x.probe = some ⟨t, m.seq, x.clock, false⟩) (ht : m.tgt = t) :
    ∃ y, x.receive (some m) = ([], y) ∧ Still n P j y ∧ Answered P y ∧ y.clock = x.clock ∧ y.probe = some ⟨t, m.seq, x.clock, true⟩ ∧ y.seq = x.seq ∧ y.at_ = x.at_ := by
  have hr := receive_ack h.calm hk hne h.relays
  rw [heardAll_same h.calm h.known hm] at hr
  have hcfg := cfg_bounds h.calm.ok.cfg
  have hper := h.per
  have he : ackProbe x.probe m = some ⟨t, m.seq, x.clock, true⟩ := by
    rw [hp]
    simp [ackProbe, ht]
  refine ⟨_, hr, { h with calm := { h.calm with ok := h.calm.ok.ackProbe m, self := h.calm.self, clk := h.calm.clk, oth := h.calm.oth, que := h.calm.que }, known := h.known, relays := h.relays }, ?_, rfl, he, rfl, rfl⟩
  intro p hp'
  have hp' : ackProbe x.probe m = some p := hp'
  rw [he] at hp'
  cases hp'
  exact ⟨rfl, by show x.clock < x.clock + P; omega⟩
theorem still_young (h : Young n j x) (hn : Known n j x) (h2 : 2 ≤ n) (hP : x.c.period = P) : Still n P j x ∧ Answered P x :=
  ⟨⟨h.calm, hn, h.relays, hP, h.dropped, h2⟩, fun p hp => by rw [h.probe] at hp; cases hp⟩
end
end Go.Proofs.YtfngdplkcppabaaGreat
