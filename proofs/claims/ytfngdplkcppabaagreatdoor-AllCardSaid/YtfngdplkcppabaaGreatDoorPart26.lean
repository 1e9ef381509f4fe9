/-
  Texts of the proof: NewBad, Drain, Leave, EnsB, HoldO. No condition.
-/
import Derived.Test.YtfngdplkcppabaaGreatDoorPart01
import Derived.Test.YtfngdplkcppabaaGreatDoorPart25
import Derived.Test.YtfngdplkcppabaaGreatDoorPart19
import Derived.Test.YtfngdplkcppabaaGreatDoorPart16
import Derived.Conc.LoneSelect
import Derived.Test.YtfngdplkcppabaaGreatDoorPart03
import Derived.Test.YtfngdplkcppabaaGreatDoorPart18
import Derived.Test.YtfngdplkcppabaaGreatDoorPart24
import Derived.Test.YtfngdplkcppabaaGreatDoorPart07
import Derived.Test.YtfngdplkcppabaaGreatDoorPart14
set_option linter.all false
set_option maxRecDepth 100000
set_option maxHeartbeats 4000000
namespace Go.Proofs.YtfngdplkcppabaaGreatDoor
open Go.RowKit
theorem gossipNew_bad (c : Cfg) (hcb : cfgB c = false) (hc : fits c.period) (dv : Value) (w : World) :
  Calls Tryz.prog 54 #[c.v, dv] w fun e w' => e = .returned (.tuple #[.pointer none, errV 1]) /\ Below w.heap.size w w' := by
 obtain ⟨self, per, wt, su, px, se⟩ := c; unfold fits at hc; simp only at hc; obtain ⟨w1, hw1⟩ : ∃ w1, w.alloc (.cells #[.int .i64 self, .int .i64 per, .int .i64 wt, .int .i64 su, .int .i64 px, .int .i64 se] 82) = w1 := ⟨_, rfl⟩; have hb1 : Below w.heap.size w w1 := by rw [<- hw1]; exact (Below.refl _ _).alloc (Nat.le_refl _) _
 have hx1 : w1.heap[w.heap.size]? = some (.cells #[.int .i64 self, .int .i64 per, .int .i64 wt, .int .i64 su, .int .i64 px, .int .i64 se] 82 (0, 0)) := by rw [<- hw1]; exact Kc w _
 have x0 := Ka hx1 0; have x1 := Ka hx1 1; have x2 := Ka hx1 2; have x3 := Ka hx1 3; have x4 := Ka hx1 4; have x5 := Ka hx1 5; simp only [List.getElem?_toArray, List.getElem?_cons_succ, List.getElem?_cons_zero] at x0 x1 x2 x3 x4 x5; have HB1 := Hd hb1; have HW1 := Hd hw1; have HCB := Hd hcb; clear hb1 hw1 hx1 hcb; unfold Cfg.v; go_enter Tryz.func54, Tryz.ntmps54; go_upto_region 1 with (fail); rw [HW1.out]; go_cut [36] (fun s36 wx => ∃ bc, s36 = .bool bc /\ (bc = false ↔ 1 <= self /\ self <= 250 /\ 4 <= per /\ per <= 50 /\ 1 <= wt /\ wt <= per - 2) /\ wx = w1)
 case first =>
  by_cases h0 : self < 1
  · go_wp2
    go_meet
    case rel => exact ⟨_, rfl, by simp <;> omega, rfl⟩
  · by_cases h1 : 250 < self
    · go_wp2
      go_meet
      case rel => exact ⟨_, rfl, by simp <;> omega, rfl⟩
    · by_cases h2 : per < 4
      · go_wp2
        go_meet
        case rel => exact ⟨_, rfl, by simp <;> omega, rfl⟩
      · by_cases h3 : 50 < per
        · go_wp2
          go_meet
          case rel => exact ⟨_, rfl, by simp <;> omega, rfl⟩
        · by_cases h4 : wt < 1
          · go_wp2
            go_meet
            case rel => exact ⟨_, rfl, by simp <;> omega, rfl⟩
          · by_cases h5 : per - 2 < wt
            · go_wp2
              go_meet
              case rel => exact ⟨_, rfl, by simp <;> omega, rfl⟩
            · go_wp2
              go_meet
              case rel => exact ⟨_, rfl, by simp <;> omega, rfl⟩
 case rest =>
 obtain ⟨bc, rfl, hbc, hwx⟩ := hcut; subst hwx; have HBC := Hd hbc; clear hbc; cases bc with
 | true =>
  clear HBC HCB; go_wp2; exact bodyPost_ret (v := .tuple #[.pointer none, errV 1]) (by simp [results, Tryz.results54, go_sem]; rfl) rfl ⟨rfl, HB1.out⟩
 | false =>
  have h1 := HBC.out.1 rfl; have H1 := Hd h1; clear h1 HBC; go_upto_region 3 with (fail); go_cut [65] (fun s65 wx => ∃ bc, s65 = .bool bc /\ (bc = false ↔ 1 <= su /\ su <= 500 /\ 0 <= px /\ px <= 3 /\ 1 <= se /\ se <= 8) /\ wx = wc)
  case first =>
   by_cases h6 : su < 1
   · go_wp2
     go_meet
     case rel => exact ⟨_, rfl, by simp <;> omega, rfl⟩
   · by_cases h7 : 500 < su
     · go_wp2
       go_meet
       case rel => exact ⟨_, rfl, by simp <;> omega, rfl⟩
     · by_cases g1 : px < 0
       · go_wp2
         go_meet
         case rel => exact ⟨_, rfl, by simp <;> omega, rfl⟩
       · by_cases g2 : 3 < px
         · go_wp2
           go_meet
           case rel => exact ⟨_, rfl, by simp <;> omega, rfl⟩
         · by_cases g3 : se < 1
           · go_wp2
             go_meet
             case rel => exact ⟨_, rfl, by simp <;> omega, rfl⟩
           · by_cases g4 : 8 < se
             · go_wp2
               go_meet
               case rel => exact ⟨_, rfl, by simp <;> omega, rfl⟩
             · go_wp2
               go_meet
               case rel => exact ⟨_, rfl, by simp <;> omega, rfl⟩
  case rest =>
  obtain ⟨bc, rfl, hbc, hwx⟩ := hcut; subst hwx
  have hbt : bc = true := by
   cases bc with
   | true => rfl
   | false =>
    have h1 := H1.out; have h2 := hbc.1 rfl; have h3 := HCB.out; unfold cfgB Kl at h3; have : (decide (1 <= self /\ self <= 250)) = true := by simp; omega
    simp at h3
    omega
  subst hbt; clear hbc H1 HCB; go_wp2; exact bodyPost_ret (v := .tuple #[.pointer none, errV 1]) (by simp [results, Tryz.results54, go_sem]; rfl) rfl ⟨rfl, HB1.out⟩
theorem plainNew_bad (c : Cfg) (hcb : cfgB c = false) (hc : fits c.period) (ds : List Int) (da : Option Addr) (n cap : Nat) (w : World) (hn : ds.length = n) (hl : n < 1000000) (hd : Ki w da (ds.map (Value.int .i64))) :
  Calls Tryz.prog 32 #[c.v, .slice da n cap] w fun e w' => e = .returned (.tuple #[.pointer none, errV 1]) /\ Below w.heap.size w w' := by
 obtain ⟨self, per, wt, susp, prox, sends⟩ := c
 have hS : ∀ w' : World, w'.heap[w.heap.size]? = some (.cells #[.int .i64 self, .int .i64 per, .int .i64 wt, .int .i64 susp, .int .i64 prox, .int .i64 sends] 82 (0, 0)) -> (w'.cell? ⟨w.heap.size, 0, none⟩ = some (.int .i64 self) /\ w'.cell? ⟨w.heap.size, 1, none⟩ = some (.int .i64 per) /\ w'.cell? ⟨w.heap.size, 2, none⟩ = some (.int .i64 wt) /\ w'.cell? ⟨w.heap.size, 3, none⟩ = some (.int .i64 susp) /\ w'.cell? ⟨w.heap.size, 4, none⟩ = some (.int .i64 prox) /\ w'.cell? ⟨w.heap.size, 5, none⟩ = some (.int .i64 sends)) := fun w' h => by
  refine ⟨?_, ?_, ?_, ?_, ?_, ?_⟩ <;> (rw [Ka h]; rfl)
 obtain ⟨w0, hw0⟩ : ∃ w0, w.alloc (.cells #[.int .i64 self, .int .i64 per, .int .i64 wt, .int .i64 susp, .int .i64 prox, .int .i64 sends] 82) = w0 := ⟨_, rfl⟩; have h0 : w0.heap[w.heap.size]? = some (.cells #[.int .i64 self, .int .i64 per, .int .i64 wt, .int .i64 susp, .int .i64 prox, .int .i64 sends] 82 (0, 0)) := by rw [<- hw0]; exact Kc w _
 have hb0 : Below w.heap.size w w0 := by rw [<- hw0]; exact (Below.refl _ _).alloc (Nat.le_refl _) _
 have hdr := fun (W : World) (hW : W.heap = w0.heap) => draws_any ds da n cap W hn hl (by
  have h := hd.below hb0; refine h.heap (fun b off e hlt => ?_)
  rw [hW]; exact ⟨rfl, hlt⟩)
 have HS := Hd hS; have HDR0 := Hd hdr; have HC := Hd hc; have HCB := Hd hcb; have HW0 := Hd hw0; have H0 := Hd h0; have HB0 := Hd hb0; clear hd hn hc hcb hS hdr hw0 h0 hb0; unfold Cfg.v; go_enter Tryz.func32, Tryz.ntmps32; go_wp2; rw [HW0.out]; go_cut [4, 5] (fun s4 s5 wx => s4 = .pointer none /\ s5 = errV 1 /\ Below w.heap.size w wx)
 case first =>
  go_region_held3 (fun w' => w'.cell? ⟨w.heap.size, 0, none⟩ = some (.int .i64 self) /\ w'.cell? ⟨w.heap.size, 1, none⟩ = some (.int .i64 per) /\ w'.cell? ⟨w.heap.size, 2, none⟩ = some (.int .i64 wt) /\ w'.cell? ⟨w.heap.size, 3, none⟩ = some (.int .i64 susp) /\ w'.cell? ⟨w.heap.size, 4, none⟩ = some (.int .i64 prox) /\ w'.cell? ⟨w.heap.size, 5, none⟩ = some (.int .i64 sends))
   (first | exact HS.out _ H0.out | exact HS.out _ ((HB.out.block _ (Kb H0.out)).trans H0.out) | exact HS.out _ ((HB3.out.block _ (Nat.lt_of_lt_of_le (Kb H0.out) HB.out.size)).trans ((HB.out.block _ (Kb H0.out)).trans H0.out)))
   ((first
    | (go_at_call 55; refine (HDR0.out _ (by rfl)).mono ?_; rintro e w2 ⟨w1, b2, da', dc, rfl, hD, hB⟩; have HB : Hid (Below w0.heap.size w0 w2) := Hd ⟨hB.os, hB.tape, hB.output, hB.size, hB.block⟩; clear hD hB)
    | (go_at_call 54; refine (gossipNew_bad ⟨self, per, wt, susp, prox, sends⟩ HCB.out HC.out _ _).mono ?_; rintro e w3 ⟨rfl, hB3⟩; have HB3 := Hd hB3; clear hB3)))
  all_goals
   go_wp2; go_meet
   case rel => exact ⟨rfl, rfl, (HB0.out.trans (HB.out.mono HB0.out.size)).trans (HB3.out.mono (Nat.le_trans HB0.out.size HB.out.size))⟩
 case rest =>
  obtain ⟨rfl, rfl, hB⟩ := hcut; have HB := Hd hB; clear hB; go_wp2; exact bodyPost_ret (v := .tuple #[.pointer none, errV 1]) (by simp [results, Tryz.results32, go_sem]) rfl ⟨rfl, HB.out⟩
theorem config_any (c : Cfg) (w : World) : Calls Tryz.prog 33 #[c.v] w fun e w' => e = .returned c.v /\ Below w.heap.size w w' := by
 obtain ⟨self, per, wt, susp, prox, sends⟩ := c; unfold Cfg.v; go_enter Tryz.func33, Tryz.ntmps33; go_wp2; have hc := Ka (Jh (w.alloc (.cells #[.int .i64 self, .int .i64 per, .int .i64 wt, .int .i64 susp, .int .i64 prox, .int .i64 sends] 35)) (.cells #[.int .i64 self, .int .i64 per, .int .i64 wt, .int .i64 susp, .int .i64 prox, .int .i64 sends] 82) (n := w.heap.size + 1) (by simp))
 have hb : Below w.heap.size w ((w.alloc (.cells #[.int .i64 self, .int .i64 per, .int .i64 wt, .int .i64 susp, .int .i64 prox, .int .i64 sends] 35)).alloc (.cells #[.int .i64 self, .int .i64 per, .int .i64 wt, .int .i64 susp, .int .i64 prox, .int .i64 sends] 82)) := ((Below.refl w.heap.size w).alloc (Nat.le_refl _) _).alloc (by simp) _
 exact bodyPost_ret (v := .agg #[.int .i64 self, .int .i64 per, .int .i64 wt, .int .i64 susp, .int .i64 prox, .int .i64 sends]) (by simp [results, Tryz.results33, go_sem, hc]) rfl ⟨rfl, hb⟩
end Go.Proofs.YtfngdplkcppabaaGreatDoor
namespace Go.Proofs.YtfngdplkcppabaaGreatDoor
open Go.RowKit Go.Conc
section
variable {P : Program} {Q : Exit -> Act -> World -> Prop} {a : Act} {w : World}
theorem wpN_block {id : Nat} {c : Code} (h : WpN P c (Exit.inBlock id Q) a w) : WpN P (Code.block id c) Q a w := by
 intro b k cs hb; obtain ⟨e, a1, w1, hq, har⟩ := h b (.inBlock id :: k) cs hb; rcases e with _ | id' | l | _ | ch | _
 · exact ⟨.normal, a1, w1, hq, .head step_block (Steps.trans har (.one step_inBlock))⟩
 · by_cases he : id' = id
   · simp only [Exit.inBlock, he, if_true] at hq
     exact ⟨.normal, a1, w1, hq, .head step_block (har k (by simp [exitTo, he]))⟩
   · simp only [Exit.inBlock, he, if_false] at hq
     have e2 : (id == id') = false := by simp; exact fun h => he h.symm
     exact ⟨.exit id', a1, w1, hq, fun k' hk => .head step_block (har k' (by simp [exitTo, e2, hk]))⟩
 · exact ⟨_, a1, w1, hq, fun k' hk => .head step_block (har k' (by simp [gotoIn, hk]))⟩
 · exact ⟨_, a1, w1, hq, .of_steps (.one step_block) har⟩
 · exact ⟨_, a1, w1, hq, .of_steps (.one step_block) har⟩
 · exact ⟨_, a1, w1, hq, .of_steps (b := b) (k := k) (cs := cs) (e := .outgrown) (.one step_block) har⟩
theorem wpN_loop {c : Code} (I : Nat -> Act -> World -> Prop) (n : Nat) (h : I n a w) (hr : ∀ n a w, I n a w -> WpN P c (Exit.then (fun a' w' => ∃ m, m < n /\ I m a' w') Q) a w) : WpN P (Code.loop c) Q a w := by
 intro b k cs hb
 have go : ∀ (N : Nat) (n : Nat) (a : Act) (w : World), n <= N -> I n a w -> ∃ e a' w', Q e a' w' /\ Arrives P (lone (b.at a (.code c :: .inLoop c :: k)) cs w) b k cs e a' w' := by
  intro N
  induction N with
  | zero =>
   intro n a w hn hI; obtain ⟨e, a1, w1, hq, har⟩ := hr n a w hI b (.inLoop c :: k) cs hb; rcases e with _ | id | l | _ | ch | _
   · obtain ⟨m, hm, _⟩ := hq; omega
   all_goals exact ⟨_, a1, w1, hq, .pass (x := .inLoop c) rfl (fun _ _ => .inl (by simp)) har⟩
  | succ N ih =>
   intro n a w hn hI; obtain ⟨e, a1, w1, hq, har⟩ := hr n a w hI b (.inLoop c :: k) cs hb; rcases e with _ | id | l | _ | ch | _
   · obtain ⟨m, hm, hI1⟩ := hq
     obtain ⟨e2, a2, w2, hq2, har2⟩ := ih m a1 w1 (by omega) hI1
     exact ⟨e2, a2, w2, hq2, .of_steps (Steps.trans har (.one step_inLoop)) har2⟩
   all_goals exact ⟨_, a1, w1, hq, .pass (x := .inLoop c) rfl (fun _ _ => .inl (by simp)) har⟩
 obtain ⟨e, a', w', hq, har⟩ := go n n a w (Nat.le_refl _) h; exact ⟨e, a', w', hq, .of_steps (.one step_loop) har⟩
theorem wpN_recv_buf {id : Nat} {o o1 o2 : Oper} (cop : Operand) (T : TypeId) (c cap s r : Nat) (buf : Array Value) (z : Value)
  (hop : o.op = Op.select #[{ chan := cop, send := none, elem := T }] false) (hg : o.guard = none) (hc : a.eval cop = .chan (some c)) (hz : ∀ w, (zeroValue T).run P w = .ok z w)
  (hw : w.heap[c]? = some (.chan cap buf false s r false)) (hb : 0 < buf.size)
  (h : wpList P #[o, o1, o2] Q [o1, o2] (a.put o.dst (.tuple #[goInt 0, .bool true, buf.getD 0 undef])) (w.setChan c cap (buf.extract 1 buf.size) false s (r + 1) false)) :
  WpN P (.region id #[o, o1, o2] false) Q a w := by
 refine wpN_step_first (fun b k cs hk => ?_) h
 rw [lone_eq_solo, step_lone_select_recv_buf (stepG_comm (o := o) (cases := #[rcase c z]) (blocking := false) (shape := .select) (w' := w) rfl (by simp [Region.wanted, hg]) (by rw [hk]; decide) (by
  simp [execOp, hop, hc, hz, rcase])) hw hb, Frame.finish_at]
 rfl
theorem wpN_recv_none {id : Nat} {o o1 o2 : Oper} (cop : Operand) (T : TypeId) (c cap s r : Nat) (z : Value)
  (hop : o.op = Op.select #[{ chan := cop, send := none, elem := T }] false) (hg : o.guard = none) (hc : a.eval cop = .chan (some c)) (hz : ∀ w, (zeroValue T).run P w = .ok z w)
  (hw : w.heap[c]? = some (.chan cap #[] false s r false))
  (h : wpList P #[o, o1, o2] Q [o1, o2] (a.put o.dst (.tuple #[goInt (-1), .bool false, z])) w) :
  WpN P (.region id #[o, o1, o2] false) Q a w := by
 refine wpN_step_first (fun b k cs hk => ?_) h
 rw [lone_eq_solo, step_lone_select_default (stepG_comm (o := o) (cases := #[rcase c z]) (blocking := false) (shape := .select) (w' := w) rfl (by simp [Region.wanted, hg]) (by rw [hk]; decide) (by
  simp [execOp, hop, hc, hz, rcase])) hw, Frame.finish_at]
 rfl
end
theorem events_any {x : Nd} (a : Ad) (ov : Value) (w : World) (h : NodeAt w a ov x) :
  Calls Tryz.prog 110 #[.pointer (some ⟨a.b, 0, none⟩)] w fun e w' => e = .returned (.chan (some a.bc)) /\ w = w' := by
 have c12 : w.cell? ⟨a.b, 12, none⟩ = some (.chan (some a.bc)) := h.blk.cell (by omega)
 clear h; go_enter Tryz.func110, Tryz.ntmps110; go_wp2; go_ret
 exact ⟨rfl, rfl⟩
def drN (x : Nd) (most : Int) : Nat := min most.toNat x.events.length
def Nd.drained (x : Nd) (most : Int) : Nd := { x with events := x.events.drop (drN x most) }
def DrI (ov : Value) (w0 : World) (a0 : Ad) (x : Nd) (g : Nat) (most : Int) (m : Nat) (a : Act) (w : World) : Prop :=
 ∃ (k : Nat) (v u2 u3 u4 u6 u7 u8 u9 u10 u11 u12 u13 u14 u15 u16 u17 u18 u19 u20 u21 u22 u23 u24 u25 : Value), m + k = x.events.length /\ (k : Int) <= max most 0 /\ Turned ov w0 a0 x w a0 { x with events := x.events.drop k } /\
  w.ownsRow w0.heap.size 76 3 v k (Kd (x.events.take k)) /\ w.heap[g]? = some (.cells #[.pointer (some ⟨a0.b, 0, none⟩)] 99 (0, 0)) /\
  a = { tmps := #[.pointer (some ⟨g, 0, none⟩), .int .i64 most, u2, u3, u4, v, u6, u7, u8, u9, u10, u11, u12, u13, u14, u15, u16, u17, u18, u19, u20, u21, u22, u23, u24, u25], defers := [] }
theorem drain_any {x : Nd} (he : x.events.length <= 8) (a : Ad) (ov : Value) (g : Nat) (w : World) (h : NodeAt w a ov x) (hg : w.heap[g]? = some (.cells #[.pointer (some ⟨a.b, 0, none⟩)] 99 (0, 0))) (hf : ¬ Zh a x g) (most : Int) :
  Calls Tryz.prog 74 #[.pointer (some ⟨g, 0, none⟩), .int .i64 most] w fun e w' => ∃ v, e = .returned v /\ w'.ownsRow w.heap.size 76 3 v (drN x most) (Kd (x.events.take (drN x most))) /\ Turned ov w a x w' a (x.drained most) := by
 refine calls_of_wpN Tryz.func74 rfl ?_
 simp only [Tryz.ntmps74, List.size_toArray, List.length_cons, List.length_nil, Nat.reduceAdd, Nat.reduceSub, Array.replicate_succ,
  Array.replicate_zero, List.push_toArray, List.append_toArray, List.nil_append, List.cons_append]
 have H := Hd h; have HG := Hd hg; clear h hg; have hsg := Kb HG.out; obtain ⟨i0, hi, hz0, hz1, hz2⟩ := info_parts info_key; refine wpN_first (fun K0 hK => ?_)
 go_wp2; refine wpN_first (fun K0 hK => ?_)
 go_wp2; refine wpN_seq ?_; refine wpN_block ?_; refine wpN_loop (DrI ov w a x g most) x.events.length ?_ ?_
 · exact ⟨0, _, _, _, _, _, _, _, _, _, _, _, _, _, _, _, _, _, _, _, _, _, _, _, _, by omega, by omega, Turned.refl H.out, World.ownsRow_nil _ _ _ _, HG.out, rfl⟩
 intro m act W hI; obtain ⟨k, v, u2, u3, u4, u6, u7, u8, u9, u10, u11, u12, u13, u14, u15, u16, u17, u18, u19, u20, u21, u22, u23, u24, u25, e1, e2, hT, hrow, hgW, rfl⟩ := hI; obtain ⟨va, vc, rfl⟩ := Kg hrow; have cg := Ka hgW 0; simp only [List.getElem?_toArray, List.getElem?_cons_zero] at cg; have HT := Hd hT; have HROW := Hd hrow; have HGW := Hd hgW; clear hT hrow hgW; refine wpN_first (fun K0 hK => ?_)
 by_cases hlt : (k : Int) < most
 · go_wp2
   refine wpN_block ?_; refine wpN_first (fun K0 hK => ?_)
   go_wp2_with (go_at_call 110; refine (events_any a ov W HT.out.node).mono ?_; rintro e w2 ⟨rfl, rfl⟩)
   refine wpN_seq ?_; obtain ⟨s, r, hch⟩ := HT.out.node.chan; simp only at hch; by_cases hm : m = 0
   · have hd : x.events.drop k = [] := List.drop_eq_nil_of_le (by omega)
     rw [hd] at hch; have HCH := Hd hch; clear hch hd; refine wpN_recv_none (Operand.tmp 15) 76 a.bc 8 s r (.agg #[.int .i64 0, .int .i64 0, .int .i64 0]) rfl rfl rfl zero_key HCH.out ?_; have hdr : drN x most = k := by unfold drN; omega
     have HDR := Hd hdr; clear hdr; go_wp2; refine wpN_of_wp ?_; go_wp2; go_ret
     exact ⟨_, rfl, by rw [HDR.out]; exact HROW.out, by unfold Nd.drained; rw [HDR.out]; exact HT.out⟩
   · obtain ⟨ev, hev⟩ : ∃ ev, x.events[k]? = some ev := ⟨_, List.getElem?_eq_getElem (by omega)⟩
     have hdc : x.events.drop k = ev :: x.events.drop (k + 1) := by
      obtain ⟨hl, e⟩ := List.getElem?_eq_some_iff.1 hev; rw [<- e]; exact List.drop_eq_getElem_cons hl
     have htk : x.events.take (k + 1) = x.events.take k ++ [ev] := by rw [List.take_add_one, hev]; rfl
     rw [hdc] at hch; obtain ⟨id, inc, st⟩ := ev; have hbuf : (((⟨id, inc, st⟩ : K) :: x.events.drop (k + 1)).map K.v).toArray.getD 0 undef = .agg #[.int .i64 id, .int .i64 inc, .int .i64 st] := rfl; have hext : (((⟨id, inc, st⟩ : K) :: x.events.drop (k + 1)).map K.v).toArray.extract 1 (((⟨id, inc, st⟩ : K) :: x.events.drop (k + 1)).map K.v).toArray.size = ((x.events.drop (k + 1)).map K.v).toArray := by simp; rw [List.take_of_length_le (by simp)]
     have hsz : 0 < (((⟨id, inc, st⟩ : K) :: x.events.drop (k + 1)).map K.v).toArray.size := by simp
     obtain ⟨buf, hb⟩ : ∃ buf, (((⟨id, inc, st⟩ : K) :: x.events.drop (k + 1)).map K.v).toArray = buf := ⟨_, rfl⟩; rw [hb] at hch hbuf hext hsz; obtain ⟨w2, hw2⟩ : ∃ w2, W.setChan a.bc 8 ((x.events.drop (k + 1)).map K.v).toArray false s (r + 1) false = w2 := ⟨_, rfl⟩
     have hap : Chg (fun j _ => j = a.bc) W w2 := by
      rw [<- hw2]; exact ⟨rfl, rfl, rfl, by rw [Conc.size_setChan]; exact Nat.le_refl _, fun j o ho hj => by rw [Conc.heap_setChan_ne _ _ _ _ _ _ _ (fun e => hj e.symm)]; exact ho⟩
     have hN2 : NodeAt w2 a ov { x with events := x.events.drop (k + 1) } := by
      refine HT.out.node.setChan (Kn hap) ⟨s, r + 1, ?_⟩; rw [<- hw2, Conc.heap_setChan _ _ _ _ _ _ _ _ (Kb hch)]
     have hT2 : Turned ov w a x w2 a { x with events := x.events.drop (k + 1) } :=
      HT.out.trans ⟨hN2, hap.mono (fun j _ _ hj => by have hj : j = a.bc := hj; subst hj; exact Or.inr (.inr (.inr (.inr (.inl rfl))))), fun _ => .inl, rfl⟩
     have hbco : Zh a x a.bc := .inr (.inr (.inr (.inr (.inl rfl)))); have hbcl := H.out.owns_lt hbco
     have hrow2 : w2.ownsRow w.heap.size 76 3 (.slice va k vc) k (Kd (x.events.take k)) := Kq HROW.out hap (fun j o e hj => by
      have := (HROW.out.lt j e).1; subst hj; omega)
     have hg2 : w2.heap[g]? = some (.cells #[.pointer (some ⟨a.b, 0, none⟩)] 99 (0, 0)) := hap.kept _ _ HGW.out (fun e => hf (e ▸ hbco))
     have hszw : w.heap.size <= w2.heap.size := hT2.chg.size; have HCH := Hd hch; have HBUF := Hd hbuf; have HEXT := Hd hext; have HW2 := Hd hw2; have HT2 := Hd hT2; have HG2 := Hd hg2; have HTK := Hd htk; have HR2 := Hd hrow2; clear hev hdc hch hbuf hext hb hw2 hap hN2 hT2 hrow2 hg2 htk hbco cg; refine wpN_recv_buf (Operand.tmp 15) 76 a.bc 8 s r buf (.agg #[.int .i64 0, .int .i64 0, .int .i64 0]) rfl rfl rfl zero_key HCH.out hsz ?_; rw [HBUF.out, HEXT.out, HW2.out]; have hrw3 : ∀ o o', ((w2.alloc o).alloc o').ownsRow w.heap.size 76 3 (.slice va k vc) k (Kd (x.events.take k)) := fun o o' => (HR2.out.alloc o).alloc o'
     have HRW3 := Hd hrw3; have hnew := Jx (w2.alloc (.cells #[.int .i64 id, .int .i64 inc, .int .i64 st] 76)) [.int .i64 id, .int .i64 inc, .int .i64 st] 76; rw [World.size_alloc] at hnew; have HNEW : Hid (Ki ((w2.alloc (.cells #[.int .i64 id, .int .i64 inc, .int .i64 st] 76)).alloc (.cells #[.int .i64 id, .int .i64 inc, .int .i64 st] 76)) (some ⟨w2.heap.size + 1, 0, none⟩) [.int .i64 id, .int .i64 inc, .int .i64 st]) := hnew; have k3 : k + 1 <= maxLen := by unfold maxLen; omega
     have K3 := Hd k3; clear hrw3 hnew k3 HBUF HEXT hsz; go_wp2; refine wpN_of_wp ?_; go_wp2_with (at_builtin; go_loud (refine Km _ rfl _ _ 46 rfl w.heap.size 76 i0 _ 3 24 Tryz.underlying46 hi hz0 hz1 hz2 rfl (by decide) (.slice va k vc) k _ rfl (HRW3.out _ _) (some ⟨w2.heap.size + 1, 0, none⟩) 1 1 _ rfl rfl HNEW.out (by simp [Value.oneCell']) K3.out (by omega) (by simp; omega) ?_))
     intro a7 c7 w7 hl7 hto7; have hC7 : Chg (fun j _ => (Value.slice va k vc).ownBlock = some j) w2 w7 := (((Chg.refl _ w2).alloc _).alloc _).grown hto7.grown (fun j o e _ => e)
     have hT7 : Turned ov w a x w7 a { x with events := x.events.drop (k + 1) } := by
      refine ⟨HT2.out.node.keep (fun j hj => Kn hC7 j (fun e => ?_) (HT2.out.node.owns_lt hj)), ⟨hC7.os.trans HT2.out.chg.os, hC7.tape.trans HT2.out.chg.tape, hC7.output.trans HT2.out.chg.output, Nat.le_trans HT2.out.chg.size hC7.size, fun i o ho hs => hC7.kept i o (HT2.out.chg.kept i o ho hs) (fun e => ?_)⟩, HT2.out.own, rfl⟩
      · have h1 := (HR2.out.lt j e).1
        have h2 : Zh a x j := hj; have := H.out.owns_lt h2; omega
      · have h1 := (HR2.out.lt i e).1
        have := Kb ho; omega
     have hg7 := hC7.kept _ _ HG2.out (fun e => by have := (HR2.out.lt g e).1; omega)
     have HL7 := Hd hl7; have HT7 := Hd hT7; have HG7 := Hd hg7; clear hl7 hto7 hC7 hT7 hg7; go_wp2; refine ⟨m - 1, by omega, k + 1, .slice a7 (k + 1) c7, _, _, _, _, _, _, _, _, _, _, _, _, _, _, _, _, _, _, _, _, _, _, _, by omega, by omega, HT7.out, ?_, HG7.out, rfl⟩
     have e : Kd (x.events.take k ++ [⟨id, inc, st⟩]) = Kd (x.events.take k) ++ [.int .i64 id, .int .i64 inc, .int .i64 st] := by simp [Kd]
     rw [HTK.out, e]; exact HL7.out
 · have hdr : drN x most = k := by unfold drN; omega
   have HDR := Hd hdr; clear hdr; go_wp2; refine wpN_of_wp ?_; go_wp2; go_ret
   exact ⟨_, rfl, by rw [HDR.out]; exact HROW.out, by unfold Nd.drained; rw [HDR.out]; exact HT.out⟩
end Go.Proofs.YtfngdplkcppabaaGreatDoor
namespace Go.Proofs.YtfngdplkcppabaaGreatDoor
open Go.RowKit
theorem told_any (e : Int) (w : World) (hg : Jc w) : Calls Tryz.prog 26 #[errV e, .int .i64 e] w fun r w' => r = .returned (.bool true) /\ Below w.heap.size w w' := by
 by_cases h : e = 0
 · subst h
   refine (ltold_ok w).mono ?_; rintro r w' ⟨rfl, rfl⟩; exact ⟨rfl, Below.refl _ _⟩
 · have he : errV e = .iface 111 (.int .i64 e) := by unfold errV; rw [if_neg h]
   rw [he]; exact ltold_err e w h hg
theorem leave_any {x : Nd} (ho : Ok x) {C : Int} (hbd : Bd C x) (hC : C <= 1000000000000) (a : Ad) (ov : Value) (w : World) (h : NodeAt w a ov x) :
  Calls Tryz.prog 39 #[.pointer (some ⟨a.b, 0, none⟩)] w fun e w' => e = .returned (errV x.leave.1) /\ ∃ a', Turned ov w a x w' a' x.leave.2 := by
 have c9 : w.cell? ⟨a.b, 9, none⟩ = some (.int .i64 x.self.st) := h.blk.cell (by omega)
 have c7 : w.cell? ⟨a.b, 7, none⟩ = some (.int .i64 x.self.id) := h.blk.cell (by omega)
 have c8 : w.cell? ⟨a.b, 8, none⟩ = some (.int .i64 x.self.inc) := h.blk.cell (by omega)
 have f9 := h.blk.free 9; by_cases h4 : x.self.st = 4
 · have e : x.leave = (4, x) := by unfold Nd.leave; rw [if_pos h4]
   rw [e]; have hb : (x.self.st == 4) = true := by simpa using h4
   have HT := Hd (Turned.refl h); clear e h4 h ho hbd; go_enter Tryz.func39, Tryz.ntmps39; go_wp2; go_ret
   exact ⟨rfl, a, HT.out⟩
 · have e : x.leave = (0, ({ x with self := { x.self with st := 4 } } : Nd).changed { x.self with st := 4 }) := by unfold Nd.leave; rw [if_neg h4]
   rw [e]; have hb : (x.self.st == 4) = false := by simpa using h4
   have hT1 : Turned ov w a x (w.setCell ⟨a.b, 9, none⟩ (.int .i64 4)) a { x with self := { x.self with st := 4 } } := by
    refine ⟨?_, (Chg.refl _ _).setCell _ (fun _ _ => .inl rfl), fun _ => .inl, rfl⟩
    refine h.setNode (Kn ((Chg.refl _ _).setCell _ (fun _ _ => rfl))) ?_ ⟨rfl, rfl, rfl, rfl, rfl, rfl, rfl, rfl, rfl⟩
    exact (h.blk.set (i := 9) (by omega) (.int .i64 4)).congr (by (intro i hi; rcases i with _ | _ | _ | _ | _ | _ | _ | _ | _ | _ | _ | _ | _ | _ | _ | _ | _ | _ | _ | _ | _ | _ | _ | _ | _ | _ | _ | i <;> first | rfl | exact absurd hi (by omega)))
   have hks : Jp { x.self with st := 4 } := ⟨ho.self.1, ho.self.2.1, by show (1 : Int) <= 4 /\ (4 : Int) <= 4; omega⟩
   have hok1 : Ok { x with self := { x.self with st := 4 } } := { ho with self := hks }; have hlost := hbd.lost; have hch := changed_any a ov { x with self := { x.self with st := 4 } } { x.self with st := 4 } _ hT1.node (by have := ho.qlen; show x.queue.length < 1000000; omega) (by have := ho.self.1; unfold fitsI; show _ <= x.self.id /\ x.self.id <= _; omega) (by show _ <= x.lost /\ x.lost < _; omega) ho.evs
   have HT1 := Hd hT1; have HCH := Hd hch; clear e h4 h ho hbd hT1 hks hok1 hch; go_enter Tryz.func39, Tryz.ntmps39; go_wp2_with fail
   refine HCH.out.mono ?_; rintro e w2 ⟨rfl, hT2⟩; have HT2 := Hd (HT1.out.trans hT2); clear hT2; go_wp2; go_ret
   exact ⟨rfl, a, HT2.out⟩
theorem own_low {w : World} {B B' t s n : Nat} {v : Value} {xs : List Value} (h : w.ownsRow B t s v n xs) (hB : B' <= B) : w.ownsRow B' t s v n xs := by
 refine ⟨h.1, ?_⟩; rcases h.2 with hn | ⟨g, cap, cur, rfl, hb, hg, rest⟩
 · exact .inl hn
 · exact .inr ⟨g, cap, cur, rfl, Nat.le_trans hB hb, hg, rest⟩
theorem RfAt.lower {w : World} {B B' b : Nat} {f : Nat -> Value} {x : Nd} (h : RfAt w B b f x) (hB : B' <= B) : RfAt w B' b f x :=
 { h with lo := Nat.le_trans hB h.lo, oth := own_low h.oth hB, pas := own_low h.pas hB, que := own_low h.que hB, rel := own_low h.rel hB, evs := own_low h.evs hB }
theorem BxAt.lower {w : World} {B B' : Nat} {q : Bx} (h : BxAt w B q) (hB : B' <= B) : BxAt w B' q := ⟨h.node, h.box, h.free, fun k hk => Nat.le_trans hB (h.low k hk)⟩
theorem BxAt.below {w w' : World} {B : Nat} {q : Bx} (h : BxAt w B q) (hb : Below w.heap.size w w') : BxAt w' B q := h.keep (fun _ hk => hb.block _ (h.lt hk))
theorem EnAt.lower {w : World} {B B' : Nat} {e : En} (h : EnAt w B e) (hB : B' <= B) : EnAt w B' e := ⟨h.blk, Nat.le_trans hB h.low, h.p.lower hB, h.q.lower hB, h.r.lower hB⟩
theorem Ens.add {w w' : World} {B0 : Nat} {F : Nat -> Prop} {l : List En} (h : Ens w B0 F l) (hb : Below w.heap.size w w') {e : En} (he : EnAt w' B0 e) (hap : ∀ c d, c ≠ d -> c < 3 -> d < 3 -> ∀ k, Pc e c k -> ¬ Pc e d k)
  (hnew : ∀ c k, c < 3 -> Pc e c k -> w.heap.size <= k) (h6 : ∀ k, (e.f 6).ownBlock = some k -> F k) : Ens w' B0 F (l ++ [e]) := by
 have h' := h.below hb; have hF : ∀ k, F k -> k < w.heap.size := fun k hk => by obtain ⟨cs, t, fr, h1, _⟩ := h.fx k hk; exact Kb h1
 have hold : ∀ e' ∈ l, ∀ c k, Pc e' c k -> k < w.heap.size := fun e' hm c k hk => ((h.at_ e' hm).lt hk).2
 have hgt : ∀ j e', (l ++ [e])[j]? = some e' -> (j < l.length /\ l[j]? = some e') \/ (j = l.length /\ e' = e) := fun j e' hj => by
  by_cases hjl : j < l.length
  · rw [List.getElem?_append_left hjl] at hj; exact .inl ⟨hjl, hj⟩
  · have := (List.getElem?_eq_some_iff.1 hj).1
    simp only [List.length_append, List.length_cons, List.length_nil] at this; have hj2 : j = l.length := by omega
    subst hj2
    simp at hj
    exact .inr ⟨rfl, hj.symm⟩
 refine ⟨fun e' he' => ?_, fun i j c d e1 e2 h1 h2 hne hc hd k p1 p2 => ?_, fun e' he' k hk => ?_, h'.fx, fun k hk e' he' c hc hp => ?_⟩
 · rcases List.mem_append.1 he' with hm | hm
   · exact h'.at_ e' hm
   · rw [List.mem_singleton] at hm; subst hm; exact he
 · rcases hgt i e1 h1 with ⟨_, g1⟩ | ⟨g1, rfl⟩
   · rcases hgt j e2 h2 with ⟨_, g2⟩ | ⟨g2, rfl⟩
     · exact h.apart i j c d e1 e2 g1 g2 hne hc hd k p1 p2
     · have := hold e1 (List.mem_of_getElem? g1) c k p1
       have := hnew d k hd p2; omega
   · rcases hgt j e2 h2 with ⟨_, g2⟩ | ⟨g2, rfl⟩
     · have := hold e2 (List.mem_of_getElem? g2) d k p2
       have := hnew c k hc p1; omega
     · exact hap c d (hne.elim (fun h => absurd (g1.trans g2.symm) h) id) hc hd k p1 p2
 · rcases List.mem_append.1 he' with hm | hm
   · exact h.rd e' hm k hk
   · rw [List.mem_singleton] at hm; subst hm; exact h6 k hk
 · rcases List.mem_append.1 he' with hm | hm
   · exact h.off k hk e' hm c hc hp
   · rw [List.mem_singleton] at hm; subst hm
     have := hF k hk; have := hnew c k hc hp; omega
def EMade (c : Cfg) (ds : List Int) (dv : Value) (w : World) (e : Ending) (w' : World) : Prop :=
 Below w.heap.size w w' /\ ((cfgB c = false /\ e = .returned (.tuple #[.pointer none, .bool true])) \/
  (cfgB c = true /\ ∃ en : En, e = .returned (.tuple #[en.v, .bool true]) /\ EnAt w' w.heap.size en /\ en.p.x = Nd.new c ds /\ en.q.x = Nd.new c ds /\ en.r = Nd.new c ds /\ en.f 6 = dv /\
   (∀ c d, c ≠ d -> c < 3 -> d < 3 -> ∀ k, Pc en c k -> ¬ Pc en d k)))
theorem told_zero (w : World) (hg : Jc w) : Calls Tryz.prog 26 #[.nilIface, .int .i64 0] w fun r w' => r = .returned (.bool true) /\ Below w.heap.size w w' := told_any 0 w hg
theorem made_any (c : Cfg) (ds : List Int) (da : Option Addr) (n dc : Nat) (w : World) (hg : Jc w) (hn : ds.length = n) (hl : n < 1000000) (hi : IntIn w da ds) (hf : ∀ v ∈ ds, fits v) (hc : fits c.period) :
  Calls Tryz.prog 17 #[cfgVals c, .slice da n dc] w (EMade c ds (.slice da n dc) w) := by
 obtain ⟨w1, hw1⟩ : ∃ w1, w.alloc (.cells #[.int .i64 c.self, .int .i64 c.period, .int .i64 c.wait, .int .i64 c.susp, .int .i64 c.prox, .int .i64 c.sends] 35) = w1 := ⟨_, rfl⟩; have hb1 : Below w.heap.size w w1 := by rw [<- hw1]; exact (Below.refl _ _).alloc (Nat.le_refl _) _
 have hx1 : w1.heap[w.heap.size]? = some (.cells #[.int .i64 c.self, .int .i64 c.period, .int .i64 c.wait, .int .i64 c.susp, .int .i64 c.prox, .int .i64 c.sends] 35 (0, 0)) := by rw [<- hw1]; exact Kc w _
 have hI : ∀ W, Below w.heap.size w W -> IntIn W da ds := fun W hW => hi.keep (n := n) (c := dc) (fun k hk => by
  cases da with
  | none => simp [Value.ownBlock] at hk
  | some p =>
   simp only [Value.ownBlock, Option.some.injEq] at hk; obtain ⟨cs, fr, hg⟩ := hi.2 p rfl; rw [<- hk]; exact hW.block _ (Kb hg))
 have hX : ∀ W, Below w1.heap.size w1 W -> (W.cell? ⟨w.heap.size, 0, none⟩ = some (.int .i64 c.self) /\ W.cell? ⟨w.heap.size, 1, none⟩ = some (.int .i64 c.period) /\ W.cell? ⟨w.heap.size, 2, none⟩ = some (.int .i64 c.wait) /\ W.cell? ⟨w.heap.size, 3, none⟩ = some (.int .i64 c.susp) /\ W.cell? ⟨w.heap.size, 4, none⟩ = some (.int .i64 c.prox) /\ W.cell? ⟨w.heap.size, 5, none⟩ = some (.int .i64 c.sends)) := fun W hW => by
  refine ⟨?_, ?_, ?_, ?_, ?_, ?_⟩ <;> (rw [hW.cell (Kb hx1), Ka hx1]; rfl)
 have hlt1 : w.heap.size < w1.heap.size := Kb hx1; have HI := Hd hI; have HX := Hd hX; have HB1 := Hd hb1; have HW1 := Hd hw1; have HG := Hd hg; have HF := Hd hf; have HC := Hd hc; have HN := Hd hn; clear hb1 hx1 hi hI hX hw1 hg hf hc hn; cases hcb : cfgB c with
 | false =>
  have HCB := Hd hcb; clear hcb; obtain ⟨x0, x1, x2, x3, x4, x5⟩ := HX.out w1 (Below.refl _ _); unfold cfgVals; go_enter Tryz.func17, Tryz.ntmps17; go_wp2_with fail
  rw [HW1.out]; refine (config_any c _).mono ?_; rintro e w2 ⟨rfl, hbw2⟩; have Hw2 : Hid (Below w1.heap.size w1 w2) := Hd (hbw2); clear hbw2 x0 x1 x2 x3 x4 x5; go_wp2_with fail
  refine (plainNew_bad c HCB.out HC.out ds da n dc _ HN.out hl (HI.out _ (HB1.out.trans (Hw2.out.mono HB1.out.size))).1).mono ?_; rintro e w3 ⟨rfl, hbw3⟩; have Hw2w3 := Hd hbw3; have Hw3 : Hid (Below w1.heap.size w1 w3) := Hd (Hw2.out.trans (hbw3.mono Hw2.out.size)); obtain ⟨x0, x1, x2, x3, x4, x5⟩ := HX.out w3 Hw3.out; clear hbw3; go_wp2_with fail
  refine (config_any c _).mono ?_; rintro e w4 ⟨rfl, hbw4⟩; have Hw3w4 := Hd hbw4; have Hw4 : Hid (Below w1.heap.size w1 w4) := Hd (Hw3.out.trans (hbw4.mono Hw3.out.size)); clear hbw4 x0 x1 x2 x3 x4 x5; go_wp2_with fail
  refine (plainNew_bad c HCB.out HC.out ds da n dc _ HN.out hl (HI.out _ (HB1.out.trans (Hw4.out.mono HB1.out.size))).1).mono ?_; rintro e w5 ⟨rfl, hbw5⟩; have Hw4w5 := Hd hbw5; have Hw5 : Hid (Below w1.heap.size w1 w5) := Hd (Hw4.out.trans (hbw5.mono Hw4.out.size)); obtain ⟨x0, x1, x2, x3, x4, x5⟩ := HX.out w5 Hw5.out; clear hbw5; go_wp2_with fail
  refine (rnew_any c ds da n dc _ HN.out (HI.out _ (HB1.out.trans (Hw5.out.mono HB1.out.size))) HF.out HC.out).mono ?_; rintro e w6 ⟨hb6, ⟨_, rfl⟩ | ⟨hc', _⟩⟩
  case inr => rw [HCB.out] at hc'; cases hc'
  have H56 := Hd hb6; have Hw6 : Hid (Below w1.heap.size w1 w6) := Hd (Hw5.out.trans (hb6.mono Hw5.out.size)); clear hb6 x0 x1 x2 x3 x4 x5; go_wp2_with fail
  refine (told_any 1 _ (HG.out.below (HB1.out.trans (Hw6.out.mono HB1.out.size)))).mono ?_; rintro e w7 ⟨rfl, hb7⟩; have H67 := Hd hb7; have Hw7 : Hid (Below w1.heap.size w1 w7) := Hd (Hw6.out.trans (hb7.mono Hw6.out.size)); clear hb7; go_wp2_with fail
  refine (told_any 1 _ (HG.out.below (HB1.out.trans (Hw7.out.mono HB1.out.size)))).mono ?_; rintro e w8 ⟨rfl, hb8⟩; have H78 := Hd hb8; have Hw8 : Hid (Below w1.heap.size w1 w8) := Hd (Hw7.out.trans (hb8.mono Hw7.out.size)); clear hb8; go_wp2; go_ret2
  exact ⟨HB1.out.trans (Hw8.out.mono HB1.out.size), .inl ⟨HCB.out, rfl⟩⟩
 | true =>
  have HCB := Hd hcb; clear hcb; obtain ⟨x0, x1, x2, x3, x4, x5⟩ := HX.out w1 (Below.refl _ _); unfold cfgVals; go_enter Tryz.func17, Tryz.ntmps17; go_wp2_with fail
  rw [HW1.out]; refine (config_any c _).mono ?_; rintro e w2 ⟨rfl, hbw2⟩; have Hw2 : Hid (Below w1.heap.size w1 w2) := Hd (hbw2); clear hbw2 x0 x1 x2 x3 x4 x5; go_wp2_with fail
  refine (plainNew_any c HCB.out ds HF.out da n dc _ HN.out hl (HI.out _ (HB1.out.trans (Hw2.out.mono HB1.out.size))).1).mono ?_; rintro e w3 ⟨q1, hq1x, rfl, hq1a, hbw3⟩; have Hq1X := Hd hq1x; have Hq1A := Hd hq1a; clear hq1x hq1a; have Hw2w3 := Hd hbw3; have Hw3 : Hid (Below w1.heap.size w1 w3) := Hd (Hw2.out.trans (hbw3.mono Hw2.out.size)); obtain ⟨x0, x1, x2, x3, x4, x5⟩ := HX.out w3 Hw3.out; clear hbw3; go_wp2_with fail
  refine (config_any c _).mono ?_; rintro e w4 ⟨rfl, hbw4⟩; have Hw3w4 := Hd hbw4; have Hw4 : Hid (Below w1.heap.size w1 w4) := Hd (Hw3.out.trans (hbw4.mono Hw3.out.size)); clear hbw4 x0 x1 x2 x3 x4 x5; go_wp2_with fail
  refine (plainNew_any c HCB.out ds HF.out da n dc _ HN.out hl (HI.out _ (HB1.out.trans (Hw4.out.mono HB1.out.size))).1).mono ?_; rintro e w5 ⟨q2, hq2x, rfl, hq2a, hbw5⟩; have Hq2X := Hd hq2x; have Hq2A := Hd hq2a; clear hq2x hq2a; have Hw4w5 := Hd hbw5; have Hw5 : Hid (Below w1.heap.size w1 w5) := Hd (Hw4.out.trans (hbw5.mono Hw4.out.size)); obtain ⟨x0, x1, x2, x3, x4, x5⟩ := HX.out w5 Hw5.out; clear hbw5; go_wp2_with fail
  refine (rnew_any c ds da n dc _ HN.out (HI.out _ (HB1.out.trans (Hw5.out.mono HB1.out.size))) HF.out HC.out).mono ?_; rintro e w6 ⟨hb6, ⟨hc', _⟩ | ⟨_, b, f, rfl, hra, hr6, hrn⟩⟩
  case inl => rw [HCB.out] at hc'; cases hc'
  have HRA := Hd hra; have HR6 := Hd hr6; have HRN := Hd hrn; clear hra hr6 hrn; have H56 := Hd hb6; have Hw6 : Hid (Below w1.heap.size w1 w6) := Hd (Hw5.out.trans (hb6.mono Hw5.out.size)); clear hb6 x0 x1 x2 x3 x4 x5; go_wp2_with fail
  refine (told_zero _ (HG.out.below (HB1.out.trans (Hw6.out.mono HB1.out.size)))).mono ?_; rintro e w7 ⟨rfl, hb7⟩; have H67 := Hd hb7; have Hw7 : Hid (Below w1.heap.size w1 w7) := Hd (Hw6.out.trans (hb7.mono Hw6.out.size)); clear hb7; go_wp2_with fail
  refine (told_zero _ (HG.out.below (HB1.out.trans (Hw7.out.mono HB1.out.size)))).mono ?_; rintro e w8 ⟨rfl, hb8⟩; have H78 := Hd hb8; have Hw8 : Hid (Below w1.heap.size w1 w8) := Hd (Hw7.out.trans (hb8.mono Hw7.out.size)); clear hb8; go_wp2; have e68 : Below w6.heap.size w6 w8 := H67.out.trans (H78.out.mono H67.out.size); have e38 : Below w3.heap.size w3 w8 := ((Hw3w4.out.trans (Hw4w5.out.mono Hw3w4.out.size)).trans (H56.out.mono (Nat.le_trans Hw3w4.out.size Hw4w5.out.size))).trans (e68.mono (Nat.le_trans (Nat.le_trans Hw3w4.out.size Hw4w5.out.size) H56.out.size)); have s23 := Hw2w3.out.size; have s34 := Hw3w4.out.size; have s45 := Hw4w5.out.size; have s56 := H56.out.size; have s12 := Hw2.out.size; have s01 := HB1.out.size; have e8 : Below w1.heap.size w1 (w8.alloc (.cells #[.pointer (some ⟨q1.g, 0, none⟩), .pointer (some ⟨q2.g, 0, none⟩), .pointer (some ⟨b, 0, none⟩)] 88)) := Hw8.out.alloc Hw8.out.size _; have a3 : BxAt (w8.alloc (.cells #[.pointer (some ⟨q1.g, 0, none⟩), .pointer (some ⟨q2.g, 0, none⟩), .pointer (some ⟨b, 0, none⟩)] 88)) w.heap.size q1 := (Hq1A.out.below (e38.alloc e38.size _)).lower (by omega)
  have a5 : BxAt (w8.alloc (.cells #[.pointer (some ⟨q1.g, 0, none⟩), .pointer (some ⟨q2.g, 0, none⟩), .pointer (some ⟨b, 0, none⟩)] 88)) w.heap.size q2 := by
   have e58 : Below w5.heap.size w5 w8 := H56.out.trans (e68.mono s56); exact (Hq2A.out.below (e58.alloc e58.size _)).lower (by omega)
  have a6 : RfAt (w8.alloc (.cells #[.pointer (some ⟨q1.g, 0, none⟩), .pointer (some ⟨q2.g, 0, none⟩), .pointer (some ⟨b, 0, none⟩)] 88)) w.heap.size b f (Nd.new c ds) := (HRA.out.below (e68.alloc e68.size _)).lower (by omega)
  have p0 : ∀ k, Foot q1 k -> w.heap.size <= k /\ k < w3.heap.size := fun k hk => ⟨by have := Hq1A.out.low k hk; omega, Hq1A.out.lt hk⟩
  have p1 : ∀ k, Foot q2 k -> w4.heap.size <= k /\ k < w5.heap.size := fun k hk => ⟨Hq2A.out.low k hk, Hq2A.out.lt hk⟩
  have p2 : ∀ k, RFoot b f k -> w5.heap.size <= k := HRN.out; go_ret2
  refine ⟨HB1.out.trans (e8.mono s01), .inr ⟨HCB.out, ⟨w8.heap.size, q1, q2, b, f, Nd.new c ds⟩, rfl, ⟨Kc w8 _, by show w.heap.size <= w8.heap.size; have := Hw8.out.size; omega, a3, a5, a6⟩, Hq1X.out, Hq2X.out, rfl, HR6.out, ?_⟩⟩
  intro c1 c2 hne h1 h2 k hk1 hk2
  have cases3 : ∀ m : Nat, m < 3 -> Pc ⟨w8.heap.size, q1, q2, b, f, Nd.new c ds⟩ m k -> (m = 0 /\ Foot q1 k) \/ (m = 1 /\ Foot q2 k) \/ (m = 2 /\ RFoot b f k) := fun m hc hp => by
   rcases m with _ | _ | m
   · exact .inl ⟨rfl, hp⟩
   · exact .inr (.inl ⟨rfl, hp⟩)
   · exact .inr (.inr ⟨by omega, hp⟩)
  rcases cases3 c1 h1 hk1 with ⟨e1, f1⟩ | ⟨e1, f1⟩ | ⟨e1, f1⟩ <;> rcases cases3 c2 h2 hk2 with ⟨e2, f2⟩ | ⟨e2, f2⟩ | ⟨e2, f2⟩
  · exact hne (e1.trans e2.symm)
  · have := p0 k f1; have := p1 k f2; omega
  · have := p0 k f1; have := p2 k f2; omega
  · have := p1 k f1; have := p0 k f2; omega
  · exact hne (e1.trans e2.symm)
  · have := p1 k f1; have := p2 k f2; omega
  · have := p2 k f1; have := p0 k f2; omega
  · have := p2 k f1; have := p1 k f2; omega
  · exact hne (e1.trans e2.symm)
theorem info_pks : (Tryz.prog.info? 77).map (fun i => (i.zero, i.size, i.bytes)) = some (some (.slice none 0 0), 1, 24) := by kernel_rfl
theorem size_pk : (Tryz.prog.info? 78).map (·.size) = some 2 := by kernel_rfl
theorem make_pks (n : Nat) (hn : n <= 2000000) : ∃ cs : Array Value, (∀ W : World, (Instr.makeSlice 77 (.int .i64 (n : Int)) (.int .i64 (n : Int))).run Tryz.prog W = .ok (.slice (some ⟨W.heap.size, 0, none⟩) n n) (W.alloc (.cells cs 78))) /\ cs.size = n * 2 := by
 obtain ⟨i0, hi, hz0, hz1, hz2⟩ := info_parts info_pk; refine ⟨madeCells (Value.agg #[.int .i64 0, .string ⟨#[]⟩]).cells (n * 2), fun W => ?_, size_madeCells _ _⟩
 have hr := run_make (P := Tryz.prog) W 77 78 i0 _ Tryz.underlying77 hi hz0 .i64 .i64 n n (by omega) (Int.le_refl _) (by rw [hz2]; omega) (by omega)
 simp only [Int.toNat_natCast, hz1] at hr; exact hr
theorem holdOut_any (b : Nat) (f : Nat -> Value) (lv wv : Value) (xs ys : List Value) (nl : Nat) (L : List (Int × ByteArray)) (a : Option Addr) (n cap B0 : Nat) (w : World)
  (hW : WB w b f) (h18 : f 18 = lv) (h19 : f 19 = wv) (hl : w.ownsRow B0 77 1 lv nl xs) (hw : w.ownsRow B0 77 1 wv nl ys)
  (hne : ∀ g, lv.ownBlock = some g -> wv.ownBlock ≠ some g) (hnl : nl <= 1000000) (hL : L.length = n) (hn : n <= 1000000) (hB : B0 <= w.heap.size) (hk : Ki w a (Kk L)) :
  Calls Tryz.prog 88 #[.pointer (some ⟨b, 0, none⟩), .slice a n cap] w fun e w' =>
   ∃ lv' wv' g c', e = .returned (.tuple #[]) /\ WB w' b (upd (upd f 18 lv') 19 wv') /\ w'.ownsRow B0 77 1 lv' (nl + 1) (xs ++ [.slice a n cap]) /\ w'.ownsRow B0 77 1 wv' (nl + 1) (ys ++ [.slice (some ⟨g, 0, none⟩) n c']) /\
    (∀ g, lv'.ownBlock = some g -> wv'.ownBlock ≠ some g) /\ w.heap.size <= g /\ w'.heap[g]? = some (.cells (Kk L).toArray 78 (0, 0)) /\
    Chg (fun k _ => k = b \/ lv.ownBlock = some k \/ wv.ownBlock = some k) w w' /\
    (∀ g, lv'.ownBlock = some g -> lv.ownBlock = some g \/ w.heap.size <= g) /\ (∀ g, wv'.ownBlock = some g -> wv.ownBlock = some g \/ w.heap.size <= g) := by
 have hlt := hW.lt; obtain ⟨cs, hmk, hcs⟩ := make_pks n (by omega)
 obtain ⟨w2, hcp, hg2, hch2, hsz2⟩ := run_copy_cells (P := Tryz.prog) Tryz.underlying77 size_pk 3 (w.alloc (.cells cs 78)) w.heap.size n n cap a (Kk L) cs (Kc w _) hcs
  (by rw [rpCells_length]; omega) (hk.below ((Below.refl _ w).alloc (Nat.le_refl _) _)) (rpCells_one L)
 rw [World.size_alloc] at hsz2; have hC2 : Chg (fun k _ => w.heap.size <= k) w w2 := ((Chg.refl _ w).alloc _).trans (hch2.mono (fun k o _ e => by omega))
 have HCS := Hd hcs; have HG2 := Hd hg2; have HC2 := Hd hC2; have HSZ2 := Hd hsz2; have HW := Hd hW; have HL := Hd hl; have HX := Hd hw; have HK := Hd hk; have HN := Hd hL; have H18 := Hd h18; have H19 := Hd h19; have HNE := Hd hne; clear hcs hg2 hC2 hch2 hsz2 hW hl hw hk hL h18 h19 hne; have hW2 : WB w2 b f := HW.out.chg HC2.out (fun _ e => by omega)
 have hL2 : w2.ownsRow B0 77 1 lv nl xs := Kq HL.out HC2.out (fun g o e => by have := (HL.out.lt g e).2; omega)
 have hX2 : w2.ownsRow B0 77 1 wv nl ys := Kq HX.out HC2.out (fun g o e => by have := (HX.out.lt g e).2; omega)
 have c18 : w2.cell? ⟨b, 18, none⟩ = some lv := by rw [<- H18.out]; exact hW2.cell (by omega)
 have fr2 := hW2.free 18; have hnew := Kt w2 [.slice a n cap] 77 (n := w2.heap.size) rfl; have k3 : nl + 1 <= maxLen := by unfold maxLen; omega
 have K3 := Hd k3; have HW2 := Hd hW2; have HL2 := Hd (hL2.alloc (.cells #[.slice a n cap] 77)); have HX2 := Hd hX2; have HNEW := Hd hnew; obtain ⟨i0, hi, hz0, hz1, hz2⟩ := info_parts info_pks; have hlt2 : b < w2.heap.size := hW2.lt; have hBw : B0 <= w2.heap.size := by have := HSZ2.out; omega
 clear hW2 hL2 hX2 hnew k3; go_enter Tryz.func88, Tryz.ntmps88; go_wp2_with (at_builtin; refine wpList_append_own_at _ rfl _ _ 39 rfl B0 77 i0 _ 1 24 Tryz.underlying39 hi hz0 hz1 hz2 rfl (by decide) lv nl _ rfl HL2.out ⟨w2.heap.size, 0, none⟩ 1 1 _ rfl rfl HNEW.out (by simp [Value.oneCell']) K3.out (by omega) (by simp; omega) ?_)
 intro lv' w3 hl3 hg3 _ hat3; obtain ⟨la, lc, rfl⟩ := Kg hl3; have hWa := HW2.out.alloc (.cells #[.slice a n cap] 77); have hn3 : lv.ownBlock ≠ some b := hWa.neOwn HL2.out (by decide)
 have hn4 : wv.ownBlock ≠ some b := HW2.out.neOwn HX2.out (by decide)
 have hW3 := hWa.grown hg3 hn3
 have hX3 : w3.ownsRow B0 77 1 wv nl ys := (HX2.out.alloc (.cells #[.slice a n cap] 77)).kept hg3 (by
  cases hb : wv.ownBlock with
  | none => exact .inl rfl
  | some g => exact .inr (fun e => HNE.out g e.symm hb))
 have hd3 : ∀ g, (Value.slice la (nl + 1) lc).ownBlock = some g -> wv.ownBlock ≠ some g := fun g e e' => by
  rcases hat3 with h | h
  · exact HNE.out g (h ▸ e) e'
  · rw [h] at e
    simp only [Option.some.injEq] at e; have := (HX2.out.lt g e').2; omega
 have hC3 : Chg (fun k _ => k = b \/ lv.ownBlock = some k \/ wv.ownBlock = some k) w w3 :=
  (HC2.out.mono (fun k o h e => by omega)).trans (((Chg.refl _ w2).alloc _).grown hg3 (fun k o e _ => .inr (.inl e)))
 have hgg3 : w3.heap[w.heap.size]? = some (.cells (Kk L).toArray 78 (0, 0)) := by
  rw [hg3.block _ (by have := HSZ2.out; simp; omega) (fun e => by have := (HL.out.lt _ e.symm).2; omega)]
  exact Kp _ HG2.out
 have hsz3 : w2.heap.size < w3.heap.size := by have := hg3.size; simp at this; omega
 obtain ⟨w4, hw4⟩ : ∃ w4, w3.setCell ⟨b, 18, none⟩ (.slice la (nl + 1) lc) = w4 := ⟨_, rfl⟩; have hW4 : WB w4 b (upd f 18 (.slice la (nl + 1) lc)) := by rw [<- hw4]; exact hW3.set (by omega) _
 have hX4 : w4.ownsRow B0 77 1 wv nl ys := by rw [<- hw4]; exact Kq hX3 ((Chg.refl (fun k _ => k = b) w3).setCell _ (fun _ _ => rfl)) (fun g o e h => hn4 (h ▸ e))
 have hl4 : w4.ownsRow B0 77 1 (.slice la (nl + 1) lc) (nl + 1) (xs ++ [.slice a n cap]) := by
  rw [<- hw4]; exact Kq hl3 ((Chg.refl (fun k _ => k = b) w3).setCell _ (fun _ _ => rfl)) (fun g o e h => hW3.neOwn hl3 (by decide) (h ▸ e))
 have hC4 : Chg (fun k _ => k = b \/ lv.ownBlock = some k \/ wv.ownBlock = some k) w w4 := by rw [<- hw4]; exact hC3.setCell _ (fun _ _ => .inl rfl)
 have hgg4 : w4.heap[w.heap.size]? = some (.cells (Kk L).toArray 78 (0, 0)) := by
  rw [<- hw4, Kj _ _ _ _ _ (by omega)]; exact hgg3
 have hsz4 : w2.heap.size < w4.heap.size := by rw [<- hw4]; simpa using hsz3
 have c18 := hW3.cell (i := 18) (by omega)
 have f18 := hW3.free 18; have c19 : w3.cell? ⟨b, 19, none⟩ = some wv := by rw [<- H19.out]; exact hW3.cell (by omega)
 have hnew := Kt w4 [.slice (some ⟨w.heap.size, 0, none⟩) n n] 77 (n := w3.heap.size) (by rw [<- hw4]; simp)
 have HW4 := Hd hW4; have HX4 := Hd (hX4.alloc (.cells #[.slice (some ⟨w.heap.size, 0, none⟩) n n] 77)); have HL4 := Hd hl4; have HC4 := Hd hC4; have HGG4 := Hd hgg4; have HNEW4 := Hd hnew; have HD3 := Hd hd3; have HA3 := Hd hat3; have HW4e := Hd hw4; have hBw4 : B0 <= w4.heap.size := by omega
 clear hl3 hg3 hat3 hWa hW3 hX3 hd3 hC3 hgg3 hW4 hX4 hl4 hC4 hgg4 hnew hw4; go_wp2_with (at_builtin; rw [HW4e.out]; refine wpList_append_own_at _ rfl _ _ 39 rfl B0 77 i0 _ 1 24 Tryz.underlying39 hi hz0 hz1 hz2 rfl (by decide) wv nl _ rfl HX4.out ⟨w3.heap.size, 0, none⟩ 1 1 _ rfl rfl HNEW4.out (by simp [Value.oneCell']) K3.out (by omega) (by simp; omega) ?_)
 intro wv' w5 hl5 hg5 _ hat5; obtain ⟨wa, wc, rfl⟩ := Kg hl5; have hWa := HW4.out.alloc (.cells #[.slice (some ⟨w.heap.size, 0, none⟩) n n] 77); have hW5 := hWa.grown hg5 hn4
 have hl5' : w5.ownsRow B0 77 1 (.slice la (nl + 1) lc) (nl + 1) (xs ++ [.slice a n cap]) := (HL4.out.alloc (.cells #[.slice (some ⟨w.heap.size, 0, none⟩) n n] 77)).kept hg5 (by
  cases hb : (Value.slice la (nl + 1) lc).ownBlock with
  | none => exact .inl rfl
  | some g => exact .inr (fun e => HD3.out g hb e.symm))
 have hd5 : ∀ g, (Value.slice la (nl + 1) lc).ownBlock = some g -> (Value.slice wa (nl + 1) wc).ownBlock ≠ some g := fun g e e' => by
  rcases hat5 with h | h
  · exact HD3.out g e (h ▸ e')
  · rw [h] at e'
    simp only [Option.some.injEq] at e'; have := (HL4.out.lt g e).2; omega
 have hC5 : Chg (fun k _ => k = b \/ lv.ownBlock = some k \/ wv.ownBlock = some k) w w5 := (HC4.out.alloc _).grown hg5 (fun k o e _ => .inr (.inr e))
 have hgg5 : w5.heap[w.heap.size]? = some (.cells (Kk L).toArray 78 (0, 0)) := by
  rw [hg5.block _ (by have := HSZ2.out; simp; omega) (fun e => by have := (HX.out.lt _ e.symm).2; omega)]
  exact Kp _ HGG4.out
 have f19 := hW5.free 19; have c19' := hW5.cell (i := 19) (by omega)
 have hne5 : ∀ g, (Value.slice la (nl + 1) lc).ownBlock = some g -> b ≠ g := fun g e h => hW5.neOwn hl5' (by decide) (h ▸ e)
 have hne6 : ∀ g, (Value.slice wa (nl + 1) wc).ownBlock = some g -> b ≠ g := fun g e h => hW5.neOwn hl5 (by decide) (h ▸ e)
 have HW5 := Hd (hW5.set (i := 19) (by omega) (.slice wa (nl + 1) wc))
 have HLL := Hd (Kq hl5' ((Chg.refl (fun k _ => k = b) w5).setCell (p := ⟨b, 19, none⟩) (.slice wa (nl + 1) wc) (fun _ _ => rfl)) (fun g o e h => hne5 g e h.symm))
 have HXX := Hd (Kq hl5 ((Chg.refl (fun k _ => k = b) w5).setCell (p := ⟨b, 19, none⟩) (.slice wa (nl + 1) wc) (fun _ _ => rfl)) (fun g o e h => hne6 g e h.symm))
 have HD5 := Hd hd5; have HA5 := Hd hat5; have HC5 := Hd (hC5.setCell (p := ⟨b, 19, none⟩) (.slice wa (nl + 1) wc) (fun _ _ => .inl rfl))
 have HGG5 := Hd hgg5; clear hl5 hg5 hat5 hWa hW5 hl5' hd5 hC5 hgg5 hne5 hne6; go_wp2; go_end0
 exact ⟨_, _, w.heap.size, n, rfl, HW5.out, HLL.out, HXX.out, HD5.out, Nat.le_refl _, by rw [Kj _ _ _ _ _ (by omega)]; exact HGG5.out, HC5.out,
  fun g e => HA3.out.imp (fun h => h.symm.trans e) (fun h => by have e2 := h.symm.trans e; have := HSZ2.out; simp at e2; omega),
  fun g e => HA5.out.imp (fun h => h.symm.trans e) (fun h => by have e2 := h.symm.trans e; have := HSZ2.out; simp at e2; omega)⟩
