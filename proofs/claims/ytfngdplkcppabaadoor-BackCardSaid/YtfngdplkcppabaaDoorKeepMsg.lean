/-
  gossipkeep's pick, message and same.
-/
import Derived.Test.YtfngdplkcppabaaDoorCodec
import Derived.BigQuiet
import Derived.Deep.RegionWith
import Derived.Deep.RegionHeld3
import Derived.Deep.DeepCutAuto
import Derived.Deep.QuietTactic
namespace Go.Proofs.YtfngdplkcppabaaDoor
open Go.RowKit

/-- gossipkeep.pick. -/
def pickI (c n : Int) : Int := (if c < 0 then -(c + 1) else c) % n
theorem pickI_bd (c n : Int) (hn : 0 < n) : 0 ≤ pickI c n ∧ pickI c n < n := ⟨Int.emod_nonneg _ (by omega), Int.emod_lt_of_pos _ hn⟩
theorem pick_any (c n : Int) (w : World) (h0 : -9223372036854775808 ≤ c) (h1 : c ≤ 9223372036854775807) (hn : 0 < n) :
    Calls Tryd.prog 10 #[.int .i64 c, .int .i64 n] w fun e w' => e = .returned (.int .i64 (pickI c n)) ∧ w = w' := by
  have hnb : (n == 0) = false := by rw [beq_eq_false_iff_ne]; omega
  by_cases hc : c < 0
  · have e : pickI c n = -((c + 1).tmod n) := by rw [pickI, if_pos hc, ← Int.neg_tmod, Int.tmod_eq_emod_of_nonneg (by omega)]
    have E := Lib.hid e
    clear e
    go_enter Tryd.func10, Tryd.ntmps10
    go_wp2
    go_ret
    exact ⟨by rw [E.out]; rfl, rfl⟩
  · have e : pickI c n = c % n := by rw [pickI, if_neg hc]
    have E := Lib.hid e
    clear e
    go_enter Tryd.func10, Tryd.ntmps10
    go_wp2
    go_ret
    exact ⟨by rw [E.out]; rfl, rfl⟩
/-- gossipkeep.message: the updates. -/
def keepKey (k : K) : K := ⟨1 + pickI k.id 250, 1 + pickI k.inc 1073741824, 1 + pickI k.st 4⟩
def keepKind (k : Int) : Int := 1 + pickI k 5
def keepMost (k : Int) : Nat := if keepKind k < 4 then 4 else 8
/-- gossipkeep.message: one that is whole. -/
def keepMsg (m : M) : M := ⟨keepKind m.kind, 1 + pickI m.frm 250, 1 + pickI m.inc 1073741824, pickI m.seq 4294967296, if keepKind m.kind < 4 then 1 + pickI m.tgt 250 else 0, (m.ups.take (keepMost m.kind)).map keepKey⟩

def K.fit (k : K) : Prop := (-9223372036854775808 ≤ k.id ∧ k.id ≤ 9223372036854775807) ∧ (-9223372036854775808 ≤ k.inc ∧ k.inc ≤ 9223372036854775807) ∧ (-9223372036854775808 ≤ k.st ∧ k.st ≤ 9223372036854775807)
def M.fit (m : M) : Prop := (-9223372036854775808 ≤ m.kind ∧ m.kind ≤ 9223372036854775807) ∧ (-9223372036854775808 ≤ m.frm ∧ m.frm ≤ 9223372036854775807) ∧ (-9223372036854775808 ≤ m.inc ∧ m.inc ≤ 9223372036854775807) ∧ (-9223372036854775808 ≤ m.seq ∧ m.seq ≤ 9223372036854775807) ∧ (-9223372036854775808 ≤ m.tgt ∧ m.tgt ≤ 9223372036854775807) ∧ ∀ k ∈ m.ups, k.fit

/-- gossipkeep.message: the argument's box, the result's variable, the message, the row of its keys. -/
structure KmI (w wr : World) (B : Array Value) (c0 c1 c2 c3 c4 : Int) (k : Nat) (l : List K) (v : Value) : Prop where
  B : wr.heap[w.heap.size]? = some (.cells B 24 (0, 0))
  R : wr.heap[w.heap.size + 1]? = some (.cells #[.int .i64 0, .int .i64 0, .int .i64 0, .int .i64 0, .int .i64 0, .slice none 0 0] 25 (0, 0))
  M : wr.heap[w.heap.size + 1 + 1]? = some (.cells #[.int .i64 c0, .int .i64 c1, .int .i64 c2, .int .i64 c3, .int .i64 c4, v] 25 (0, 0))
  row : wr.ownsRow (w.heap.size + 3) 40 3 v k (keyCells l)
  below : Below w.heap.size w wr
section
variable {w wr : World} {B : Array Value} {c0 c1 c2 c3 c4 : Int} {k : Nat} {l : List K} {v : Value}
theorem KmI.size (h : KmI w wr B c0 c1 c2 c3 c4 k l v) : w.heap.size + 1 + 1 < wr.heap.size := heap_lt h.M
theorem KmI.start (w : World) (B : Array Value) (c0 c1 c2 c3 c4 : Int) (d : Nat) : KmI w ((((w.alloc (.cells B 24)).alloc (.cells #[.int .i64 0, .int .i64 0, .int .i64 0, .int .i64 0, .int .i64 0, .slice none 0 0] 25)).alloc
    (.cells #[.int .i64 c0, .int .i64 c1, .int .i64 c2, .int .i64 c3, .int .i64 c4, .slice none 0 0] 25)).drewN d) B c0 c1 c2 c3 c4 0 [] (.slice none 0 0) := by
  have h : KmI w ((((w.alloc (.cells B 24)).alloc (.cells #[.int .i64 0, .int .i64 0, .int .i64 0, .int .i64 0, .int .i64 0, .slice none 0 0] 25)).alloc
    (.cells #[.int .i64 c0, .int .i64 c1, .int .i64 c2, .int .i64 c3, .int .i64 c4, .slice none 0 0] 25))) B c0 c1 c2 c3 c4 0 [] (.slice none 0 0) :=
    ⟨heap_old _ (heap_old _ (heap_new _ _ rfl)), heap_old _ (heap_new _ _ (by simp)), heap_new _ _ (by simp), World.ownsRow_nil _ _ _ _, (((Below.refl _ w).alloc (Nat.le_refl _) _).alloc (by simp) _).alloc (by simp; omega) _⟩
  exact ⟨h.B, h.R, h.M, h.row, ⟨h.below.os, h.below.tape, h.below.output, h.below.size, h.below.block⟩⟩
theorem KmI.alloc (h : KmI w wr B c0 c1 c2 c3 c4 k l v) (o : Obj) : KmI w (wr.alloc o) B c0 c1 c2 c3 c4 k l v :=
  ⟨heap_old _ h.B, heap_old _ h.R, heap_old _ h.M, h.row.alloc o, h.below.alloc (by have := h.size; omega) o⟩
theorem KmI.tgt (h : KmI w wr B c0 c1 c2 c3 c4 k l v) (x : Int) : KmI w (wr.setCell ⟨w.heap.size + 1 + 1, 4, none⟩ (.int .i64 x)) B c0 c1 c2 c3 x k l v :=
  ⟨by rw [heap_setCell_ne _ _ _ _ _ (by omega)]; exact h.B, by rw [heap_setCell_ne _ _ _ _ _ (by omega)]; exact h.R, heap_setCell_eq h.M, ownsRow_setCell_below h.row (by simp) _, h.below.setCell (by simp; omega) _⟩
theorem keyCells_snoc (l : List K) (k : K) : keyCells (l ++ [k]) = keyCells l ++ [.int .i64 k.id, .int .i64 k.inc, .int .i64 k.st] := by
  simp [keyCells]
theorem KmI.appended {w1 : World} {v' : Value} {x : K} (h : KmI w wr B c0 c1 c2 c3 c4 k l v) (hg : wr.grownBy w1 v.ownBlock)
    (ho : w1.ownsRow (w.heap.size + 3) 40 3 v' (k + 1) (keyCells l ++ [.int .i64 x.id, .int .i64 x.inc, .int .i64 x.st])) :
    w1.cell? ⟨w.heap.size + 1 + 1, 5, none⟩ = some v ∧ w1.frozen? ⟨w.heap.size + 1 + 1, 5, none⟩ = false ∧ KmI w (w1.setCell ⟨w.heap.size + 1 + 1, 5, none⟩ v') B c0 c1 c2 c3 c4 (k + 1) (l ++ [x]) v' := by
  have hb : ∀ g, v.ownBlock = some g → w.heap.size + 3 ≤ g := fun g hg => (h.row.lt g hg).1
  have hs := h.size
  have eB : w1.heap[w.heap.size]? = _ := (hg.block _ (by omega) (fun e => by have := hb _ e.symm; omega)).trans h.B
  have eR : w1.heap[w.heap.size + 1]? = _ := (hg.block _ (by omega) (fun e => by have := hb _ e.symm; omega)).trans h.R
  have eM : w1.heap[w.heap.size + 1 + 1]? = _ := (hg.block _ (by omega) (fun e => by have := hb _ e.symm; omega)).trans h.M
  refine ⟨cells_at eM 5, unfrozen eM 5, ⟨by rw [heap_setCell_ne _ _ _ _ _ (by omega)]; exact eB, by rw [heap_setCell_ne _ _ _ _ _ (by omega)]; exact eR, heap_setCell_eq eM, ?_, ?_⟩⟩
  · rw [keyCells_snoc]
    exact ownsRow_setCell_below ho (by simp) _
  · exact Below.setCell (h.below.grown hg (by omega) (fun g e => by have := hb g e; omega)) (by simp; omega) _
end

theorem kmsg_close {w wr : World} {B : Array Value} {kind frm inc seq tgt tg : Int} {ups : List K} {mo k : Nat} {v : Value}
    (ht : (if 1 + pickI kind 5 < 4 then 1 + pickI tgt 250 else 0) = tg) (hm : (if 1 + pickI kind 5 < 4 then 4 else 8) = mo) (hk : k = min mo ups.length)
    (h : KmI w wr B (1 + pickI kind 5) (1 + pickI frm 250) (1 + pickI inc 1073741824) (pickI seq 4294967296) tg k ((ups.map keepKey).take k) v) :
    keepMsg ⟨kind, frm, inc, seq, tgt, ups⟩ = ⟨1 + pickI kind 5, 1 + pickI frm 250, 1 + pickI inc 1073741824, pickI seq 4294967296, tg, (ups.map keepKey).take k⟩ ∧
    ∀ W, Chg (fun b _ => b = w.heap.size + 1) wr W → W.ownsRow w.heap.size 40 3 v (keepMsg ⟨kind, frm, inc, seq, tgt, ups⟩).ups.length (keyCells (keepMsg ⟨kind, frm, inc, seq, tgt, ups⟩).ups) ∧ Below w.heap.size w W := by
  have e : keepMsg ⟨kind, frm, inc, seq, tgt, ups⟩ = ⟨1 + pickI kind 5, 1 + pickI frm 250, 1 + pickI inc 1073741824, pickI seq 4294967296, tg, (ups.map keepKey).take k⟩ := by
    have hmo : keepMost kind = mo := by rw [← hm]; rfl
    simp only [keepMsg, hmo, keepKind, M.mk.injEq, true_and]
    refine ⟨ht, ?_⟩
    rw [hk, List.map_take, List.take_eq_take_iff]
    simp
  refine ⟨e, fun W hC => ?_⟩
  rw [e]
  have hlen : ((ups.map keepKey).take k).length = k := by rw [List.length_take, List.length_map]; omega
  refine ⟨?_, h.below.trans (hC.below (by have := h.size; omega) (fun k o e => by omega))⟩
  show W.ownsRow _ _ _ _ ((ups.map keepKey).take k).length _
  rw [hlen]
  exact own_below (own_chg h.row hC (fun g o hg e => by have := (h.row.lt g hg).1; omega)) (by omega)

set_option maxHeartbeats 4000000 in
theorem kmsg_any (m : M) (a : Option Addr) (n cap : Nat) (w : World) (hn : m.ups.length = n) (hl : n ≤ 9223372036854775807) (hk : KeysAt w a m.ups) (hf : m.fit) :
    Calls Tryd.prog 5 #[.agg #[.int .i64 m.kind, .int .i64 m.frm, .int .i64 m.inc, .int .i64 m.seq, .int .i64 m.tgt, .slice a n cap]] w fun e w' =>
      ∃ v, e = .returned ((keepMsg m).agg v) ∧ w'.ownsRow w.heap.size 40 3 v (keepMsg m).ups.length (keyCells (keepMsg m).ups) ∧ Below w.heap.size w w' := by
  obtain ⟨f1, f2, f3, f4, f5, f6⟩ := hf
  obtain ⟨kind, frm, inc, seq, tgt, ups⟩ := m
  simp only at f1 f2 f3 f4 f5 f6 hn hk ⊢
  have g1 := pickI_bd kind 5 (by omega)
  have g2 := pickI_bd frm 250 (by omega)
  have g3 := pickI_bd inc 1073741824 (by omega)
  have g4 := pickI_bd seq 4294967296 (by omega)
  have g5 := pickI_bd tgt 250 (by omega)
  have HK := Lib.hid hk
  have HN := Lib.hid hn
  have HF := Lib.hid f6
  clear hk hn f6
  go_enter Tryd.func5, Tryd.ntmps5
  go_wp2_with fail
  refine (pick_any kind 5 _ f1.1 f1.2 (by decide)).mono ?_
  rintro e w1 ⟨rfl, rfl⟩
  go_wp2_with fail
  go_cut [4] (fun s4 w' => s4 = .pointer (some ⟨w.heap.size + 1 + 1, 0, none⟩) ∧ KmI w w' #[.int .i64 kind, .int .i64 frm, .int .i64 inc, .int .i64 seq, .int .i64 tgt, .slice a n cap] (1 + pickI kind 5) (1 + pickI frm 250) (1 + pickI inc 1073741824) (pickI seq 4294967296) 0 0 [] (.slice none 0 0))
  case first =>
    have e1 : IntKind.i64.wrap (1 + pickI frm 250) = 1 + pickI frm 250 := IntWalk.i64_in _ (by omega)
    have e2 : IntKind.i64.wrap (1 + pickI inc 1073741824) = 1 + pickI inc 1073741824 := IntWalk.i64_in _ (by omega)
    go_region_held3 (fun w' => w'.cell? ⟨w.heap.size, 1, none⟩ = some (.int .i64 frm) ∧ w'.cell? ⟨w.heap.size, 2, none⟩ = some (.int .i64 inc) ∧ w'.cell? ⟨w.heap.size, 3, none⟩ = some (.int .i64 seq))
      (go_keep)
      ((go_at_call 10; refine (pick_any _ _ _ (by omega) (by omega) (by omega)).mono ?_; rintro e w1 ⟨rfl, rfl⟩))
    all_goals
      go_wp2
      go_meet
      case rel => exact ⟨rfl, KmI.start w _ _ _ _ _ _ 1⟩
  case rest =>
    obtain ⟨rfl, hI⟩ := hcut
    obtain ⟨tg, htg⟩ : ∃ tg, (if 1 + pickI kind 5 < 4 then 1 + pickI tgt 250 else 0) = tg := ⟨_, rfl⟩
    obtain ⟨mo, hmo⟩ : ∃ mo : Nat, (if 1 + pickI kind 5 < 4 then 4 else 8) = mo := ⟨_, rfl⟩
    have hmo8 : mo ≤ 8 := by rw [← hmo]; split <;> omega
    have HT := Lib.hid htg
    have HMO := Lib.hid hmo
    clear htg hmo
    have hcB := cells_at hI.B
    have hcM := cells_at hI.M 4
    have hfM := unfrozen hI.M 4
    simp only [List.getElem?_toArray, List.getElem?_cons_succ, List.getElem?_cons_zero] at hcM
    have HI := Lib.hid hI
    clear hI
    go_upto_if 29 with (fail)
    go_cut [5] (fun s5 w' => s5 = .int .i64 mo ∧ KmI w w' #[.int .i64 kind, .int .i64 frm, .int .i64 inc, .int .i64 seq, .int .i64 tgt, .slice a n cap] (1 + pickI kind 5) (1 + pickI frm 250) (1 + pickI inc 1073741824) (pickI seq 4294967296) tg 0 [] (.slice none 0 0))
    case first =>
      by_cases h4 : 1 + pickI kind 5 < 4
      · go_wp2_with (go_at_call 10; refine (pick_any tgt 250 _ f5.1 f5.2 (by decide)).mono ?_; rintro e w1 ⟨rfl, rfl⟩)
        go_meet
        case rel => exact ⟨by rw [← HMO.out, if_pos h4]; rfl, by rw [← HT.out, if_pos h4]; exact HI.out.tgt _⟩
      · go_wp2
        go_meet
        case rel => exact ⟨by rw [← HMO.out, if_neg (by omega)]; rfl, by rw [← HT.out, if_neg (by omega)]; exact HI.out⟩
    case rest =>
      obtain ⟨rfl, hI⟩ := hcut
      clear HI hcB hcM hfM
      go_wp2_with fail
      go_loopw [6] (fun i wr => ∃ (k : Nat) (v : Value), k ≤ n ∧ k ≤ mo ∧ i = .int .i64 k ∧ KmI w wr #[.int .i64 kind, .int .i64 frm, .int .i64 inc, .int .i64 seq, .int .i64 tgt, .slice a n cap] (1 + pickI kind 5) (1 + pickI frm 250) (1 + pickI inc 1073741824) (pickI seq 4294967296) tg k ((ups.map keepKey).take k) v) (fun i _ => n - (intOf i).toNat)
      case atStart => exact ⟨0, _, Nat.zero_le _, Nat.zero_le _, rfl, hI⟩
      case round =>
        obtain ⟨k, v, hkn, hkm, rfl, hI⟩ := hrel
        have hcB := cells_at hI.B
        by_cases hlt : k < n
        · by_cases hlm : k < mo
          · have hku : k < ups.length := by rw [HN.out]; exact hlt
            obtain ⟨b, off, rfl, hbl, c0, c1, c2⟩ := HK.out k ups[k] (List.getElem?_eq_getElem hku)
            have hfx := HF.out ups[k] (List.getElem_mem _)
            obtain ⟨x, hx⟩ : ∃ x, ups[k] = x := ⟨_, rfl⟩
            rw [hx] at c0 c1 c2 hfx
            rw [← hI.below.cell hbl] at c0 c1 c2
            have HX := Lib.hid hx
            clear hx
            obtain ⟨x1, x2, x3⟩ := hfx
            have p1 := pickI_bd x.id 250 (by omega)
            have p2 := pickI_bd x.inc 1073741824 (by omega)
            have p3 := pickI_bd x.st 4 (by omega)
            have hsz := hI.size
            have HI := Lib.hid hI
            have HW := Lib.hid ((hI.alloc (.cells #[.int .i64 x.id, .int .i64 x.inc, .int .i64 x.st] 40)).alloc (.cells #[.int .i64 (1 + pickI x.id 250), .int .i64 (1 + pickI x.inc 1073741824), .int .i64 (1 + pickI x.st 4)] 40))
            have HNW := Lib.hid (cells_new (wr.alloc (.cells #[.int .i64 x.id, .int .i64 x.inc, .int .i64 x.st] 40)) [.int .i64 (1 + pickI x.id 250), .int .i64 (1 + pickI x.inc 1073741824), .int .i64 (1 + pickI x.st 4)] 40 (n := wr.heap.size + 1) (by simp))
            have hM5 := cells_at HW.out.M 5
            have hM5' := cells_at HI.out.M 5
            simp only [List.getElem?_toArray, List.getElem?_cons_succ, List.getElem?_cons_zero] at hM5 hM5'
            have hMa : ∀ o, (wr.alloc o).cell? ⟨w.heap.size + 1 + 1, 5, none⟩ = some v := fun o => by rw [World.cell?_alloc_lt _ _ _ hsz]; exact hM5'
            have k3 : k + 1 ≤ maxLen := by unfold maxLen; omega
            have K3 := Lib.hid k3
            obtain ⟨i0, hi, hz0, hz1, hz2⟩ := info_parts info_key
            clear hI k3 hM5 hM5'
            go_wp2_with (first
              | (go_at_call 10; refine (pick_any _ _ _ (by omega) (by omega) (by omega)).mono ?_; rintro e w1 ⟨rfl, rfl⟩)
              | (at_builtin; refine wpList_append_own _ rfl _ _ 22 rfl (w.heap.size + 3) 40 i0 _ 3 24 Tryd.underlying22 hi hz0 hz1 hz2 rfl (by decide) v k _ rfl HW.out.row ⟨wr.heap.size + 1, 0, none⟩ 1 1 _ rfl rfl HNW.out (by simp [Value.oneCell']) K3.out (by omega) (by have := HW.out.size; omega) ?_))
            intro v' w1 hown1 hgrow1 _
            obtain ⟨hM1, hf1, hI1⟩ := HW.out.appended (x := keepKey x) hgrow1 hown1
            obtain ⟨ad', cp', rfl⟩ := ownsRow_sl hown1
            have HI1 := Lib.hid hI1
            clear hI1 hown1 hgrow1
            go_wp2
            go_roundw
            case rel => exact ⟨k + 1, _, by omega, by omega, by go_num, by
              have := HI1.out
              rw [List.take_succ_eq_append_getElem (by rw [List.length_map]; exact hku), List.getElem_map, HX.out]
              exact this⟩
            case measure => simp [intOf]; omega
          · have hk' : k = mo := by omega
            subst hk'
            obtain ⟨ad', cp', rfl⟩ := ownsRow_sl hI.row
            have hcM := cells_at hI.M
            have hcR := cells_at hI.R
            have hfR := unfrozen hI.R
            have hfit := kmsg_close (tgt := tgt) HT.out HMO.out (by rw [HN.out]; omega) hI
            have HE := Lib.hid hfit
            have HI := Lib.hid hI
            clear hI hfit
            go_wp2
            refine six_set (R := bodyPost _ _ _ _ _) HI.out.R _ _ _ _ _ _ (fun W hW hC => ?_)
            have hc := cells_at hW
            refine bodyPost_ret (v := (keepMsg ⟨kind, frm, inc, seq, tgt, ups⟩).agg (.slice ad' k cp')) (by rw [HE.out.1]; simp [results, Tryd.results5, go_sem, M.agg, hc]) rfl ⟨_, rfl, ?_⟩
            exact HE.out.2 W hC
        · have hk' : k = n := by omega
          subst hk'
          obtain ⟨ad', cp', rfl⟩ := ownsRow_sl hI.row
          have hcM := cells_at hI.M
          have hcR := cells_at hI.R
          have hfR := unfrozen hI.R
          have hfit := kmsg_close (tgt := tgt) HT.out HMO.out (by rw [HN.out]; omega) hI
          have HE := Lib.hid hfit
          have HI := Lib.hid hI
          clear hI hfit
          go_wp2
          refine six_set (R := bodyPost _ _ _ _ _) HI.out.R _ _ _ _ _ _ (fun W hW hC => ?_)
          have hc := cells_at hW
          refine bodyPost_ret (v := (keepMsg ⟨kind, frm, inc, seq, tgt, ups⟩).agg (.slice ad' k cp')) (by rw [HE.out.1]; simp [results, Tryd.results5, go_sem, M.agg, hc]) rfl ⟨_, rfl, ?_⟩
          exact HE.out.2 W hC
end Go.Proofs.YtfngdplkcppabaaDoor
