/-
  gossipkeep's pick, message and same.
  Nodes that are made and join each other, as plain data. No program in sight.
  gossipkeep's config and few.
  gossip.New, plain.New.
  node.Join.
-/
import Derived.Test.YtfngdplkcppabaaGreatPart19
import Derived.BigQuiet
import Derived.Deep.RegionWith
import Derived.Deep.RegionHeld3
import Derived.Deep.DeepCutAuto
import Derived.Deep.QuietTactic
import Derived.Test.YtfngdplkcppabaaGreatPart13
import Derived.Test.YtfngdplkcppabaaGreatPart17
import Derived.Test.YtfngdplkcppabaaGreatPart15
set_option linter.all false
namespace Go.Proofs.YtfngdplkcppabaaGreat
open Go.RowKit

/-- gossipkeep.pick. -/
def pickI (c n : Int) : Int := (if c < 0 then -(c + 1) else c) % n
theorem pickI_bd (c n : Int) (hn : 0 < n) : 0 ≤ pickI c n ∧ pickI c n < n := ⟨Int.emod_nonneg _ (by omega), Int.emod_lt_of_pos _ hn⟩
theorem pick_any (c n : Int) (w : World) (h0 : -9223372036854775808 ≤ c) (h1 : c ≤ 9223372036854775807) (hn : 0 < n) :
    Calls Tryz.prog 9 #[.int .i64 c, .int .i64 n] w fun e w' => e = .returned (.int .i64 (pickI c n)) ∧ w = w' := by
  have hnb : (n == 0) = false := by rw [beq_eq_false_iff_ne]; omega
  by_cases hc : c < 0
  · have e : pickI c n = -((c + 1).tmod n) := by rw [pickI, if_pos hc, ← Int.neg_tmod, Int.tmod_eq_emod_of_nonneg (by omega)]
    have E := Lib.hid e
    clear e
    go_enter Tryz.func9, Tryz.ntmps9
    go_wp2
    go_ret
    exact ⟨by rw [E.out]; rfl, rfl⟩
  · have e : pickI c n = c % n := by rw [pickI, if_neg hc]
    have E := Lib.hid e
    clear e
    go_enter Tryz.func9, Tryz.ntmps9
    go_wp2
    go_ret
    exact ⟨by rw [E.out]; rfl, rfl⟩
/-- gossipkeep.message: the updates. -/
def keepKey (k : K) : K := ⟨1 + pickI k.id 250, 1 + pickI k.inc 1073741824, 1 + pickI k.st 4⟩
def keepKind (k : Int) : Int := 1 + pickI k 5
def keepMost (k : Int) : Nat := if keepKind k < 4 then 4 else 8
/-- gossipkeep.message: one that is whole. -/
def keepMsg (m : M) : M := ⟨keepKind m.kind, 1 + pickI m.frm 250, 1 + pickI m.inc 1073741824, pickI m.seq 4294967296, if keepKind m.kind < 4 then 1 + pickI m.tgt 250 else 0, (m.ups.take (keepMost m.kind)).map keepKey⟩

def K.fit (k : K) : Prop := (-9223372036854775808 ≤ k.id ∧ k.id ≤ 9223372036854775807) ∧ (-9223372036854775808 ≤ k.inc ∧ k.inc ≤ 9223372036854775807) ∧ (-9223372036854775808 ≤ k.st ∧ k.st ≤ 9223372036854775807)
def M.fit (m : M) : Prop := (-9223372036854775808 ≤ m.kind ∧ m.kind ≤ 9223372036854775807) ∧ (-9223372036854775808 ≤ m.frm ∧ m.frm ≤ 9223372036854775807) ∧ (-9223372036854775808 ≤ m.inc ∧ m.inc ≤ 9223372036854775807) ∧ (-9223372036854775808 ≤ m.seq ∧ m.seq ≤ 9223372036854775807) ∧ (-9223372036854775808 ≤ m.tgt ∧ m.tgt ≤ 9223372036854775807) ∧ ∀ k ∈ m.ups, k.fit

/-- gossipkeep.message: the argument's box, the result's variable, the message, the row of its keys. -/
structure KmI (w wr : World) (B : Array Value) (c0 c1 c2 c3 c4 : Int) (k : Nat) (l : List K) (v : Value) : Prop where
  B : wr.heap[w.heap.size]? = some (.cells B 58 (0, 0))
  R : wr.heap[w.heap.size + 1]? = some (.cells #[.int .i64 0, .int .i64 0, .int .i64 0, .int .i64 0, .int .i64 0, .slice none 0 0] 29 (0, 0))
  M : wr.heap[w.heap.size + 1 + 1]? = some (.cells #[.int .i64 c0, .int .i64 c1, .int .i64 c2, .int .i64 c3, .int .i64 c4, v] 29 (0, 0))
  row : wr.ownsRow (w.heap.size + 3) 31 3 v k (keyCells l)
  below : Below w.heap.size w wr
section
variable {w wr : World} {B : Array Value} {c0 c1 c2 c3 c4 : Int} {k : Nat} {l : List K} {v : Value}
theorem KmI.size (h : KmI w wr B c0 c1 c2 c3 c4 k l v) : w.heap.size + 1 + 1 < wr.heap.size := heap_lt h.M
theorem KmI.start (w : World) (B : Array Value) (c0 c1 c2 c3 c4 : Int) (d : Nat) : KmI w ((((w.alloc (.cells B 58)).alloc (.cells #[.int .i64 0, .int .i64 0, .int .i64 0, .int .i64 0, .int .i64 0, .slice none 0 0] 29)).alloc
    (.cells #[.int .i64 c0, .int .i64 c1, .int .i64 c2, .int .i64 c3, .int .i64 c4, .slice none 0 0] 29)).drewN d) B c0 c1 c2 c3 c4 0 [] (.slice none 0 0) := by
  have h : KmI w ((((w.alloc (.cells B 58)).alloc (.cells #[.int .i64 0, .int .i64 0, .int .i64 0, .int .i64 0, .int .i64 0, .slice none 0 0] 29)).alloc
    (.cells #[.int .i64 c0, .int .i64 c1, .int .i64 c2, .int .i64 c3, .int .i64 c4, .slice none 0 0] 29))) B c0 c1 c2 c3 c4 0 [] (.slice none 0 0) :=
    ⟨heap_old _ (heap_old _ (heap_new _ _ rfl)), heap_old _ (heap_new _ _ (by simp)), heap_new _ _ (by simp), World.ownsRow_nil _ _ _ _, (((Below.refl _ w).alloc (Nat.le_refl _) _).alloc (by simp) _).alloc (by simp; omega) _⟩
  exact ⟨h.B, h.R, h.M, h.row, ⟨h.below.os, h.below.tape, h.below.output, h.below.size, h.below.block⟩⟩
theorem KmI.alloc (h : KmI w wr B c0 c1 c2 c3 c4 k l v) (o : Obj) : KmI w (wr.alloc o) B c0 c1 c2 c3 c4 k l v :=
  ⟨heap_old _ h.B, heap_old _ h.R, heap_old _ h.M, h.row.alloc o, h.below.alloc (by have := h.size; omega) o⟩
theorem KmI.tgt (h : KmI w wr B c0 c1 c2 c3 c4 k l v) (x : Int) : KmI w (wr.setCell ⟨w.heap.size + 1 + 1, 4, none⟩ (.int .i64 x)) B c0 c1 c2 c3 x k l v :=
  ⟨by rw [heap_setCell_ne _ _ _ _ _ (by omega)]; exact h.B, by rw [heap_setCell_ne _ _ _ _ _ (by omega)]; exact h.R, heap_setCell_eq h.M, ownsRow_setCell_below h.row (by simp) _, h.below.setCell (by simp; omega) _⟩
theorem keyCells_put (l : List K) (k : K) : keyCells (l ++ [k]) = keyCells l ++ [.int .i64 k.id, .int .i64 k.inc, .int .i64 k.st] := by
  simp [keyCells]
theorem KmI.appended {w1 : World} {v' : Value} {x : K} (h : KmI w wr B c0 c1 c2 c3 c4 k l v) (hg : wr.grownBy w1 v.ownBlock)
    (ho : w1.ownsRow (w.heap.size + 3) 31 3 v' (k + 1) (keyCells l ++ [.int .i64 x.id, .int .i64 x.inc, .int .i64 x.st])) :
    w1.cell? ⟨w.heap.size + 1 + 1, 5, none⟩ = some v ∧ w1.frozen? ⟨w.heap.size + 1 + 1, 5, none⟩ = false ∧ KmI w (w1.setCell ⟨w.heap.size + 1 + 1, 5, none⟩ v') B c0 c1 c2 c3 c4 (k + 1) (l ++ [x]) v' := by
  have hb : ∀ g, v.ownBlock = some g → w.heap.size + 3 ≤ g := fun g hg => (h.row.lt g hg).1
  have hs := h.size
  have eB : w1.heap[w.heap.size]? = _ := (hg.block _ (by omega) (fun e => by have := hb _ e.symm; omega)).trans h.B
  have eR : w1.heap[w.heap.size + 1]? = _ := (hg.block _ (by omega) (fun e => by have := hb _ e.symm; omega)).trans h.R
  have eM : w1.heap[w.heap.size + 1 + 1]? = _ := (hg.block _ (by omega) (fun e => by have := hb _ e.symm; omega)).trans h.M
  refine ⟨cells_at eM 5, unfrozen eM 5, ⟨by rw [heap_setCell_ne _ _ _ _ _ (by omega)]; exact eB, by rw [heap_setCell_ne _ _ _ _ _ (by omega)]; exact eR, heap_setCell_eq eM, ?_, ?_⟩⟩
  · rw [keyCells_put]
    exact ownsRow_setCell_below ho (by simp) _
  · exact Below.setCell (h.below.grown hg (by omega) (fun g e => by have := hb g e; omega)) (by simp; omega) _
end

theorem kmsg_close {w wr : World} {B : Array Value} {kind frm inc seq tgt tg : Int} {ups : List K} {mo k : Nat} {v : Value}
    (ht : (if 1 + pickI kind 5 < 4 then 1 + pickI tgt 250 else 0) = tg) (hm : (if 1 + pickI kind 5 < 4 then 4 else 8) = mo) (hk : k = min mo ups.length)
    (h : KmI w wr B (1 + pickI kind 5) (1 + pickI frm 250) (1 + pickI inc 1073741824) (pickI seq 4294967296) tg k ((ups.map keepKey).take k) v) :
    keepMsg ⟨kind, frm, inc, seq, tgt, ups⟩ = ⟨1 + pickI kind 5, 1 + pickI frm 250, 1 + pickI inc 1073741824, pickI seq 4294967296, tg, (ups.map keepKey).take k⟩ ∧
    ∀ W, Chg (fun b _ => b = w.heap.size + 1) wr W → W.ownsRow w.heap.size 31 3 v (keepMsg ⟨kind, frm, inc, seq, tgt, ups⟩).ups.length (keyCells (keepMsg ⟨kind, frm, inc, seq, tgt, ups⟩).ups) ∧ Below w.heap.size w W := by
  have e : keepMsg ⟨kind, frm, inc, seq, tgt, ups⟩ = ⟨1 + pickI kind 5, 1 + pickI frm 250, 1 + pickI inc 1073741824, pickI seq 4294967296, tg, (ups.map keepKey).take k⟩ := by
    have hmo : keepMost kind = mo := by rw [← hm]; rfl
    simp only [keepMsg, hmo, keepKind, M.mk.injEq, true_and]
    refine ⟨ht, ?_⟩
    rw [hk, List.map_take, List.take_eq_take_iff]
    simp
  refine ⟨e, fun W hC => ?_⟩
  rw [e]
  have hlen : ((ups.map keepKey).take k).length = k := by rw [List.length_take, List.length_map]; omega
  refine ⟨?_, h.below.trans (hC.below (by have := h.size; omega) (fun k o e => by omega))⟩
  show W.ownsRow _ _ _ _ ((ups.map keepKey).take k).length _
  rw [hlen]
  exact own_below (own_chg h.row hC (fun g o hg e => by have := (h.row.lt g hg).1; omega)) (by omega)

set_option maxHeartbeats 4000000 in
theorem kmsg_any (m : M) (a : Option Addr) (n cap : Nat) (w : World) (hn : m.ups.length = n) (hl : n ≤ 9223372036854775807) (hk : KeysAt w a m.ups) (hf : m.fit) :
    Calls Tryz.prog 16 #[.agg #[.int .i64 m.kind, .int .i64 m.frm, .int .i64 m.inc, .int .i64 m.seq, .int .i64 m.tgt, .slice a n cap]] w fun e w' =>
      ∃ v, e = .returned ((keepMsg m).agg v) ∧ w'.ownsRow w.heap.size 31 3 v (keepMsg m).ups.length (keyCells (keepMsg m).ups) ∧ Below w.heap.size w w' := by
  obtain ⟨f1, f2, f3, f4, f5, f6⟩ := hf
  obtain ⟨kind, frm, inc, seq, tgt, ups⟩ := m
  simp only at f1 f2 f3 f4 f5 f6 hn hk ⊢
  have g1 := pickI_bd kind 5 (by omega)
  have g2 := pickI_bd frm 250 (by omega)
  have g3 := pickI_bd inc 1073741824 (by omega)
  have g4 := pickI_bd seq 4294967296 (by omega)
  have g5 := pickI_bd tgt 250 (by omega)
  have HK := Lib.hid hk
  have HN := Lib.hid hn
  have HF := Lib.hid f6
  clear hk hn f6
  go_enter Tryz.func16, Tryz.ntmps16
  go_wp2_with fail
  refine (pick_any kind 5 _ f1.1 f1.2 (by decide)).mono ?_
  rintro e w1 ⟨rfl, rfl⟩
  go_wp2_with fail
  go_cut [4] (fun s4 w' => s4 = .pointer (some ⟨w.heap.size + 1 + 1, 0, none⟩) ∧ KmI w w' #[.int .i64 kind, .int .i64 frm, .int .i64 inc, .int .i64 seq, .int .i64 tgt, .slice a n cap] (1 + pickI kind 5) (1 + pickI frm 250) (1 + pickI inc 1073741824) (pickI seq 4294967296) 0 0 [] (.slice none 0 0))
  case first =>
    have e1 : IntKind.i64.wrap (1 + pickI frm 250) = 1 + pickI frm 250 := IntWalk.i64_in _ (by omega)
    have e2 : IntKind.i64.wrap (1 + pickI inc 1073741824) = 1 + pickI inc 1073741824 := IntWalk.i64_in _ (by omega)
    go_region_held3 (fun w' => w'.cell? ⟨w.heap.size, 1, none⟩ = some (.int .i64 frm) ∧ w'.cell? ⟨w.heap.size, 2, none⟩ = some (.int .i64 inc) ∧ w'.cell? ⟨w.heap.size, 3, none⟩ = some (.int .i64 seq))
      (go_keep)
      ((go_at_call 9; refine (pick_any _ _ _ (by omega) (by omega) (by omega)).mono ?_; rintro e w1 ⟨rfl, rfl⟩))
    all_goals
      go_wp2
      go_meet
      case rel => exact ⟨rfl, KmI.start w _ _ _ _ _ _ 1⟩
  case rest =>
    obtain ⟨rfl, hI⟩ := hcut
    obtain ⟨tg, htg⟩ : ∃ tg, (if 1 + pickI kind 5 < 4 then 1 + pickI tgt 250 else 0) = tg := ⟨_, rfl⟩
    obtain ⟨mo, hmo⟩ : ∃ mo : Nat, (if 1 + pickI kind 5 < 4 then 4 else 8) = mo := ⟨_, rfl⟩
    have hmo8 : mo ≤ 8 := by rw [← hmo]; split <;> omega
    have HT := Lib.hid htg
    have HMO := Lib.hid hmo
    clear htg hmo
    have hcB := cells_at hI.B
    have hcM := cells_at hI.M 4
    have hfM := unfrozen hI.M 4
    simp only [List.getElem?_toArray, List.getElem?_cons_succ, List.getElem?_cons_zero] at hcM
    have HI := Lib.hid hI
    clear hI
    go_upto_if 29 with (fail)
    go_cut [5] (fun s5 w' => s5 = .int .i64 mo ∧ KmI w w' #[.int .i64 kind, .int .i64 frm, .int .i64 inc, .int .i64 seq, .int .i64 tgt, .slice a n cap] (1 + pickI kind 5) (1 + pickI frm 250) (1 + pickI inc 1073741824) (pickI seq 4294967296) tg 0 [] (.slice none 0 0))
    case first =>
      by_cases h4 : 1 + pickI kind 5 < 4
      · go_wp2_with (go_at_call 9; refine (pick_any tgt 250 _ f5.1 f5.2 (by decide)).mono ?_; rintro e w1 ⟨rfl, rfl⟩)
        go_meet
        case rel => exact ⟨by rw [← HMO.out, if_pos h4]; rfl, by rw [← HT.out, if_pos h4]; exact HI.out.tgt _⟩
      · go_wp2
        go_meet
        case rel => exact ⟨by rw [← HMO.out, if_neg (by omega)]; rfl, by rw [← HT.out, if_neg (by omega)]; exact HI.out⟩
    case rest =>
      obtain ⟨rfl, hI⟩ := hcut
      clear HI hcB hcM hfM
      go_wp2_with fail
      go_loopw [6] (fun i wr => ∃ (k : Nat) (v : Value), k ≤ n ∧ k ≤ mo ∧ i = .int .i64 k ∧ KmI w wr #[.int .i64 kind, .int .i64 frm, .int .i64 inc, .int .i64 seq, .int .i64 tgt, .slice a n cap] (1 + pickI kind 5) (1 + pickI frm 250) (1 + pickI inc 1073741824) (pickI seq 4294967296) tg k ((ups.map keepKey).take k) v) (fun i _ => n - (intOf i).toNat)
      case atStart => exact ⟨0, _, Nat.zero_le _, Nat.zero_le _, rfl, hI⟩
      case round =>
        obtain ⟨k, v, hkn, hkm, rfl, hI⟩ := hrel
        have hcB := cells_at hI.B
        by_cases hlt : k < n
        · by_cases hlm : k < mo
          · have hku : k < ups.length := by rw [HN.out]; exact hlt
            obtain ⟨b, off, rfl, hbl, c0, c1, c2⟩ := HK.out k ups[k] (List.getElem?_eq_getElem hku)
            have hfx := HF.out ups[k] (List.getElem_mem _)
            obtain ⟨x, hx⟩ : ∃ x, ups[k] = x := ⟨_, rfl⟩
            rw [hx] at c0 c1 c2 hfx
            rw [← hI.below.cell hbl] at c0 c1 c2
            have HX := Lib.hid hx
            clear hx
            obtain ⟨x1, x2, x3⟩ := hfx
            have p1 := pickI_bd x.id 250 (by omega)
            have p2 := pickI_bd x.inc 1073741824 (by omega)
            have p3 := pickI_bd x.st 4 (by omega)
            have hsz := hI.size
            have HI := Lib.hid hI
            have HW := Lib.hid ((hI.alloc (.cells #[.int .i64 x.id, .int .i64 x.inc, .int .i64 x.st] 31)).alloc (.cells #[.int .i64 (1 + pickI x.id 250), .int .i64 (1 + pickI x.inc 1073741824), .int .i64 (1 + pickI x.st 4)] 31))
            have HNW := Lib.hid (cells_new (wr.alloc (.cells #[.int .i64 x.id, .int .i64 x.inc, .int .i64 x.st] 31)) [.int .i64 (1 + pickI x.id 250), .int .i64 (1 + pickI x.inc 1073741824), .int .i64 (1 + pickI x.st 4)] 31 (n := wr.heap.size + 1) (by simp))
            have hM5 := cells_at HW.out.M 5
            have hM5' := cells_at HI.out.M 5
            simp only [List.getElem?_toArray, List.getElem?_cons_succ, List.getElem?_cons_zero] at hM5 hM5'
            have hMa : ∀ o, (wr.alloc o).cell? ⟨w.heap.size + 1 + 1, 5, none⟩ = some v := fun o => by rw [World.cell?_alloc_lt _ _ _ hsz]; exact hM5'
            have k3 : k + 1 ≤ maxLen := by unfold maxLen; omega
            have K3 := Lib.hid k3
            obtain ⟨i0, hi, hz0, hz1, hz2⟩ := info_parts info_key
            clear hI k3 hM5 hM5'
            go_wp2_with (first
              | (go_at_call 9; refine (pick_any _ _ _ (by omega) (by omega) (by omega)).mono ?_; rintro e w1 ⟨rfl, rfl⟩)
              | (at_builtin; refine wpList_append_own _ rfl _ _ 27 rfl (w.heap.size + 3) 31 i0 _ 3 24 Tryz.underlying27 hi hz0 hz1 hz2 rfl (by decide) v k _ rfl HW.out.row ⟨wr.heap.size + 1, 0, none⟩ 1 1 _ rfl rfl HNW.out (by simp [Value.oneCell']) K3.out (by omega) (by have := HW.out.size; omega) ?_))
            intro v' w1 hown1 hgrow1 _
            obtain ⟨hM1, hf1, hI1⟩ := HW.out.appended (x := keepKey x) hgrow1 hown1
            obtain ⟨ad', cp', rfl⟩ := ownsRow_sl hown1
            have HI1 := Lib.hid hI1
            clear hI1 hown1 hgrow1
            go_wp2
            go_roundw
            case rel => exact ⟨k + 1, _, by omega, by omega, by go_num, by
              have := HI1.out
              rw [List.take_succ_eq_append_getElem (by rw [List.length_map]; exact hku), List.getElem_map, HX.out]
              exact this⟩
            case measure => simp [intOf]; omega
          · have hk' : k = mo := by omega
            subst hk'
            obtain ⟨ad', cp', rfl⟩ := ownsRow_sl hI.row
            have hcM := cells_at hI.M
            have hcR := cells_at hI.R
            have hfR := unfrozen hI.R
            have hfit := kmsg_close (tgt := tgt) HT.out HMO.out (by rw [HN.out]; omega) hI
            have HE := Lib.hid hfit
            have HI := Lib.hid hI
            clear hI hfit
            go_wp2
            refine six_set (R := bodyPost _ _ _ _ _) HI.out.R _ _ _ _ _ _ (fun W hW hC => ?_)
            have hc := cells_at hW
            refine bodyPost_ret (v := (keepMsg ⟨kind, frm, inc, seq, tgt, ups⟩).agg (.slice ad' k cp')) (by rw [HE.out.1]; simp [results, Tryz.results16, go_sem, M.agg, hc]) rfl ⟨_, rfl, ?_⟩
            exact HE.out.2 W hC
        · have hk' : k = n := by omega
          subst hk'
          obtain ⟨ad', cp', rfl⟩ := ownsRow_sl hI.row
          have hcM := cells_at hI.M
          have hcR := cells_at hI.R
          have hfR := unfrozen hI.R
          have hfit := kmsg_close (tgt := tgt) HT.out HMO.out (by rw [HN.out]; omega) hI
          have HE := Lib.hid hfit
          have HI := Lib.hid hI
          clear hI hfit
          go_wp2
          refine six_set (R := bodyPost _ _ _ _ _) HI.out.R _ _ _ _ _ _ (fun W hW hC => ?_)
          have hc := cells_at hW
          refine bodyPost_ret (v := (keepMsg ⟨kind, frm, inc, seq, tgt, ups⟩).agg (.slice ad' k cp')) (by rw [HE.out.1]; simp [results, Tryz.results16, go_sem, M.agg, hc]) rfl ⟨_, rfl, ?_⟩
          exact HE.out.2 W hC
end Go.Proofs.YtfngdplkcppabaaGreat
namespace Go.Proofs.YtfngdplkcppabaaGreat
open Go.RowKit

/-- What is sent is read. -/
theorem decode_bytes {m : M} (h : wholeB m = true) : decodeM (strOfNums (msgBytes m)).data.toList = some m := by
  obtain ⟨h1, h2⟩ := back_plain h
  rw [strOfNums_list]
  unfold decodeM
  rw [h1, if_pos ⟨h2, h⟩]
theorem bytes_size {m : M} (h : wholeB m = true) : (strOfNums (msgBytes m)).size ≤ 60 := by
  have h8 := whole_len h
  have e : (strOfNums (msgBytes m)).size = (msgBytes m).length := by simp [strOfNums, ByteArray.size]
  rw [e, msgBytes, List.length_append, head_length, keyBytes_length]
  omega
/-- A configuration, by a raw number. -/
def cfgOf (self c : Int) : Cfg :=
  ⟨self, 4 + pickI c 1073741824 % 8, 1 + pickI c 1073741824 / 8 % (2 + pickI c 1073741824 % 8), 1 + pickI c 1073741824 / 64 % 40, pickI c 1073741824 / 4096 % 4, 1 + pickI c 1073741824 / 16384 % 8⟩
theorem cfgOf_ok {self : Int} (c : Int) (h : 1 ≤ self ∧ self ≤ 250) : cfgB (cfgOf self c) = true := by
  have h0 := pickI_bd c 1073741824 (by omega)
  unfold cfgOf
  generalize pickI c 1073741824 = v at h0 ⊢
  have h8 : 0 ≤ v % 8 ∧ v % 8 < 8 := by omega
  have hw : 0 ≤ v / 8 % (2 + v % 8) ∧ v / 8 % (2 + v % 8) < 2 + v % 8 := ⟨Int.emod_nonneg _ (by omega), Int.emod_lt_of_pos _ (by omega)⟩
  generalize v / 8 % (2 + v % 8) = w at hw ⊢
  simp only [cfgB, withinB, Bool.and_eq_true, decide_eq_true_eq]
  omega
theorem cfgOf_per (i j c : Int) : (cfgOf i c).period = (cfgOf j c).period := rfl
theorem cfgOf_susp (i j c : Int) : (cfgOf i c).susp = (cfgOf j c).susp := rfl
/-- The nodes while they join: those before i, and node i with those before k, know each other. -/
structure Mid (n : Nat) (C c : Int) (ds : List Int) (i k : Nat) (xs : List Nd) : Prop where
  len : xs.length = n
  young : ∀ (a : Nat) x, xs[a]? = some x → Young n (a + 1) x ∧ x.c = cfgOf (a + 1) c ∧ x.ds = ds ∧ Bd C x
  kn : ∀ (a b : Nat) x, xs[a]? = some x → b < n → a ≠ b → (a < i ∨ b < i ∨ a = i ∧ b < k ∨ b = i ∧ a < k) → ((b : Int) + 1) ∈ ids x.others
theorem Mid.same {n : Nat} {C c : Int} {ds : List Int} {k : Nat} {xs : List Nd} (h : Mid n C c ds k k xs) : Mid n C c ds k (k + 1) xs :=
  ⟨h.len, h.young, fun a b x hx hb hne ho => h.kn a b x hx hb hne (by omega)⟩
theorem Mid.next {n : Nat} {C c : Int} {ds : List Int} {i : Nat} {xs : List Nd} (h : Mid n C c ds i n xs) : Mid n C c ds (i + 1) 0 xs :=
  ⟨h.len, h.young, fun a b x hx hb hne ho => h.kn a b x hx hb hne (by
    have : a < n := by
      have := h.len
      rcases Nat.lt_or_ge a xs.length with e | e
      · omega
      · rw [List.getElem?_eq_none e] at hx; cases hx
    omega)⟩
theorem Mid.mono {n : Nat} {C C' c : Int} {ds : List Int} {i k : Nat} {xs : List Nd} (h : Mid n C c ds i k xs) (hC : C ≤ C') : Mid n C' c ds i k xs :=
  ⟨h.len, fun a x hx => by obtain ⟨h1, h2, h3, h4⟩ := h.young a x hx; exact ⟨h1, h2, h3, h4.mono hC⟩, h.kn⟩
theorem Mid.known {n : Nat} {C c : Int} {ds : List Int} {i : Nat} {xs : List Nd} (h : Mid n C c ds i n xs) {x : Nd} (hx : xs[i]? = some x) : Known n (i + 1) x := by
  intro b h1 h2 h3
  have := h.kn i (b - 1).toNat x hx (by omega) (by omega) (by omega)
  rw [show ((b - 1).toNat : Int) + 1 = b by omega] at this
  exact this
theorem mid_new {n : Nat} (h6 : n ≤ 6) (c : Int) (ds : List Int) : Mid n 0 c ds 0 0 ((List.range n).map fun (a : Nat) => Nd.new (cfgOf ((a : Int) + 1) c) ds) := by
  refine ⟨by simp, fun a x hx => ?_, fun a b x hx hb hne ho => by omega⟩
  rw [List.getElem?_map] at hx
  obtain ⟨a', ha', rfl⟩ := Option.map_eq_some_iff.1 hx
  have hlt : a < n := by
    rcases Nat.lt_or_ge a n with e | e
    · exact e
    · rw [List.getElem?_eq_none (by simpa using e)] at ha'; cases ha'
  rw [List.getElem?_range hlt] at ha'
  cases ha'
  refine ⟨?_, rfl, rfl, by constructor <;> simp [Nd.new]⟩
  have := young_new (cfgOf_ok c (self := (a : Int) + 1) (by omega)) ds (n := n) (by show ((a : Int) + 1) ≤ n; omega) (by omega)
  exact this
/-- Node i joins node k. -/
theorem Mid.step {n : Nat} {C c : Int} {ds : List Int} {i k : Nat} {xs : List Nd} (h : Mid n C c ds i k xs) (hC : C ≤ 3999990000) (hik : i ≠ k) {x y : Nd} (hx : xs[i]? = some x) (hy : xs[k]? = some y) :
    ∃ m a y' x', x.join (k + 1) = ([((k : Int) + 1, m)], 0, x.next) ∧ wholeB m = true ∧ y.receive (some m) = ([((i : Int) + 1, a)], y') ∧ wholeB a = true ∧ x.next.receive (some a) = ([], x') ∧
      Ok x ∧ Ok y ∧ Ok x.next ∧ Bd C x ∧ Bd C y ∧ Bd (C + 1) x.next ∧ MOk m ∧ MOk a ∧ Mid n (C + 11) c ds i (k + 1) ((xs.set k y').set i x') := by
  obtain ⟨hxy, hxc, hxd, hxb⟩ := h.young i x hx
  obtain ⟨hyy, hyc, hyd, hyb⟩ := h.young k y hy
  obtain ⟨m, a, y', x', e1, e2, e3, e4, e5, e6, e7, e8, e9, e10, e11, e12, e13, e14, e15, _, _⟩ := exchange (i := (k : Int) + 1) (j := (i : Int) + 1) hxy hyy (by omega) (by have := hxb.seq; omega)
  have gj := good_join hxy.calm.ok hxb (by omega) ((k : Int) + 1)
  rw [e1] at gj
  have gy := good_receive hyy.calm.ok hyb (by omega) (some m) (fun m' hm' => by cases hm'; exact mok_of e2)
  rw [e3] at gy
  have gx := good_receive gj.ok gj.bd (by omega) (some a) (fun m' hm' => by cases hm'; exact mok_of e4)
  rw [e5] at gx
  have hin : i < n ∧ k < n := by
    have hl := h.len
    constructor
    · rcases Nat.lt_or_ge i xs.length with e | e
      · omega
      · rw [List.getElem?_eq_none e] at hx; cases hx
    · rcases Nat.lt_or_ge k xs.length with e | e
      · omega
      · rw [List.getElem?_eq_none e] at hy; cases hy
  refine ⟨m, a, y', x', e1, e2, e3, e4, e5, hxy.calm.ok, hyy.calm.ok, gj.ok, hxb, hyb, gj.bd, mok_of e2, mok_of e4, ?_, ?_, ?_⟩
  · simp [h.len]
  · intro b z hz
    by_cases hb : i = b
    · subst hb
      rw [List.getElem?_set_self (by rw [List.length_set]; have := h.len; omega)] at hz
      cases hz
      exact ⟨e6, e12.trans hxc, e14.trans hxd, gx.bd.mono (by omega)⟩
    · rw [List.getElem?_set_ne hb] at hz
      by_cases hb2 : k = b
      · subst hb2
        rw [List.getElem?_set_self (by have := h.len; omega)] at hz
        cases hz
        exact ⟨e7, e13.trans hyc, e15.trans hyd, gy.bd.mono (by omega)⟩
      · rw [List.getElem?_set_ne hb2] at hz
        obtain ⟨h1, h2, h3, h4⟩ := h.young b z hz
        exact ⟨h1, h2, h3, h4.mono (by omega)⟩
  · intro b d z hz hd hne ho
    by_cases hb : i = b
    · subst hb
      rw [List.getElem?_set_self (by rw [List.length_set]; have := h.len; omega)] at hz
      cases hz
      by_cases hdk : d = k
      · subst hdk; exact e10
      · exact e8 _ (h.kn i d x hx hd hne (by omega))
    · rw [List.getElem?_set_ne hb] at hz
      by_cases hb2 : k = b
      · subst hb2
        rw [List.getElem?_set_self (by have := h.len; omega)] at hz
        cases hz
        by_cases hdi : d = i
        · subst hdi; exact e11
        · exact e9 _ (h.kn k d y hy hd hne (by omega))
      · rw [List.getElem?_set_ne hb2] at hz
        exact h.kn b d z hz hd hne (by omega)
end Go.Proofs.YtfngdplkcppabaaGreat
namespace Go.Proofs.YtfngdplkcppabaaGreat
open Go.RowKit

def Cfg.v (c : Cfg) : Value := .agg #[.int .i64 c.self, .int .i64 c.period, .int .i64 c.wait, .int .i64 c.susp, .int .i64 c.prox, .int .i64 c.sends]
theorem config_any (self c : Int) (w : World) (h0 : -9223372036854775808 ≤ c) (h1 : c ≤ 9223372036854775807) :
    Calls Tryz.prog 14 #[.int .i64 self, .int .i64 c] w fun e w' => e = .returned ((cfgOf self c).v) ∧ Below w.heap.size w w' := by
  have hv := pickI_bd c 1073741824 (by omega)
  unfold Cfg.v cfgOf
  simp only
  have hp := fun w => pick_any c 1073741824 w h0 h1 (by omega)
  obtain ⟨v, hve⟩ : ∃ v, pickI c 1073741824 = v := ⟨_, rfl⟩
  rw [hve] at hv hp ⊢
  have HP := Lib.hid hp
  clear hve hp
  have t8 : v.tmod 8 = v % 8 := Int.tmod_eq_emod_of_nonneg hv.1
  have d8 : v.tdiv 8 = v / 8 := Int.tdiv_eq_ediv_of_nonneg hv.1
  have d64 : v.tdiv 64 = v / 64 := Int.tdiv_eq_ediv_of_nonneg hv.1
  have d4096 : v.tdiv 4096 = v / 4096 := Int.tdiv_eq_ediv_of_nonneg hv.1
  have d16384 : v.tdiv 16384 = v / 16384 := Int.tdiv_eq_ediv_of_nonneg hv.1
  go_enter Tryz.func14, Tryz.ntmps14
  go_wp2_with (go_at_call 9; refine (HP.out _).mono ?_; rintro e w1 ⟨rfl, rfl⟩)
  have wq : wrap64 (1 + v / 8 % (4 + v % 8 - 2)) = 1 + v / 8 % (2 + v % 8) := by
    have e : 4 + v % 8 - 2 = 2 + v % 8 := by omega
    have h8 : 0 ≤ v % 8 := by omega
    have h9 : v % 8 < 8 := by omega
    rw [e]
    have hw : 0 ≤ v / 8 % (2 + v % 8) ∧ v / 8 % (2 + v % 8) < 2 + v % 8 := ⟨Int.emod_nonneg _ (by omega), Int.emod_lt_of_pos _ (by omega)⟩
    exact IntWalk.wrap64_in _ (by omega)
  rw [wq]
  refine bodyPost_ret (v := .agg #[.int .i64 self, .int .i64 (4 + v % 8), .int .i64 (1 + v / 8 % (2 + v % 8)), .int .i64 (1 + v / 64 % 40), .int .i64 (v / 4096 % 4), .int .i64 (1 + v / 16384 % 8)]) (by simp [results, Tryz.results14, go_sem]) rfl ⟨rfl, ?_⟩
  exact (Below.refl _ _).alloc (Nat.le_refl _) _
set_option maxRecDepth 100000 in
theorem few_any (ds : List Int) (da : Option Addr) (n c : Nat) (w : World) (hn : ds.length = n) (hl : n ≤ 9223372036854775807) (hd : CellsAt w da (ds.map (Value.int .i64))) :
    Calls Tryz.prog 18 #[.slice da n c] w fun e w' => ∃ v, e = .returned v ∧ w'.ownsRow w.heap.size 3 1 v (ds.take 50).length ((ds.take 50).map (Value.int .i64)) ∧ Below w.heap.size w w' := by
  have HD := Lib.hid hd
  have HN := Lib.hid hn
  clear hd hn
  go_enter Tryz.func18, Tryz.ntmps18
  go_wp2
  obtain ⟨i0, hi, hz0, hz1, hz2⟩ := info_parts info_int
  go_loopw [3, 4] (fun s2 s3 wr => ∃ (k : Nat), k ≤ n ∧ k ≤ 50 ∧ s3 = .int .i64 k ∧ wr.ownsRow w.heap.size 3 1 s2 k ((ds.take k).map (Value.int .i64)) ∧ Below w.heap.size w wr)
    (fun _ s3 _ => 60 - (intOf s3).toNat)
  case atStart => exact ⟨0, Nat.zero_le _, Nat.zero_le _, rfl, World.ownsRow_nil _ _ _ _, Below.refl _ _⟩
  case round =>
    obtain ⟨k, hkn, hk5, rfl, hrow, hb⟩ := hrel
    obtain ⟨ra, rc, rfl⟩ := ownsRow_sl hrow
    have HB := Lib.hid hb
    have hsz := hb.size
    by_cases hlt : k < n
    · by_cases h50 : k < 50
      · have hkl : k < ds.length := by rw [HN.out]; exact hlt
        obtain ⟨b, off, rfl, hbl, hc⟩ := HD.out k (.int .i64 ds[k]) (by rw [List.getElem?_map, List.getElem?_eq_getElem hkl]; rfl)
        obtain ⟨x, hx⟩ : ∃ x, ds[k] = x := ⟨_, rfl⟩
        rw [hx, ← hb.cell hbl] at hc
        have HX := Lib.hid hx
        have k3 : k + 1 ≤ maxLen := by unfold maxLen; omega
        have K3 := Lib.hid k3
        have HNEW := Lib.hid (cells_new wr [.int .i64 x] 3 (n := wr.heap.size) rfl)
        have HROW := Lib.hid (hrow.alloc (.cells #[.int .i64 x] 3))
        clear hx k3 hrow hb
        go_wp2_with (at_builtin; refine wpList_append_own _ rfl _ _ 22 rfl w.heap.size 3 i0 _ 1 8 Tryz.underlying22 hi hz0 hz1 hz2 rfl (by decide) (.slice ra k rc) k _ rfl HROW.out ⟨wr.heap.size, 0, none⟩ 1 1 _ rfl rfl HNEW.out (by simp [Value.oneCell']) K3.out (by omega) (by simp; omega) ?_)
        intro v' w1 hown1 hgrow1 _
        obtain ⟨ad', cp', rfl⟩ := ownsRow_sl hown1
        have hb2 : Below w.heap.size w w1 := (HB.out.alloc (by omega) _).grown hgrow1 (by simp; omega) (fun j hj => (HROW.out.lt j hj).1)
        have HOWN := Lib.hid hown1
        have HB2 := Lib.hid hb2
        clear hown1 hgrow1 hb2
        go_wp2
        go_roundw
        case rel => exact ⟨k + 1, by omega, by omega, by go_num, by
          have := HOWN.out
          rw [List.take_succ_eq_append_getElem hkl, List.map_append, HX.out, List.map_take]
          exact this, HB2.out⟩
        case measure => simp [intOf]; omega
      · have hk' : k = 50 := by omega
        subst hk'
        have HROW := Lib.hid hrow
        clear hrow hb
        go_wp2
        go_ret
        refine ⟨_, rfl, ?_, HB.out⟩
        have e : (ds.take 50).length = 50 := by rw [List.length_take, HN.out]; omega
        rw [e]; exact HROW.out
    · have hk' : k = n := by omega
      subst hk'
      have HROW := Lib.hid hrow
      clear hrow hb
      go_wp2
      go_ret
      refine ⟨_, rfl, ?_, HB.out⟩
      have e : ds.take 50 = ds.take k := by rw [List.take_of_length_le (by rw [HN.out]; omega), List.take_of_length_le (by rw [HN.out]; exact Nat.le_refl _)]
      have e2 : (ds.take k).length = k := by rw [List.length_take, HN.out]; omega
      rw [e, e2]; exact HROW.out
end Go.Proofs.YtfngdplkcppabaaGreat
namespace Go.Proofs.YtfngdplkcppabaaGreat
open Go.RowKit

set_option maxRecDepth 100000 in
set_option maxHeartbeats 2000000 in
theorem gossipNew_any (c : Cfg) (hc : cfgB c = true) (ds : List Int) (hfit : ∀ v ∈ ds, fitsI v) (B w1 w2 dc : Nat) (da : Option Addr) (w : World) (hd : DrawsAt w B ds w1 w2 da dc) (hB : B ≤ w.heap.size) :
    Calls Tryz.prog 33 #[c.v, funV w1 w2] w fun e w' => ∃ q : Bx, q.x = Nd.new c ds ∧ e = .returned (.tuple #[.pointer (some ⟨q.g, 0, none⟩), .nilIface]) ∧ BxAt w' B q ∧ Below w.heap.size w w' := by
  have hb := cfg_bounds hc
  obtain ⟨self, per, wt, susp, prox, sends⟩ := c
  simp only at hb
  have wp : IntKind.i64.wrap (per - 2) = per - 2 := IntWalk.i64_in _ (by omega)
  have hnew := fun W hW hS => nodeNew_any ⟨self, per, wt, susp, prox, sends⟩ hc ds hfit B w1 w2 dc da W hW hS
  have HNEW := Lib.hid hnew
  have HD := Lib.hid hd
  clear hnew hd hc
  unfold Cfg.v funV
  go_enter Tryz.func33, Tryz.ntmps33
  go_wp2_with (go_at_call 57; refine (HNEW.out _ (HD.out.below ((Below.refl _ _).alloc (Nat.le_refl _) _)) (by simp; omega)).mono ?_; rintro e w3 ⟨a, ov, rfl, hN, hO, hB3⟩; have HN := Lib.hid hN; have HO := Lib.hid hO; have HB3 := Lib.hid hB3; clear hN hO hB3)
  have hz := HB3.out.size
  simp only [World.size_alloc] at hz
  refine bodyPost_ret (v := .tuple #[.pointer (some ⟨w3.heap.size, 0, none⟩), .nilIface]) (by simp [results, Tryz.results33, go_sem]) rfl ⟨⟨w3.heap.size, a, Nd.new ⟨self, per, wt, susp, prox, sends⟩ ds⟩, rfl, rfl, ⟨⟨ov, HN.out.below ((Below.refl _ _).alloc (Nat.le_refl _) _)⟩, heap_alloc_eq w3 _, fun e => ?_, fun k hk => ?_⟩, ?_⟩
  · exact absurd (HN.out.owns_lt e) (Nat.lt_irrefl _)
  · rcases hk with e | e
    · rw [e]; show B ≤ w3.heap.size; omega
    · exact HO.out k e
  · exact (((Below.refl _ _).alloc (Nat.le_refl _) _).trans (HB3.out.mono (by simp))).alloc (by omega) _
set_option maxRecDepth 100000 in
set_option maxHeartbeats 2000000 in
theorem plainNew_any (c : Cfg) (hc : cfgB c = true) (ds : List Int) (hfit : ∀ v ∈ ds, fitsI v) (da : Option Addr) (n cap : Nat) (w : World) (hn : ds.length = n) (hl : n < 1000000) (hd : CellsAt w da (ds.map (Value.int .i64))) :
    Calls Tryz.prog 19 #[c.v, .slice da n cap] w fun e w' => ∃ q : Bx, q.x = Nd.new c ds ∧ e = .returned (.tuple #[.pointer (some ⟨q.g, 0, none⟩), .nilIface]) ∧ BxAt w' w.heap.size q ∧ Below w.heap.size w w' := by
  obtain ⟨self, per, wt, susp, prox, sends⟩ := c
  have hS : ∀ w' : World, w'.heap[w.heap.size]? = some (.cells #[.int .i64 self, .int .i64 per, .int .i64 wt, .int .i64 susp, .int .i64 prox, .int .i64 sends] 50 (0, 0)) → (w'.cell? ⟨w.heap.size, 0, none⟩ = some (.int .i64 self) ∧ w'.cell? ⟨w.heap.size, 1, none⟩ = some (.int .i64 per) ∧ w'.cell? ⟨w.heap.size, 2, none⟩ = some (.int .i64 wt) ∧ w'.cell? ⟨w.heap.size, 3, none⟩ = some (.int .i64 susp) ∧ w'.cell? ⟨w.heap.size, 4, none⟩ = some (.int .i64 prox) ∧ w'.cell? ⟨w.heap.size, 5, none⟩ = some (.int .i64 sends)) := fun w' h => by
    refine ⟨?_, ?_, ?_, ?_, ?_, ?_⟩ <;> (rw [cells_at h]; rfl)
  obtain ⟨w0, hw0⟩ : ∃ w0, w.alloc (.cells #[.int .i64 self, .int .i64 per, .int .i64 wt, .int .i64 susp, .int .i64 prox, .int .i64 sends] 50) = w0 := ⟨_, rfl⟩
  have h0 : w0.heap[w.heap.size]? = some (.cells #[.int .i64 self, .int .i64 per, .int .i64 wt, .int .i64 susp, .int .i64 prox, .int .i64 sends] 50 (0, 0)) := by rw [← hw0]; exact heap_alloc_eq w _
  have hb0 : Below w.heap.size w w0 := by rw [← hw0]; exact (Below.refl _ _).alloc (Nat.le_refl _) _
  have hdr := fun (W : World) (hW : W.heap = w0.heap) => draws_any ds da n cap W hn hl (by
    have h := hd.below hb0
    refine h.heap (fun b off e hlt => ?_)
    rw [hW]; exact ⟨rfl, hlt⟩)
  have HS := Lib.hid hS
  have HDR0 := Lib.hid hdr
  have HC := Lib.hid hc
  have HF := Lib.hid hfit
  have HW0 := Lib.hid hw0
  have H0 := Lib.hid h0
  have HB0 := Lib.hid hb0
  clear hd hn hc hfit hS hdr hw0 h0 hb0
  unfold Cfg.v
  go_enter Tryz.func19, Tryz.ntmps19
  go_wp2
  rw [HW0.out]
  go_cut [4, 5] (fun s4 s5 wx => ∃ q : Bx, q.x = Nd.new ⟨self, per, wt, susp, prox, sends⟩ ds ∧ s4 = .pointer (some ⟨q.g, 0, none⟩) ∧ s5 = .nilIface ∧ BxAt wx w.heap.size q ∧ Below w.heap.size w wx)
  case first =>
    go_region_held3 (fun w' => w'.cell? ⟨w.heap.size, 0, none⟩ = some (.int .i64 self) ∧ w'.cell? ⟨w.heap.size, 1, none⟩ = some (.int .i64 per) ∧ w'.cell? ⟨w.heap.size, 2, none⟩ = some (.int .i64 wt) ∧ w'.cell? ⟨w.heap.size, 3, none⟩ = some (.int .i64 susp) ∧ w'.cell? ⟨w.heap.size, 4, none⟩ = some (.int .i64 prox) ∧ w'.cell? ⟨w.heap.size, 5, none⟩ = some (.int .i64 sends))
      (first | exact HS.out _ H0.out | exact HS.out _ ((HB.out.block _ (heap_lt H0.out)).trans H0.out) | exact HS.out _ ((HB3.out.block _ (Nat.lt_of_lt_of_le (heap_lt H0.out) HB.out.size)).trans ((HB.out.block _ (heap_lt H0.out)).trans H0.out)))
      ((first
        | (go_at_call 34; refine (HDR0.out _ (by rfl)).mono ?_; rintro e w2 ⟨w1, b2, da', dc, rfl, hD, hB⟩; have HDR := Lib.hid hD; have HB : Hid (Below w0.heap.size w0 w2) := Lib.hid ⟨hB.os, hB.tape, hB.output, hB.size, hB.block⟩; clear hD hB)
        | (go_at_call 33; refine (gossipNew_any ⟨self, per, wt, susp, prox, sends⟩ HC.out ds HF.out w0.heap.size w1 b2 dc da' _ HDR.out HB.out.size).mono ?_; rintro e w3 ⟨q, hx, rfl, hA, hB3⟩; have HX := Lib.hid hx; have HA := Lib.hid hA; have HB3 := Lib.hid hB3; clear hx hA hB3)))
    all_goals
      go_wp2
      go_meet
      case rel => exact ⟨q, HX.out, rfl, rfl, ⟨HA.out.node, HA.out.box, HA.out.free, fun k hk => Nat.le_trans HB0.out.size (HA.out.low k hk)⟩, (HB0.out.trans (HB.out.mono HB0.out.size)).trans (HB3.out.mono (Nat.le_trans HB0.out.size HB.out.size))⟩
  case rest =>
    obtain ⟨q, hx, rfl, rfl, hA, hB⟩ := hcut
    have HX := Lib.hid hx
    have HA := Lib.hid hA
    have HB := Lib.hid hB
    clear hx hA hB
    go_wp2
    exact bodyPost_ret (v := .tuple #[.pointer (some ⟨q.g, 0, none⟩), .nilIface]) (by simp [results, Tryz.results19, go_sem]) rfl ⟨q, HX.out, rfl, HA.out, HB.out⟩
end Go.Proofs.YtfngdplkcppabaaGreat
namespace Go.Proofs.YtfngdplkcppabaaGreat
open Go.RowKit

/-- An error's value, by its number. -/
def errV (e : Int) : Value := if e = 0 then .nilIface else .iface 67 (.int .i64 e)
theorem join_left {x : Nd} (h : x.self.st = 4) (n : Int) : x.join n = ([], 4, x) := by unfold Nd.join; rw [if_pos h]
theorem join_id {x : Nd} (h : x.self.st ≠ 4) {n : Int} (hn : n < 1 ∨ n > 250 ∨ n = x.self.id) : x.join n = ([], 3, x) := by unfold Nd.join; rw [if_neg h, if_pos hn]
theorem join_ok {x : Nd} (h : x.self.st ≠ 4) {n : Int} (hn : ¬ (n < 1 ∨ n > 250 ∨ n = x.self.id)) : x.join n = ([(n, x.next.msg ⟨4, 0, 0, x.seq + 1, 0, []⟩)], 0, x.next) := by unfold Nd.join; rw [if_neg h, if_neg hn]
def JoinPost (w : World) (a : Ad) (x : Nd) (n : Int) (e : Ending) (w' : World) : Prop := ∃ v, e = .returned (.tuple #[v, errV (x.join n).2.1]) ∧ Gives w a x ((x.join n).1, (x.join n).2.2) v w'
set_option maxRecDepth 100000 in
set_option maxHeartbeats 2000000 in
theorem join_any {x : Nd} (ho : Ok x) {C : Int} (hbd : Bd C x) (hC : C ≤ 1000000000000) (a : Ad) (ov : Value) (w : World) (h : NodeAt w a ov x) (n : Int) :
    Calls Tryz.prog 20 #[.pointer (some ⟨a.b, 0, none⟩), .int .i64 n] w (JoinPost w a x n) := by
  have T0 := turned_nil h
  obtain ⟨w0, hw0⟩ : ∃ w0, w.setCell ⟨a.b, 20, none⟩ (.slice none 0 0) = w0 := ⟨_, rfl⟩
  rw [hw0] at T0
  have c20 : w.cell? ⟨a.b, 20, none⟩ = some ov := h.blk.cell (by omega)
  have f20 := h.blk.free 20
  have c9 : w.cell? ⟨a.b, 9, none⟩ = some (.int .i64 x.self.st) := h.blk.cell (by omega)
  have c7 : w.cell? ⟨a.b, 7, none⟩ = some (.int .i64 x.self.id) := h.blk.cell (by omega)
  have hsq := hbd.seq
  have hsz : w.heap.size ≤ w0.heap.size := T0.chg.size
  have HT0 := Lib.hid T0
  have HW0 := Lib.hid hw0
  have HO := Lib.hid ho
  clear T0 hw0 h ho hbd
  unfold JoinPost
  by_cases hst : x.self.st = 4
  · rw [join_left hst]
    have hb : (x.self.st == 4) = true := by simpa using hst
    clear hst
    go_enter Tryz.func20, Tryz.ntmps20
    go_wp2
    rw [HW0.out]
    exact bodyPost_ret (v := .tuple #[.slice none 0 0, errV 4]) (by simp [results, Tryz.results20, go_sem]; rfl) rfl ⟨_, rfl, a, HT0.out, OutRow.nil _ _⟩
  · have hb : (x.self.st == 4) = false := by simpa using hst
    by_cases hn : n < 1 ∨ n > 250 ∨ n = x.self.id
    · rw [join_id hst hn]
      have hT1 : ∀ k, Gives w a x ([], x) (.slice none 0 0) (w0.drewN k) := fun k => ⟨a, HT0.out.then (Turned.drewN (Turned.refl HT0.out.node) k), OutRow.nil _ _⟩
      have HT1 := Lib.hid hT1
      clear hT1
      have hcase : n < 1 ∨ (1 ≤ n ∧ 250 < n) ∨ (1 ≤ n ∧ n ≤ 250 ∧ n = x.self.id) := by omega
      clear hst hn
      rcases hcase with h1 | ⟨h1, h2⟩ | ⟨h1, h2, h3⟩
      · go_enter Tryz.func20, Tryz.ntmps20
        go_wp2
        rw [HW0.out]
        exact bodyPost_ret (v := .tuple #[.slice none 0 0, errV 3]) (by simp [results, Tryz.results20, go_sem]; rfl) rfl ⟨_, rfl, HT1.out 0⟩
      · go_enter Tryz.func20, Tryz.ntmps20
        go_wp2
        rw [HW0.out]
        exact bodyPost_ret (v := .tuple #[.slice none 0 0, errV 3]) (by simp [results, Tryz.results20, go_sem]; rfl) rfl ⟨_, rfl, HT1.out 0⟩
      · have h3b : (n == x.self.id) = true := by simpa using h3
        clear h3
        go_enter Tryz.func20, Tryz.ntmps20
        go_wp2
        rw [HW0.out]
        exact bodyPost_ret (v := .tuple #[.slice none 0 0, errV 3]) (by simp [results, Tryz.results20, go_sem]; rfl) rfl ⟨_, rfl, HT1.out 0⟩
    · rw [join_ok hst hn]
      have h1 : 1 ≤ n := by omega
      have h2 : n ≤ 250 := by omega
      have h3b : (n == x.self.id) = false := by simp only [beq_eq_false_iff_ne, ne_eq]; omega
      clear hst hn
      go_enter Tryz.func20, Tryz.ntmps20
      go_wp2_with (first
        | (go_at_call 36; rw [HW0.out]; refine (next_any (by omega) a (.slice none 0 0) _ HT0.out.node).mono ?_; rintro e w2 ⟨rfl, hT2⟩
           have hsz2 := hT2.chg.size
           have HT2 := Lib.hid hT2
           clear hT2)
        | (go_at_call 35; refine (send_high a (.slice none 0 0) w.heap.size [] _ HT2.out.node (OutRow.nil _ _) (by omega) (by simp) n 4 0 0 (x.seq + 1) 0 (by omega) [] none 0 (fun i k hk => by simp at hk) (by simp)).mono ?_; rintro e w3 ⟨rfl, ov3, hT3⟩
           have d20 : w3.cell? ⟨a.b, 20, none⟩ = some ov3 := hT3.node.blk.cell (by omega)
           have HT3 := Lib.hid hT3
           clear hT3))
      exact bodyPost_ret (v := .tuple #[ov3, errV 0]) (by simp [results, Tryz.results20, go_sem]; rfl) rfl ⟨_, rfl, Gives.of ((HT0.out.st (OutRow.nil _ _)).trans ((St.turned HT0.out.node (OutRow.nil _ _) HT2.out).trans HT3.out))⟩
end Go.Proofs.YtfngdplkcppabaaGreat
