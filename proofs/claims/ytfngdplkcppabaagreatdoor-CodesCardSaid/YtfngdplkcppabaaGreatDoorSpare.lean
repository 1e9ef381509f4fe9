/-
  gossiplaw: spare, still.
-/
import Derived.Test.YtfngdplkcppabaaGreatDoorKeyBlock
import Derived.RegionTactic
import Derived.BigRegion
import Derived.Deep.DeepCutAuto
namespace Go.Proofs.YtfngdplkcppabaaGreatDoor
open Go.RowKit

def zK : K := ⟨0, 0, 0⟩
def mK : K := ⟨-7, 0, 0⟩
def spareF (l : List K) (k : Nat) (i : Nat) : K := if i < k then l.getD i zK else zK
theorem KB.congr {w : World} {b N : Nat} {f f' : Nat → K} (h : KB w b N f) (e : ∀ i, i < N → f i = f' i) : KB w b N f' := by
  obtain ⟨cs, h1, h2, h3⟩ := h
  exact ⟨cs, h1, h2, fun i hi => by rw [← e i hi]; exact h3 i hi⟩
theorem KB.drew {w : World} {b N : Nat} {f : Nat → K} (h : KB w b N f) : KB w.drew b N f := h
theorem made_cells (n : Nat) : (List.replicate n [Value.int .i64 0, .int .i64 0, .int .i64 0]).flatten = keyCells (List.replicate n zK) := by
  induction n with
  | zero => rfl
  | succ n ih => rw [List.replicate_succ, List.flatten_cons, ih, List.replicate_succ]; rfl

set_option maxRecDepth 100000 in
set_option maxHeartbeats 1000000 in
theorem spare_any (l : List K) (a : Option Addr) (n cap : Nat) (w : World) (hn : l.length = n) (hl : n ≤ 1000000) (ha : KeysAt w a l) :
    Calls Tryz.prog 22 #[.slice a n cap] w fun e w' => ∃ g cap', e = .returned (.slice (some ⟨g, 0, none⟩) n cap') ∧ w.heap.size ≤ g ∧ n + 2 ≤ cap' ∧ Below w.heap.size w w' ∧
      KB w' g (n + 2) (fun i => if i < n then l.getD i zK else mK) := by
  have HA := Lib.hid ha
  have HN := Lib.hid hn
  clear ha hn
  obtain ⟨cs, hmk, hkb⟩ := make_keys (n + 2) (by omega)
  have e2 : ((n + 2 : Nat) : Int) = (n : Int) + 2 := by omega
  rw [e2] at hmk
  have HKB := Lib.hid hkb
  clear hkb e2
  go_enter Tryz.func22, Tryz.ntmps22
  go_wp2_with fail
  go_loopw [5] (fun i wr => ∃ k : Nat, k ≤ n ∧ i = .int .i64 k ∧ Below w.heap.size w wr ∧ KB wr w.heap.size (n + 2) (spareF l k)) (fun i _ => n - (intOf i).toNat)
  case atStart => exact ⟨0, Nat.zero_le _, rfl, (Below.refl _ _).alloc (Nat.le_refl _) _, by
    have e : spareF l 0 = fun _ => (⟨0, 0, 0⟩ : K) := by funext i; simp [spareF, zK]
    rw [e]; exact HKB.out w⟩
  case round =>
    obtain ⟨k, hkl, rfl, hb, hK⟩ := hrel
    by_cases hlt : k < n
    · have hlt' : k < l.length := by have := HN.out; omega
      obtain ⟨b1, off1, rfl, hb1, c0, c1, c2⟩ := HA.out k l[k] (List.getElem?_eq_getElem hlt')
      rw [← hb.cell hb1] at c0 c1 c2
      have hk2 : k < n + 2 := by omega
      have d0 := hK.cell0 hk2
      have d1 := hK.cell1 hk2
      have d2 := hK.cell2 hk2
      have f0 := hK.free (k * 3)
      have f1 := hK.free (k * 3 + 1)
      have f2 := hK.free (k * 3 + 2)
      have HBB := Lib.hid hb
      have HK := Lib.hid hK
      clear hb hK hmk
      go_wp2_with fail
      go_region
      have hK3 := (HK.out.set hk2 l[k]).drew
      have HK3 := Lib.hid hK3
      have HB3 : Hid (Below w.heap.size w (((wr.setCell ⟨w.heap.size, k * 3, none⟩ (.int .i64 l[k].id)).setCell ⟨w.heap.size, k * 3 + 1, none⟩ (.int .i64 l[k].inc)).setCell ⟨w.heap.size, k * 3 + 2, none⟩ (.int .i64 l[k].st)).drew) :=
        (((HBB.out.setCell (by simp) _).setCell (by simp) _).setCell (by simp) _).drew
      obtain ⟨W, hW⟩ : ∃ W, W = (((wr.setCell ⟨w.heap.size, k * 3, none⟩ (.int .i64 l[k].id)).setCell ⟨w.heap.size, k * 3 + 1, none⟩ (.int .i64 l[k].inc)).setCell ⟨w.heap.size, k * 3 + 2, none⟩ (.int .i64 l[k].st)).drew := ⟨_, rfl⟩
      rw [← hW] at HK3 HB3 ⊢
      clear hW hK3 c0 c1 c2 d0 d1 d2 f0 f1 f2
      go_wp2
      go_roundw
      case rel =>
        refine ⟨k + 1, by omega, by go_num, HB3.out, ?_⟩
        have e : spareF l (k + 1) = fun j => if j = k then l[k] else spareF l k j := by
          funext j
          unfold spareF
          by_cases hj : j = k
          · subst hj; simp [List.getD, hlt']
          · rw [if_neg hj]
            by_cases hj' : j < k
            · rw [if_pos (by omega), if_pos hj']
            · rw [if_neg (by omega), if_neg hj']
        rw [e]; exact HK3.out
      case measure => simp [intOf]; omega
    · have hk' : k = n := by omega
      subst hk'
      have h1 : k < k + 2 := by omega
      have h2 : k + 1 < k + 2 := by omega
      have d0 := hK.cell0 h1
      have d1 := hK.cell1 h1
      have d2 := hK.cell2 h1
      have f0 := hK.free
      obtain ⟨Wa, hWa⟩ : ∃ Wa, Wa = ((wr.setCell ⟨w.heap.size, k * 3, none⟩ (.int .i64 (-7))).setCell ⟨w.heap.size, k * 3 + 1, none⟩ (.int .i64 0)).setCell ⟨w.heap.size, k * 3 + 2, none⟩ (.int .i64 0) := ⟨_, rfl⟩
      have hKa : KB Wa w.heap.size (k + 2) (fun j => if j = k then mK else spareF l k j) := by rw [hWa]; exact hK.set h1 mK
      have hBa : Below w.heap.size w Wa := by rw [hWa]; exact ((hb.setCell (by simp) _).setCell (by simp) _).setCell (by simp) _
      have e0 := hKa.cell0 h2
      have e1 := hKa.cell1 h2
      have e2 := hKa.cell2 h2
      have fa := hKa.free
      have hKb : KB (((Wa.setCell ⟨w.heap.size, (k + 1) * 3, none⟩ (.int .i64 (-7))).setCell ⟨w.heap.size, (k + 1) * 3 + 1, none⟩ (.int .i64 0)).setCell ⟨w.heap.size, (k + 1) * 3 + 2, none⟩ (.int .i64 0)) w.heap.size (k + 2) (fun j => if j = k + 1 then mK else if j = k then mK else spareF l k j) := hKa.set h2 mK
      have hBb : Below w.heap.size w (((Wa.setCell ⟨w.heap.size, (k + 1) * 3, none⟩ (.int .i64 (-7))).setCell ⟨w.heap.size, (k + 1) * 3 + 1, none⟩ (.int .i64 0)).setCell ⟨w.heap.size, (k + 1) * 3 + 2, none⟩ (.int .i64 0)) := ((hBa.setCell (by simp) _).setCell (by simp) _).setCell (by simp) _
      have HWa := Lib.hid hWa
      have HB := Lib.hid hBb
      have HK := Lib.hid hKb
      clear hmk hK hKa hKb hb hWa hBa hBb
      go_upto_region 8 with (fail)
      rw [← HWa.out]
      go_wp2
      go_ret
      exact ⟨w.heap.size, k + 2, rfl, Nat.le_refl _, Nat.le_refl _, HB.out, HK.out.congr (fun j hj => by
        by_cases j1 : j = k + 1
        · rw [if_pos j1, if_neg (by omega)]
        · by_cases j2 : j = k
          · rw [if_neg j1, if_pos j2, if_neg (by omega)]
          · rw [if_neg j1, if_neg j2, if_pos (by omega)]; unfold spareF; rw [if_pos (by omega)])⟩

set_option maxRecDepth 100000 in
set_option maxHeartbeats 1000000 in
theorem still_any (l : List K) (g : Nat) (b : Option Addr) (n cap cap' : Nat) (w : World) (hn : l.length = n) (hl : n ≤ 1000000) (hc : n + 2 ≤ cap)
    (hg : KB w g (n + 2) (fun i => if i < n then l.getD i zK else mK)) (hb : KeysAt w b l) :
    Calls Tryz.prog 24 #[.slice (some ⟨g, 0, none⟩) n cap, .slice b n cap'] w fun e w' => e = .returned (.bool true) ∧ Chg (fun k _ => k = g) w w' := by
  have hga : KeysAt w (some ⟨g, 0, none⟩) l := hg.keysAt (by omega) (fun i k hk => by
    have hi : i < l.length := by
      rcases Nat.lt_or_ge i l.length with h' | h'
      · exact h'
      · rw [List.getElem?_eq_none h'] at hk; cases hk
    show (if i < n then l.getD i zK else mK) = k
    rw [if_pos (by omega)]
    simp [List.getD, hk])
  have HGA := Lib.hid hga
  have HB := Lib.hid hb
  have HN := Lib.hid hn
  have HG := Lib.hid hg
  have hlt := hg.lt
  clear hga hb hn hg
  go_enter Tryz.func24, Tryz.ntmps24
  go_wp2_with fail
  refine (keys_same l _ _ n _ _ _ HN.out (by omega) HGA.out HB.out).mono ?_
  rintro e w1 ⟨rfl, hb1⟩
  have hg1 := HG.out.under hb1 hlt
  have d0 : w1.cell? ⟨g, n * 3, none⟩ = some (.int .i64 (-7)) := by
    have := hg1.cell0 (i := n) (by omega)
    rw [if_neg (by omega)] at this; exact this
  have d1 : w1.cell? ⟨g, (n + 1) * 3, none⟩ = some (.int .i64 (-7)) := by
    have := hg1.cell0 (i := n + 1) (by omega)
    rw [if_neg (by omega)] at this; exact this
  have HG1 := Lib.hid hg1
  have HC1 : Hid (Chg (fun k _ => k = g) w w1) := ⟨hb1.os, hb1.tape, hb1.output, hb1.size, fun k o hk _ => (hb1.block k (heap_lt hk)).trans hk⟩
  clear hg1 hb1
  go_wp2
  go_loopw [9] (fun i wr => ∃ k : Nat, k ≤ n + 2 ∧ i = .int .i64 k ∧ Chg (fun k _ => k = g) w wr ∧ ∃ f, KB wr g (n + 2) f) (fun i _ => n + 2 - (intOf i).toNat)
  case atStart => exact ⟨0, Nat.zero_le _, rfl, HC1.out, _, HG1.out⟩
  case round =>
    obtain ⟨k, hkl, rfl, hch, f, hK⟩ := hrel
    by_cases hlt2 : k < n + 2
    · have c0 := hK.cell0 hlt2
      have c1 := hK.cell1 hlt2
      have c2 := hK.cell2 hlt2
      have fr := hK.free
      have hK2 := hK.set hlt2 mK
      have HK2 := Lib.hid hK2
      have HCH := Lib.hid hch
      clear hK hK2 hch d0 d1
      go_wp2
      go_roundw
      case rel => exact ⟨k + 1, by omega, by go_num, ((HCH.out.setCell _ (fun _ _ => rfl)).setCell _ (fun _ _ => rfl)).setCell _ (fun _ _ => rfl), _, HK2.out⟩
      case measure => simp [intOf]; omega
    · have hk' : k = n + 2 := by omega
      go_wp2
      go_ret
      exact ⟨rfl, hch⟩
end Go.Proofs.YtfngdplkcppabaaGreatDoor
