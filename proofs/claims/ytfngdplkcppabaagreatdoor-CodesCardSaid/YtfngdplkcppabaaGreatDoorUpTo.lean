/-
  gossiplaw: upTo, small.
-/
import Derived.Test.YtfngdplkcppabaaGreatDoorStepB
namespace Go.Proofs.YtfngdplkcppabaaGreatDoor
open Go.RowKit

def Sop.cells (o : Sop) : List Value := [.int .i64 o.kind, .int .i64 o.x, .int .i64 o.a, .int .i64 o.b, .int .i64 o.c, .int .i64 o.d, .int .i64 o.e, .string o.s]
/-- From address a on lie the steps of l. -/
def OpsAt (w : World) (a : Option Addr) (l : List Sop) : Prop :=
  ∀ (i : Nat) (o : Sop), l[i]? = some o → ∃ b off, a = some ⟨b, off, none⟩ ∧ b < w.heap.size ∧ ∀ (j : Nat) v, o.cells[j]? = some v → w.cell? ⟨b, off + i * 8 + j, none⟩ = some v
theorem OpsAt.below {w w' : World} {a : Option Addr} {l : List Sop} (h : OpsAt w a l) (hb : Below w.heap.size w w') : OpsAt w' a l := by
  intro i o ho
  obtain ⟨b, off, e, hlt, hc⟩ := h i o ho
  exact ⟨b, off, e, Nat.lt_of_lt_of_le hlt hb.size, fun j v hv => (hb.cell hlt).trans (hc j v hv)⟩
/-- The World at its start. -/
def world0 : List Value := [.slice none 0 0, .int .i64 0, .int .i64 0, .int .i64 0, .int .i64 0, .int .i64 0, .slice none 0 0, .slice none 0 0, .int .i64 0, .int .i64 0, .int .i64 0, .int .i64 0, .int .i64 0, .int .i64 0, .slice none 0 0, .slice none 0 0, .slice none 0 0, .slice none 0 0, .slice none 0 0, .slice none 0 0, .int .i64 0]

set_option maxRecDepth 100000 in
set_option maxHeartbeats 1000000 in
theorem upTo_any (l : List Sop) (a : Option Addr) (n cap : Nat) (w : World) (hn : l.length = n) (hl : n ≤ 1000000) (ha : OpsAt w a l) (I : Nat → World → Prop)
    (h0 : I 0 (w.alloc (.cells world0.toArray 41))) (hI : ∀ k wr, I k wr → Below w.heap.size w wr)
    (hstep : ∀ k wr o, I k wr → l[k]? = some o → Calls Tryz.prog 10 #[.pointer (some ⟨w.heap.size, 0, none⟩), o.v] wr fun e w' => e = .returned (.bool true) ∧ I (k + 1) w') :
    Calls Tryz.prog 9 #[.slice a n cap] w fun e w' => e = .returned (.int .i64 (-1)) ∧ Below w.heap.size w w' := by
  have HA := Lib.hid ha
  have HN := Lib.hid hn
  have H0 := Lib.hid h0
  have HI := Lib.hid hI
  have HST := Lib.hid hstep
  clear ha hn h0 hI hstep
  go_enter Tryz.func9, Tryz.ntmps9
  go_wp2_with fail
  go_loopw [4] (fun i wr => ∃ k : Nat, k ≤ n ∧ i = .int .i64 k ∧ I k wr) (fun i _ => n - (intOf i).toNat)
  case atStart => exact ⟨0, Nat.zero_le _, rfl, H0.out⟩
  case round =>
    obtain ⟨k, hkn, rfl, hik⟩ := hrel
    by_cases hlt : k < n
    · have hlt' : k < l.length := by have := HN.out; omega
      obtain ⟨bb, off, rfl, hbb, hcc⟩ := HA.out k l[k] (List.getElem?_eq_getElem hlt')
      have hb := HI.out k wr hik
      have c0 := (hb.cell hbb).trans (hcc 0 _ rfl)
      have c1 := (hb.cell hbb).trans (hcc 1 _ rfl)
      have c2 := (hb.cell hbb).trans (hcc 2 _ rfl)
      have c3 := (hb.cell hbb).trans (hcc 3 _ rfl)
      have c4 := (hb.cell hbb).trans (hcc 4 _ rfl)
      have c5 := (hb.cell hbb).trans (hcc 5 _ rfl)
      have c6 := (hb.cell hbb).trans (hcc 6 _ rfl)
      have c7 := (hb.cell hbb).trans (hcc 7 _ rfl)
      have HS := Lib.hid (HST.out k wr l[k] hik (List.getElem?_eq_getElem hlt'))
      obtain ⟨o, ho⟩ : ∃ o, l[k] = o := ⟨_, rfl⟩
      rw [ho] at c0 c1 c2 c3 c4 c5 c6 c7 HS
      rw [Nat.add_zero] at c0
      clear hb hik hcc ho
      unfold Sop.v at HS
      go_wp2_with fail
      refine HS.out.mono ?_
      rintro e w2 ⟨rfl, hi2⟩
      have HI2 := Lib.hid hi2
      clear hi2 c0 c1 c2 c3 c4 c5 c6 c7
      go_wp2_with fail
      exact ⟨⟨k + 1, by omega, by go_num, HI2.out⟩, by simp [intOf]; omega⟩
    · have hk' : k = n := by omega
      subst hk'
      go_wp2
      go_ret
      exact ⟨rfl, HI.out _ _ hik⟩
end Go.Proofs.YtfngdplkcppabaaGreatDoor
