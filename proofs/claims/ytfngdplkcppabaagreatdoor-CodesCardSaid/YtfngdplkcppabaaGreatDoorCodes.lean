/-
  gossiplaw: Codes.
-/
import Derived.Test.YtfngdplkcppabaaGreatDoorPlays
namespace Go.Proofs.YtfngdplkcppabaaGreatDoor
open Go.RowKit

def f0 (i : Nat) : Value := world0.getD i undef
def d0 : Sd := ⟨[], ⟨0, 0, 0, 0, 0, []⟩, [], [], [], [], [], [], 0⟩
theorem IntIn.none (w : World) : IntIn w Option.none [] := ⟨fun j v h => by simp at h, fun b off e => by cases e⟩
theorem sat0 (w : World) : SAt w.heap.size w.heap.size 0 (w.alloc (.cells world0.toArray 41)) f0 d0 where
  blk := ⟨world0.toArray, heap_alloc_eq w _, by decide, fun i hi => by
    have : i < world0.length := hi
    simp [f0, List.getD, this]⟩
  hB := Nat.le_refl _
  t0 := ⟨none, 0, rfl⟩
  tr := World.ownsRow_nil _ _ _ _
  tn := Nat.le_refl _
  tz := fun t h => by cases h
  m1 := rfl
  m2 := rfl
  m3 := rfl
  m4 := rfl
  m5 := rfl
  m6 := ⟨none, 0, rfl, RKeys.none _⟩
  mn := by decide
  d7 := ⟨none, 0, rfl, IntIn.none _⟩
  dn := Nat.le_refl _
  df := fun t h => by cases h
  cf := fun i h8 h14 => by
    have : i = 8 ∨ i = 9 ∨ i = 10 ∨ i = 11 ∨ i = 12 ∨ i = 13 := by omega
    rcases this with rfl | rfl | rfl | rfl | rfl | rfl <;> exact ⟨0, rfl, by unfold fits; omega⟩
  o15 := ⟨none, 0, rfl⟩
  orow := World.ownsRow_nil _ _ _ _
  on := by decide
  oz := fun t h => by cases h
  l16 := ⟨none, 0, rfl⟩
  l17 := ⟨none, 0, rfl⟩
  lx := World.ownsRow_nil _ _ _ _
  ly := World.ownsRow_nil _ _ _ _
  ln := by decide
  lne := fun g h => by simp [f0, world0, Value.ownBlock] at h
  lh := fun i v u h => by simp [d0] at h
  l18 := ⟨none, 0, rfl⟩
  l19 := ⟨none, 0, rfl⟩
  lo := World.ownsRow_nil _ _ _ _
  lk := World.ownsRow_nil _ _ _ _
  lon := by decide
  lone := fun g h => by simp [f0, world0, Value.ownBlock] at h
  lp := fun i v u h => by simp [d0] at h
  m20 := rfl
  mb := by decide

theorem codes_step (B0 b n : Nat) (w : World) (f : Nat → Value) (d : Sd) (h : SAt B0 b n w f d) (hg : ErrType w) (o : Sop) (ho : o.Ok) (hk : kind0 o.kind = true ∨ o.kind ∈ [(5 : Int), 6]) (hn : n ≤ 100000) (h14 : f 14 = .slice none 0 0) :
    Calls Tryz.prog 10 #[.pointer (some ⟨b, 0, none⟩), o.v] w (StepPost B0 b n w f) := by
  by_cases hown : ownKind o.kind
  · exact step_own B0 b n w f d h o ho hown hn
  by_cases h5 : o.kind = 5
  · exact step_encode B0 b n w f d h hg o ho h5 hn
  by_cases h6 : o.kind = 6
  · exact step_decode B0 b n w f d h hg o ho h6 hn
  have hlt : o.kind < 5 := by
    rcases hk with hk | hk
    · simp only [kind0, Bool.or_eq_true, decide_eq_true_eq, beq_iff_eq] at hk
      rcases hk with ((hk | hk) | hk) | hk
      · exact hk
      · exact absurd (.inr (.inr (.inr (.inr (.inl hk))))) hown
      · exact absurd (.inr (.inr (.inr (.inr (.inr (.inl hk)))))) hown
      · exact absurd (.inr (.inr (.inr (.inr (.inr (.inr hk)))))) hown
    · simp only [List.mem_cons, List.not_mem_nil, or_false] at hk
      omega
  exact step_skip B0 b n w f d h o hown h5 h6 (by omega) (by omega) (by omega) none 0 0 h14

theorem codes_upTo (l : List Sop) (a : Option Addr) (n cap : Nat) (w : World) (hn : l.length = n) (hl : n ≤ 16384) (ha : OpsAt w a l) (hg : ErrType w) (ho : ∀ o ∈ l, o.Ok ∧ (kind0 o.kind = true ∨ o.kind ∈ [(5 : Int), 6])) :
    Calls Tryz.prog 9 #[.slice a n cap] w fun e w' => e = .returned (.int .i64 (-1)) ∧ Below w.heap.size w w' := by
  refine upTo_any l a n cap w hn (by omega) ha (fun k wr => Below w.heap.size w wr ∧ (k ≤ n → ∃ f d, SAt w.heap.size w.heap.size (3 * k) wr f d ∧ f 14 = .slice none 0 0)) ?_ (fun k wr h => h.1) ?_
  · exact ⟨(Below.refl _ _).alloc (Nat.le_refl _) _, fun _ => ⟨f0, d0, sat0 w, rfl⟩⟩
  · intro k wr o ⟨hb, hs⟩ hk
    have hkn : k < n := by
      rcases Nat.lt_or_ge k l.length with h' | h'
      · omega
      · rw [List.getElem?_eq_none h'] at hk; cases hk
    obtain ⟨f, d, hS, h14⟩ := hs (by omega)
    have hm := List.mem_of_getElem? hk
    refine (codes_step _ _ (3 * k) wr f d hS (hg.below hb) o (ho o hm).1 (ho o hm).2 (by omega) h14).mono ?_
    rintro e w' ⟨rfl, f', d', hS', hf, hC⟩
    exact ⟨rfl, hb.trans (hC.belowB hb.size), fun _ => ⟨f', d', hS'.mono (by omega), hf.trans h14⟩⟩

set_option maxRecDepth 100000 in
theorem codes_any (l : List Sop) (a : Option Addr) (n cap : Nat) (w : World) (hn : l.length = n) (hl : n ≤ 140737488355328) (ha : OpsAt w a l) (hs : ∀ o ∈ l, o.s.size ≤ 140737488355328) (hg : ErrType w) (ho : ∀ o ∈ l, o.s.size ≤ 16384 → o.Ok) :
    Calls Tryz.prog 3 #[.slice a n cap] w fun e w' => e = .returned (.bool true) ∧ Below w.heap.size w w' := by
  obtain ⟨w1, hw1⟩ : ∃ w1, w.alloc (.cells #[.int .i64 5, .int .i64 6] 3) = w1 := ⟨_, rfl⟩
  have hb1 : Below w.heap.size w w1 := by rw [← hw1]; exact (Below.refl _ _).alloc (Nat.le_refl _) _
  have hcs : CellsAt w1 (some ⟨w.heap.size, 0, none⟩) ([(5 : Int), 6].map (Value.int .i64)) := by
    rw [← hw1]
    intro j v hj
    exact ⟨_, 0, rfl, by simp, by rw [cells_at (heap_alloc_eq w _), Nat.zero_add]; simpa using hj⟩
  have HP := Lib.hid (plays_any l [5, 6] a (some ⟨w.heap.size, 0, none⟩) n cap 2 2 w1 hn hl (ha.below hb1) hs rfl (by omega) hcs (fun l' a' n' cap' w' hm hn' hl' ha' hb' =>
    codes_upTo l' a' n' cap' w' hn' hl' ha' ((hg.below hb1).below hb') (fun o hol => ⟨ho o (hm o hol).1 (hm o hol).2.2, (hm o hol).2.1⟩)))
  have HB1 := Lib.hid hb1
  have HW1 := Lib.hid hw1
  clear hw1 hb1 hcs ha hs ho hg hn
  go_enter Tryz.func3, Tryz.ntmps3
  go_wp2_with fail
  rw [HW1.out]
  refine HP.out.mono ?_
  rintro e w2 ⟨rfl, hb2⟩
  have HB2 := Lib.hid (HB1.out.trans (hb2.mono HB1.out.size))
  clear hb2
  go_wp2
  go_ret
  exact ⟨rfl, HB2.out⟩
end Go.Proofs.YtfngdplkcppabaaGreatDoor
