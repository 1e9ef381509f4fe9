/-
  gossipkeep.greater; ids of a row of keys, written over.
-/
import Derived.Test.YtfngdplkcppabaaGreatPart27
set_option linter.all false
namespace Go.Proofs.YtfngdplkcppabaaGreat
open Go.RowKit

theorem kgreater_any (p q : K) (w : World) :
    Calls Tryz.prog 17 #[.agg #[.int .i64 p.id, .int .i64 p.inc, .int .i64 p.st], .agg #[.int .i64 q.id, .int .i64 q.inc, .int .i64 q.st]] w fun e w' => e = .returned (.bool (lessK q p)) ∧ Below w.heap.size w w' := by
  have hb : ∀ o o', Below w.heap.size w ((w.alloc o).alloc o') := fun o o' => ((Below.refl _ _).alloc (Nat.le_refl _) _).alloc (by simp) _
  have HB := Lib.hid hb
  clear hb
  unfold lessK
  by_cases h1 : q.inc < p.inc
  · have hd : decide (q.inc < p.inc ∨ q.inc = p.inc ∧ q.st < p.st) = true := decide_eq_true (.inl h1)
    rw [hd]
    clear hd
    go_enter Tryz.func17, Tryz.ntmps17
    go_wp2
    go_ret
    exact ⟨rfl, HB.out _ _⟩
  · by_cases h2 : p.inc = q.inc
    · have h2b : (p.inc == q.inc) = true := by simpa using h2
      by_cases h3 : q.st < p.st
      · have hd : decide (q.inc < p.inc ∨ q.inc = p.inc ∧ q.st < p.st) = true := decide_eq_true (.inr ⟨h2.symm, h3⟩)
        rw [hd]
        clear hd h2
        go_enter Tryz.func17, Tryz.ntmps17
        go_wp2
        go_ret
        exact ⟨rfl, HB.out _ _⟩
      · have hd : decide (q.inc < p.inc ∨ q.inc = p.inc ∧ q.st < p.st) = false := decide_eq_false (by omega)
        rw [hd]
        clear hd h2
        go_enter Tryz.func17, Tryz.ntmps17
        go_wp2
        go_ret
        exact ⟨rfl, HB.out _ _⟩
    · have h2b : (p.inc == q.inc) = false := by simpa using h2
      have hd : decide (q.inc < p.inc ∨ q.inc = p.inc ∧ q.st < p.st) = false := decide_eq_false (by omega)
      rw [hd]
      clear hd h2
      go_enter Tryz.func17, Tryz.ntmps17
      go_wp2
      go_ret
      exact ⟨rfl, HB.out _ _⟩

/-- The updates' ids, turned one by one. -/
def riseTo (l : List K) (k : Nat) : List K := (l.take k).map riseKey ++ l.drop k
theorem riseTo_len (l : List K) (k : Nat) : (riseTo l k).length = l.length := by unfold riseTo; simp; omega
theorem riseTo_at {l : List K} {k : Nat} {u : K} (h : l[k]? = some u) : (riseTo l k)[k]? = some u ∧ riseTo l (k + 1) = (riseTo l k).set k (riseKey u) := by
  have hk := (List.getElem?_eq_some_iff.1 h).1
  have hl : ((l.take k).map riseKey).length = k := by rw [List.length_map, List.length_take]; omega
  have hd : l.drop k = u :: l.drop (k + 1) := by
    obtain ⟨_, e⟩ := List.getElem?_eq_some_iff.1 h
    rw [← e]; exact List.drop_eq_getElem_cons hk
  unfold riseTo
  refine ⟨?_, ?_⟩
  · rw [List.getElem?_append_right (by omega), hl, Nat.sub_self, hd]; rfl
  · rw [List.set_append_right _ _ (by omega), hl, Nat.sub_self, hd, List.set_cons_zero, List.take_add_one, h, List.map_append, List.append_assoc]; rfl
theorem riseTo_end (l : List K) : riseTo l l.length = l.map riseKey := by unfold riseTo; simp
theorem rflat_at {l : List K} : ∀ (i : Nat) (k : K) (j : Nat) (v : Value), l[i]? = some k → ([.int .i64 k.id, .int .i64 k.inc, .int .i64 k.st] : List Value)[j]? = some v → (keyCells l)[i * 3 + j]? = some v := by
  induction l with
  | nil => intro i k j v h; simp at h
  | cons a l ih =>
    intro i k j v h hv
    show (_ ++ keyCells l)[_]? = _
    have hj := (List.getElem?_eq_some_iff.1 hv).1
    simp only [List.length_cons, List.length_nil] at hj
    cases i with
    | zero =>
      simp at h
      subst h
      rw [Nat.zero_mul, Nat.zero_add, List.getElem?_append_left (by simp; omega)]
      exact hv
    | succ i =>
      rw [List.getElem?_append_right (by simp; omega)]
      rw [show (i + 1) * 3 + j - ([.int .i64 a.id, .int .i64 a.inc, .int .i64 a.st] : List Value).length = i * 3 + j by simp; omega]
      exact ih i k j v (by simpa using h) hv
/-- An id of a row of keys, written over. -/
theorem own_setId {w : World} {B g n c : Nat} {l : List K} (h : w.ownsRow B 31 3 (.slice (some ⟨g, 0, none⟩) n c) n (keyCells l)) (hl : l.length = n) {i : Nat} {u : K} (hu : l[i]? = some u) (d : Int) :
    (w.setCell ⟨g, i * 3, none⟩ (.int .i64 d)).ownsRow B 31 3 (.slice (some ⟨g, 0, none⟩) n c) n (keyCells (l.set i { u with id := d })) := by
  rcases h.2 with ⟨e1, _⟩ | ⟨g', cap, cur0, e1, hB, hg', hnc, hcm, hcs, ht⟩
  · simp at e1
  simp only [Value.slice.injEq, Option.some.injEq, Addr.mk.injEq] at e1
  obtain ⟨⟨rfl, _⟩, _, rfl⟩ := e1
  have hin := (List.getElem?_eq_some_iff.1 hu).1
  refine ⟨by rw [keyCells_length, List.length_set, hl]; omega, .inr ⟨g, c, _, rfl, hB, heap_setCell_eq hg', hnc, hcm, by simpa using hcs, ?_⟩⟩
  have hlen : (keyCells l).length = n * 3 := by rw [keyCells_length, hl]; omega
  refine List.ext_getElem? (fun t => ?_)
  rw [List.getElem?_take]
  split
  · rename_i htn
    have htd : t / 3 < n := by omega
    obtain ⟨q, hq⟩ : ∃ q, t / 3 = q := ⟨_, rfl⟩
    obtain ⟨j, hj⟩ : ∃ j, t % 3 = j := ⟨_, rfl⟩
    have hts : t = q * 3 + j := by omega
    have hj3 : j < 3 := by omega
    rw [hq] at htd
    subst hts
    rw [Array.getElem?_toList]
    obtain ⟨b, hb⟩ : ∃ b, (l.set i { u with id := d })[q]? = some b := ⟨_, List.getElem?_eq_getElem (by rw [List.length_set, hl]; exact htd)⟩
    obtain ⟨v, hv⟩ : ∃ v, ([.int .i64 b.id, .int .i64 b.inc, .int .i64 b.st] : List Value)[j]? = some v := ⟨_, List.getElem?_eq_getElem (by simp; omega)⟩
    rw [rflat_at q b j v hb hv]
    by_cases hqi : i = q
    · subst hqi
      rw [List.getElem?_set_self (by omega)] at hb
      cases hb
      rcases j with _ | j
      · rw [Nat.add_zero, Array.getElem?_setIfInBounds_self_of_lt (by omega)]
        simpa using hv
      · rw [Array.getElem?_setIfInBounds_ne (by omega)]
        have hold := rflat_at (l := l) i u (j + 1) v hu (by simpa using hv)
        rw [← ht, List.getElem?_take, if_pos htn, Array.getElem?_toList] at hold
        exact hold
    · rw [List.getElem?_set_ne hqi] at hb
      rw [Array.getElem?_setIfInBounds_ne (by omega)]
      have hold := rflat_at (l := l) q b j v hb hv
      rw [← ht, List.getElem?_take, if_pos htn, Array.getElem?_toList] at hold
      exact hold
  · rename_i htn
    rw [List.getElem?_eq_none]
    rw [keyCells_length, List.length_set, hl]
    omega
theorem own_id {w : World} {B g n c : Nat} {l : List K} (h : w.ownsRow B 31 3 (.slice (some ⟨g, 0, none⟩) n c) n (keyCells l)) {i : Nat} {u : K} (hu : l[i]? = some u) : w.cell? ⟨g, i * 3, none⟩ = some (.int .i64 u.id) ∧ ∀ k, w.frozen? ⟨g, k, none⟩ = false := by
  obtain ⟨b, off, e, _, c0, _, _⟩ := (keysAt_row h).2 i u hu
  cases e
  rw [Nat.zero_add] at c0
  rcases h.2 with ⟨e1, _⟩ | ⟨g', cap, cur0, e1, hB, hg', _⟩
  · simp at e1
  simp only [Value.slice.injEq, Option.some.injEq, Addr.mk.injEq] at e1
  obtain ⟨⟨rfl, _⟩, _, rfl⟩ := e1
  exact ⟨c0, fun k => unfrozen hg' k⟩
end Go.Proofs.YtfngdplkcppabaaGreat
