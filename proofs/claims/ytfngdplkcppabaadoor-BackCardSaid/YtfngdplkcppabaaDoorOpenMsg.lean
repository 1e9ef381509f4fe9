/-
  An argument that is a message by value (five integers and a slice of keys), opened. (open_keys and open_msg turn the guide's plain theorems on structs, extra-structs.md, to these types.)
-/
import Derived.Test.YtfngdplkcppabaaDoorKeepMsg
import Derived.Deep.Slices
import Derived.Deep.Fields
import Derived.ChangeSame
import Derived.Lib.SmallJoins
import Derived.ProofKit
namespace Go.Proofs.YtfngdplkcppabaaDoor
open Go.Joins Go.ChangeShapes Go.WideShapes Go.RowKit Go.Deep

theorem fit_of_wf {x : Int} (h : (Lit.int .i64 x).wf = true) : -9223372036854775808 ≤ x ∧ x ≤ 9223372036854775807 := by
  simpa [Lit.wf, IntKind.min, IntKind.max, IntKind.signed, IntKind.bits] using h

section
variable {H : Type} {enc : TypeId × Value → H} {w : World} {base : Nat} {spare : Nat → Bool} {held : Bool}

theorem at_int {fuel : Nat} {v : Value} {y : DataW H × List MemPlace} (h : DataW.trod enc Tryd.prog w base spare held fuel 3 [v] = some y) : ∃ x : Int, v = .int .i64 x ∧ -9223372036854775808 ≤ x ∧ x ≤ 9223372036854775807 := by
  obtain ⟨x, e0, e1, wx⟩ := DataW.trod_int Tryd.underlying3 h
  simp at e0
  exact ⟨x, e0, fit_of_wf wx⟩

/-- The cells of a slice's elements, structs of one-cell fields (turned from the guide's extra-structs.md, 1). -/
theorem elems_of {P : Program} {e : TypeId} {fs : Array Field} {a : Addr} {i n : Nat} {d : DataW H} {pl : List MemPlace} (he : P.underlying e = some (.struct fs)) (hone : oneCellFields P fs = true) (hC : P.cellsOf e = fs.size)
    (hi : ∃ cs', w.cells? base (a.add (i * P.cellsOf e)) (P.cellsOf e) = some cs' ∧ DataW.trod enc P w base spare held n e cs' = some (d, pl)) :
    ∃ n', ∀ (j : Nat) (f : Field), fs[j]? = some f → ∃ (v : Value) (y : DataW H × List MemPlace), w.cell? (a.add (i * fs.size + j)) = some v ∧ DataW.trod enc P w base spare held n' f.type [v] = some y := by
  obtain ⟨cs', hc, ht'⟩ := hi
  rw [hC] at hc
  obtain ⟨ys, n', hn', hy, hlen, hyl, hf⟩ := DataW.trod_struct he ht'
  obtain ⟨_, hcl, hat⟩ := World.cells?_some hc
  refine ⟨n', fun j f hj => ?_⟩
  obtain ⟨ho, hk⟩ := hone_of hone j f hj
  have hjl : j < fs.size := (Array.getElem?_eq_some_iff.1 hj).1
  have hcell := hat j hjl
  have hv : cs'[j]? = some (cs'[j]'(by omega)) := List.getElem?_eq_getElem (by omega)
  have h1 := hf j f hj
  rw [ho, hk] at h1
  have hone' : (cs'.drop j).take 1 = [cs'[j]'(by omega)] := by
    rw [List.drop_eq_getElem_cons (by omega)]
    rfl
  rw [hone'] at h1
  have hys : ys[j]? = some (ys[j]'(by omega)) := List.getElem?_eq_getElem (by omega)
  refine ⟨_, _, ?_, h1.trans hys⟩
  rw [← Go.Deep.add_add, hcell, hv]

theorem key_cells : Tryd.prog.cellsOf 40 = 3 := by kernel_rfl
theorem add_plain {b off k : Nat} : (⟨b, off, none⟩ : Addr).add k = ⟨b, off + k, none⟩ := by unfold Addr.add; split <;> simp_all
theorem spot_none {a : Addr} {v : Value} (h : w.cell? a = some v) : a.spot = none ∧ a.block < w.heap.size := by
  refine ⟨?_, World.block_lt_of_cell? _ _ h⟩
  unfold World.cell? at h
  split at h
  · split at h
    · cases h
    · rename_i hs; simpa using hs
  · cases h

/-- A slice of keys. -/
theorem open_keys {fuel : Nat} {cs : List Value} {x : DataW H × List MemPlace} (h : DataW.trod enc Tryd.prog w base spare held fuel 22 cs = some x) :
    ∃ (a : Option Addr) (l : List K) (cap : Nat), cs = [.slice a l.length cap] ∧ l.length ≤ maxLen ∧ KeysAt w a l ∧ ∀ k ∈ l, k.fit := by
  rcases open_slice Tryd.underlying22 h with ⟨rfl, _⟩ | ⟨a, len, cap, m, n, D, Pl, hcs, hb, hl, hm, hmm, hx, hi⟩
  · exact ⟨none, [], 0, rfl, by simp, fun i k hk => (by simp at hk), fun k hk => (by simp at hk)⟩
  · have hlm : len ≤ m := by rw [hmm]; split <;> omega
    have elem : ∀ i, i < len → ∃ k : K, k.fit ∧ w.cell? (a.add (i * 3)) = some (.int .i64 k.id) ∧ w.cell? (a.add (i * 3 + 1)) = some (.int .i64 k.inc) ∧ w.cell? (a.add (i * 3 + 2)) = some (.int .i64 k.st) := by
      intro i hil
      obtain ⟨n', hf⟩ := elems_of Tryd.underlying40 (by kernel_rfl) (by kernel_rfl) (hi i (by omega))
      obtain ⟨v0, y0, c0, t0⟩ := hf 0 _ rfl
      obtain ⟨v1, y1, c1, t1⟩ := hf 1 _ rfl
      obtain ⟨v2, y2, c2, t2⟩ := hf 2 _ rfl
      obtain ⟨x0, rfl, f0⟩ := at_int t0
      obtain ⟨x1, rfl, f1⟩ := at_int t1
      obtain ⟨x2, rfl, f2⟩ := at_int t2
      exact ⟨⟨x0, x1, x2⟩, ⟨f0, f1, f2⟩, c0, c1, c2⟩
    have list : ∀ j, j ≤ len → ∃ l : List K, l.length = j ∧ (∀ k ∈ l, k.fit) ∧ ∀ i k, l[i]? = some k → w.cell? (a.add (i * 3)) = some (.int .i64 k.id) ∧ w.cell? (a.add (i * 3 + 1)) = some (.int .i64 k.inc) ∧ w.cell? (a.add (i * 3 + 2)) = some (.int .i64 k.st) := by
      intro j
      induction j with
      | zero => exact fun _ => ⟨[], rfl, fun k hk => (by simp at hk), fun i k hk => (by simp at hk)⟩
      | succ j ih =>
        intro hj
        obtain ⟨l, hl1, hl2, hl3⟩ := ih (by omega)
        obtain ⟨k, hk, hc⟩ := elem j (by omega)
        refine ⟨l ++ [k], by simp [hl1], fun k' hk' => ?_, fun i k' hk' => ?_⟩
        · rcases List.mem_append.1 hk' with h' | h'
          · exact hl2 k' h'
          · rw [List.mem_singleton.1 h']; exact hk
        · rcases Nat.lt_or_ge i l.length with h' | h'
          · rw [List.getElem?_append_left h'] at hk'
            exact hl3 i k' hk'
          · rw [List.getElem?_append_right h'] at hk'
            have hi0 : i - l.length = 0 := by
              rcases Nat.eq_zero_or_pos (i - l.length) with h0 | h0
              · exact h0
              · rw [List.getElem?_eq_none (by simp; omega)] at hk'; cases hk'
            rw [hi0] at hk'
            simp at hk'
            subst hk'
            have : i = j := by omega
            subst this
            exact hc
    obtain ⟨l, hl1, hl2, hl3⟩ := list len (Nat.le_refl _)
    subst hl1
    refine ⟨some a, l, cap, hcs, by omega, fun i k hk => ?_, hl2⟩
    have h0 : 0 < l.length := by
      rcases Nat.eq_zero_or_pos l.length with h0 | h0
      · rw [List.length_eq_zero_iff.1 h0] at hk; simp at hk
      · exact h0
    obtain ⟨hs, hlt⟩ := spot_none (hl3 0 l[0] (List.getElem?_eq_getElem h0)).1
    obtain ⟨b, off, sp⟩ := a
    have e0 : (⟨b, off, sp⟩ : Addr).add (0 * 3) = ⟨b, off, sp⟩ := by unfold Addr.add; simp
    rw [e0] at hs hlt
    simp only at hs hlt
    subst hs
    obtain ⟨k0, k1, k2⟩ := hl3 i k hk
    rw [add_plain] at k0 k1 k2
    exact ⟨b, off, rfl, hlt, k0, k1, k2⟩

/-- A struct of six one-cell fields, by value (turned from the guide's extra-structs.md, 2). -/
theorem fields6 {P : Program} {r : Reach} {b0 : Nat} {t : TypeId} {f0 f1 f2 f3 f4 f5 : Field} {v : Value} {d : DataW H} {p : List MemPlace} (hs : P.underlying t = some (.struct #[f0, f1, f2, f3, f4, f5])) (hone : oneCellFields P #[f0, f1, f2, f3, f4, f5] = true) (hC : P.cellsOf t = 6)
    (hv : Value.okWide P w r b0 t v) (h : DataW.Trod enc P w base spare held t v d p) :
    ∃ (v0 v1 v2 v3 v4 v5 : Value) (y0 y1 y2 y3 y4 y5 : DataW H × List MemPlace) (n : Nat), v = .agg #[v0, v1, v2, v3, v4, v5] ∧
      DataW.trod enc P w base spare held n f0.type [v0] = some y0 ∧ DataW.trod enc P w base spare held n f1.type [v1] = some y1 ∧ DataW.trod enc P w base spare held n f2.type [v2] = some y2 ∧
      DataW.trod enc P w base spare held n f3.type [v3] = some y3 ∧ DataW.trod enc P w base spare held n f4.type [v4] = some y4 ∧ DataW.trod enc P w base spare held n f5.type [v5] = some y5 := by
  obtain ⟨cs, rfl, hsz⟩ := okWide_struct hs hv
  obtain ⟨l⟩ := cs
  match l, hsz.trans hC with
  | [c0, c1, c2, c3, c4, c5], _ =>
    obtain ⟨fuel, hf⟩ := h
    obtain ⟨xs, n, _, hx, _, hlen, hg⟩ := DataW.trod_struct hs hf
    match xs, hlen with
    | [y0, y1, y2, y3, y4, y5], _ =>
      obtain ⟨o0, k0⟩ := hone_of hone 0 f0 rfl
      obtain ⟨o1, k1⟩ := hone_of hone 1 f1 rfl
      obtain ⟨o2, k2⟩ := hone_of hone 2 f2 rfl
      obtain ⟨o3, k3⟩ := hone_of hone 3 f3 rfl
      obtain ⟨o4, k4⟩ := hone_of hone 4 f4 rfl
      obtain ⟨o5, k5⟩ := hone_of hone 5 f5 rfl
      exact ⟨c0, c1, c2, c3, c4, c5, y0, y1, y2, y3, y4, y5, n, rfl, by simpa [Value.cells, o0, k0] using hg 0 f0 rfl, by simpa [Value.cells, o1, k1] using hg 1 f1 rfl, by simpa [Value.cells, o2, k2] using hg 2 f2 rfl,
        by simpa [Value.cells, o3, k3] using hg 3 f3 rfl, by simpa [Value.cells, o4, k4] using hg 4 f4 rfl, by simpa [Value.cells, o5, k5] using hg 5 f5 rfl⟩

/-- A message by value. -/
theorem open_msg {r : Reach} {b0 : Nat} {v : Value} {d : DataW H} {p : List MemPlace} (hv : Value.okWide Tryd.prog w r b0 24 v) (h : DataW.Trod enc Tryd.prog w base spare held 24 v d p) :
    ∃ (m : M) (a : Option Addr) (cap : Nat), v = .agg #[.int .i64 m.kind, .int .i64 m.frm, .int .i64 m.inc, .int .i64 m.seq, .int .i64 m.tgt, .slice a m.ups.length cap] ∧ m.ups.length ≤ maxLen ∧ KeysAt w a m.ups ∧ m.fit := by
  obtain ⟨c0, c1, c2, c3, c4, c5, y0, y1, y2, y3, y4, y5, n, rfl, g0, g1, g2, g3, g4, g5⟩ := fields6 Tryd.underlying24 (by kernel_rfl) (by kernel_rfl) hv h
  obtain ⟨x0, rfl, f0⟩ := at_int g0
  obtain ⟨x1, rfl, f1⟩ := at_int g1
  obtain ⟨x2, rfl, f2⟩ := at_int g2
  obtain ⟨x3, rfl, f3⟩ := at_int g3
  obtain ⟨x4, rfl, f4⟩ := at_int g4
  obtain ⟨a, l, cap, e5, hl, hk, hfit⟩ := open_keys g5
  simp only [List.cons.injEq, and_true] at e5
  subst e5
  exact ⟨⟨x0, x1, x2, x3, x4, l⟩, a, cap, rfl, hl, hk, f0, f1, f2, f3, f4, hfit⟩
end
end Go.Proofs.YtfngdplkcppabaaDoor
