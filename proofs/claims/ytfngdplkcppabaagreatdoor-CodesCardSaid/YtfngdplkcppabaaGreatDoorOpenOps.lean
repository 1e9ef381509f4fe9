/-
  The script, opened as an argument: a slice of steps (seven integers and a text each). (After XOpenMsg, which turns the guide's plain theorems on structs, extra-structs.md.)
-/
import Derived.Test.YtfngdplkcppabaaGreatDoorCodes
import Derived.Deep.Slices
import Derived.Deep.Fields
import Derived.ChangeSame
import Derived.Lib.SmallJoins
import Derived.ProofKit
import Derived.SizedLaws
namespace Go.Proofs.YtfngdplkcppabaaGreatDoor
open Go.Joins Go.ChangeShapes Go.WideShapes Go.RowKit Go.Deep

theorem fits_of_wf {x : Int} (h : (Lit.int .i64 x).wf = true) : fits x := by
  simpa [fits, Lit.wf, IntKind.min, IntKind.max, IntKind.signed, IntKind.bits] using h
theorem weightsAll_mem {H : Type} {P : Program} {e : TypeId} {d : DataW H} {n : Nat} : ∀ {l : List (DataW H)}, d ∈ l → n ∈ d.weights P e → n ∈ DataW.weightsAll P e l
  | [], h, _ => by cases h
  | a :: r, h, hn => by
    simp only [DataW.weightsAll, List.mem_append]
    rcases List.mem_cons.1 h with rfl | h
    · exact .inl hn
    · exact .inr (weightsAll_mem h hn)

section
variable {H : Type} {enc : TypeId × Value → H} {w : World} {base : Nat} {spare : Nat → Bool} {held : Bool}

theorem op_int {fuel : Nat} {v : Value} {y : DataW H × List MemPlace} (h : DataW.trod enc Tryz.prog w base spare held fuel 3 [v] = some y) : ∃ x : Int, v = .int .i64 x ∧ fits x := by
  obtain ⟨x, e0, e1, wx⟩ := DataW.trod_int Tryz.underlying3 h
  simp at e0
  exact ⟨x, e0, fits_of_wf wx⟩

/-- The cells of a slice's elements, structs of one-cell fields, with what they read as (after the guide's extra-structs.md, 1). -/
theorem elems_of' {P : Program} {e : TypeId} {fs : Array Field} {a : Addr} {i n : Nat} {d : DataW H} {pl : List MemPlace} (he : P.underlying e = some (.struct fs)) (hone : oneCellFields P fs = true) (hC : P.cellsOf e = fs.size)
    (hi : ∃ cs', w.cells? base (a.add (i * P.cellsOf e)) (P.cellsOf e) = some cs' ∧ DataW.trod enc P w base spare held n e cs' = some (d, pl)) :
    ∃ n' parts, d = .agg parts ∧ ∀ (j : Nat) (f : Field), fs[j]? = some f → ∃ (v : Value) (y : DataW H × List MemPlace), w.cell? (a.add (i * fs.size + j)) = some v ∧ DataW.trod enc P w base spare held n' f.type [v] = some y ∧ parts[j]? = some y.1 := by
  obtain ⟨cs', hc, ht'⟩ := hi
  rw [hC] at hc
  obtain ⟨ys, n', hn', hy, hlen, hyl, hf⟩ := DataW.trod_struct he ht'
  obtain ⟨_, hcl, hat⟩ := World.cells?_some hc
  refine ⟨n', ys.map (·.1), (Prod.mk.inj hy).1, fun j f hj => ?_⟩
  obtain ⟨ho, hk⟩ := hone_of hone j f hj
  have hjl : j < fs.size := (Array.getElem?_eq_some_iff.1 hj).1
  have hcell := hat j hjl
  have hv : cs'[j]? = some (cs'[j]'(by omega)) := List.getElem?_eq_getElem (by omega)
  have h1 := hf j f hj
  rw [ho, hk] at h1
  have hone' : (cs'.drop j).take 1 = [cs'[j]'(by omega)] := by
    rw [List.drop_eq_getElem_cons (by omega)]
    rfl
  rw [hone'] at h1
  have hys : ys[j]? = some (ys[j]'(by omega)) := List.getElem?_eq_getElem (by omega)
  refine ⟨_, _, ?_, h1.trans hys, by rw [List.getElem?_map, hys]; rfl⟩
  rw [← Go.Deep.add_add, hcell, hv]

theorem op_cells : Tryz.prog.cellsOf 28 = 8 := by kernel_rfl
theorem op_bytes : Tryz.prog.bytesOf 28 = 72 := by kernel_rfl
theorem op_add {b off k : Nat} : (⟨b, off, none⟩ : Addr).add k = ⟨b, off + k, none⟩ := by unfold Addr.add; split <;> simp_all
theorem op_spot {a : Addr} {v : Value} (h : w.cell? a = some v) : a.spot = none ∧ a.block < w.heap.size := by
  refine ⟨?_, World.block_lt_of_cell? _ _ h⟩
  unfold World.cell? at h
  split at h
  · split at h
    · cases h
    · rename_i hs; simpa using hs
  · cases h

set_option maxHeartbeats 1000000 in
/-- A script. -/
theorem open_ops {fuel : Nat} {cs : List Value} {x : DataW H × List MemPlace} (h : DataW.trod enc Tryz.prog w base spare held fuel 22 cs = some x) (hw : ∀ n ∈ x.1.weights Tryz.prog 22, n ≤ reachBytes) :
    ∃ (a : Option Addr) (l : List Sop) (cap : Nat), cs = [.slice a l.length cap] ∧ l.length ≤ reachBytes ∧ OpsAt w a l ∧ (∀ o ∈ l, o.s.size ≤ reachBytes) ∧ ∀ o ∈ l, o.s.size ≤ 16384 → o.Ok := by
  rcases open_slice Tryz.underlying22 h with ⟨rfl, _⟩ | ⟨a, len, cap, m, n, D, Pl, hcs, hb, hl, hm, hmm, hx, hi⟩
  · exact ⟨none, [], 0, rfl, Nat.zero_le _, fun i o hk => (by simp at hk), fun k hk => (by simp at hk), fun k hk => (by simp at hk)⟩
  · have hlm : len ≤ m := by rw [hmm]; split <;> omega
    have hx1 : x.1 = .slice ((List.range len).map D) ((List.range (m - len)).map fun j => D (len + j)) := by rw [hx]
    rw [hx1] at hw
    have hwl : len ≤ reachBytes := by
      have := hw ((((List.range len).map D).length + ((List.range (m - len)).map fun j => D (len + j)).length) * Tryz.prog.bytesOf 28) (by simp [DataW.weights, Tryz.underlying22])
      rw [op_bytes] at this
      simp only [List.length_map, List.length_range] at this
      omega
    have elem : ∀ i, i < len → ∃ o : Sop, (o.s.size ≤ reachBytes ∧ (o.s.size ≤ 16384 → o.Ok)) ∧ ∀ (j : Nat) v, o.cells[j]? = some v → w.cell? (a.add (i * 8 + j)) = some v := by
      intro i hil
      obtain ⟨n', parts, hd, hf⟩ := elems_of' Tryz.underlying28 (by kernel_rfl) (by kernel_rfl) (hi i (by omega))
      obtain ⟨v0, y0, c0, t0, _⟩ := hf 0 _ rfl
      obtain ⟨v1, y1, c1, t1, _⟩ := hf 1 _ rfl
      obtain ⟨v2, y2, c2, t2, _⟩ := hf 2 _ rfl
      obtain ⟨v3, y3, c3, t3, _⟩ := hf 3 _ rfl
      obtain ⟨v4, y4, c4, t4, _⟩ := hf 4 _ rfl
      obtain ⟨v5, y5, c5, t5, _⟩ := hf 5 _ rfl
      obtain ⟨v6, y6, c6, t6, _⟩ := hf 6 _ rfl
      obtain ⟨v7, y7, c7, t7, hp7⟩ := hf 7 _ rfl
      obtain ⟨x0, rfl, g0⟩ := op_int t0
      obtain ⟨x1, rfl, g1⟩ := op_int t1
      obtain ⟨x2, rfl, g2⟩ := op_int t2
      obtain ⟨x3, rfl, g3⟩ := op_int t3
      obtain ⟨x4, rfl, g4⟩ := op_int t4
      obtain ⟨x5, rfl, g5⟩ := op_int t5
      obtain ⟨x6, rfl, g6⟩ := op_int t6
      obtain ⟨s, e7, ey7, hs⟩ := DataW.trod_string Tryz.underlying9 t7
      simp only [List.cons.injEq, and_true] at e7
      subst e7
      have hsz : s.size ≤ reachBytes := by
        have hmem : s.data.toList.length ∈ (D i).weights Tryz.prog 28 := by
          rw [hd]
          simp only [DataW.weights, Tryz.underlying28]
          exact DataW.weights_mem_each (j := 7) (t := 9) rfl hp7 _ (by rw [ey7]; simp [DataW.weights])
        have := hw _ (by
          simp only [DataW.weights, Tryz.underlying22, List.mem_cons, List.mem_append]
          exact .inr (.inl (weightsAll_mem (List.mem_map.2 ⟨i, List.mem_range.2 hil, rfl⟩) hmem)))
        simpa using this
      refine ⟨⟨x0, x1, x2, x3, x4, x5, x6, s⟩, ⟨hsz, fun h => ⟨g0, g1, g2, g3, g4, g5, g6, h⟩⟩, fun j v hv => ?_⟩
      simp only [Sop.cells] at hv
      rcases j with _ | _ | _ | _ | _ | _ | _ | _ | j
      · simp at hv; subst hv; exact c0
      · simp at hv; subst hv; exact c1
      · simp at hv; subst hv; exact c2
      · simp at hv; subst hv; exact c3
      · simp at hv; subst hv; exact c4
      · simp at hv; subst hv; exact c5
      · simp at hv; subst hv; exact c6
      · simp at hv; subst hv; exact c7
      · simp at hv
    have list : ∀ j, j ≤ len → ∃ l : List Sop, l.length = j ∧ (∀ o ∈ l, o.s.size ≤ reachBytes ∧ (o.s.size ≤ 16384 → o.Ok)) ∧ ∀ (i : Nat) o, l[i]? = some o → ∀ (j : Nat) v, o.cells[j]? = some v → w.cell? (a.add (i * 8 + j)) = some v := by
      intro j
      induction j with
      | zero => exact fun _ => ⟨[], rfl, fun k hk => (by simp at hk), fun i k hk => (by simp at hk)⟩
      | succ j ih =>
        intro hj
        obtain ⟨l, hl1, hl2, hl3⟩ := ih (by omega)
        obtain ⟨k, hk, hc⟩ := elem j (by omega)
        refine ⟨l ++ [k], by simp [hl1], fun k' hk' => ?_, fun i k' hk' => ?_⟩
        · rcases List.mem_append.1 hk' with h' | h'
          · exact hl2 k' h'
          · rw [List.mem_singleton.1 h']; exact hk
        · rcases Nat.lt_or_ge i l.length with h' | h'
          · rw [List.getElem?_append_left h'] at hk'
            exact hl3 i k' hk'
          · rw [List.getElem?_append_right h'] at hk'
            have hi0 : i - l.length = 0 := by
              rcases Nat.eq_zero_or_pos (i - l.length) with h0 | h0
              · exact h0
              · rw [List.getElem?_eq_none (by simp; omega)] at hk'; cases hk'
            rw [hi0] at hk'
            simp at hk'
            subst hk'
            have : i = j := by omega
            subst this
            exact hc
    obtain ⟨l, hl1, hl2, hl3⟩ := list len (Nat.le_refl _)
    subst hl1
    refine ⟨some a, l, cap, hcs, hwl, fun i k hk => ?_, fun o ho => (hl2 o ho).1, fun o ho => (hl2 o ho).2⟩
    have h0 : 0 < l.length := by
      rcases Nat.eq_zero_or_pos l.length with h0 | h0
      · rw [List.length_eq_zero_iff.1 h0] at hk; simp at hk
      · exact h0
    obtain ⟨hs, hlt⟩ := op_spot (hl3 0 l[0] (List.getElem?_eq_getElem h0) 0 _ rfl)
    obtain ⟨b, off, sp⟩ := a
    have e0 : (⟨b, off, sp⟩ : Addr).add (0 * 8 + 0) = ⟨b, off, sp⟩ := by unfold Addr.add; simp
    rw [e0] at hs hlt
    simp only at hs hlt
    subst hs
    refine ⟨b, off, rfl, hlt, fun j v hv => ?_⟩
    have := hl3 i k hk j v hv
    rw [op_add] at this
    rw [Nat.add_assoc]; exact this
end
end Go.Proofs.YtfngdplkcppabaaGreatDoor
