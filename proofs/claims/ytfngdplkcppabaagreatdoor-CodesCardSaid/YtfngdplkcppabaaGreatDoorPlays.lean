/-
  gossiplaw: small, plays.
-/
import Derived.Test.YtfngdplkcppabaaGreatDoorUpTo
namespace Go.Proofs.YtfngdplkcppabaaGreatDoor
open Go.RowKit

set_option maxRecDepth 100000 in
set_option maxHeartbeats 1000000 in
theorem small_any (l : List Sop) (a : Option Addr) (n cap : Nat) (w : World) (hn : l.length = n) (hl : n ≤ 140737488355328) (ha : OpsAt w a l) (hs : ∀ o ∈ l, o.s.size ≤ 140737488355328) :
    Calls Tryz.prog 8 #[.slice a n cap] w fun e w' => ∃ r : Bool, e = .returned (.bool r) ∧ (r = true → n ≤ 16384 ∧ ∀ o ∈ l, o.s.size ≤ 16384) ∧ Below w.heap.size w w' := by
  have HA := Lib.hid ha
  have HN := Lib.hid hn
  have HS := Lib.hid hs
  clear ha hn hs
  by_cases h0 : 16384 < n
  · go_enter Tryz.func8, Tryz.ntmps8
    go_wp2
    go_ret
    exact ⟨false, rfl, fun h => (by cases h), Below.refl _ _⟩
  · go_enter Tryz.func8, Tryz.ntmps8
    go_wp2
    go_loopw [3, 4] (fun s i wr => ∃ k t : Nat, k ≤ n ∧ i = .int .i64 k ∧ s = .int .i64 t ∧ n ≤ t ∧ t ≤ 16384 ∧ (∀ (j : Nat) o, l[j]? = some o → j < k → o.s.size ≤ 16384) ∧ Below w.heap.size w wr) (fun _ i _ => n - (intOf i).toNat)
    case atStart => exact ⟨0, n, Nat.zero_le _, rfl, rfl, Nat.le_refl _, by omega, fun j o _ h => absurd h (Nat.not_lt_zero _), Below.refl _ _⟩
    case round =>
      obtain ⟨k, t, hkn, rfl, rfl, hnt, ht, hsz, hb⟩ := hrel
      have HZ := Lib.hid hsz
      clear hsz
      by_cases hlt : k < n
      · have hlt' : k < l.length := by have := HN.out; omega
        obtain ⟨bb, off, rfl, hbb, hcc⟩ := HA.out k l[k] (List.getElem?_eq_getElem hlt')
        have c7 := (hb.cell hbb).trans (hcc 7 _ rfl)
        have hs47 := HS.out l[k] (List.getElem_mem _)
        obtain ⟨o, ho⟩ : ∃ o, l[k] = o := ⟨_, rfl⟩
        rw [ho] at c7 hs47
        obtain ⟨m, hm⟩ : ∃ m, o.s.size = m := ⟨_, rfl⟩
        rw [hm] at hs47
        have HO := Lib.hid ho
        have HM := Lib.hid hm
        have HB := Lib.hid hb
        clear hb hcc ho
        have w1 : IntKind.i64.wrap ((t : Int) + (m : Int)) = ((t + m : Nat) : Int) := by rw [IntWalk.i64_in _ (by omega)]; omega
        by_cases hbig : 16384 < t + m
        · go_wp2
          go_ret
          exact ⟨false, rfl, fun h => (by cases h), HB.out⟩
        · go_wp2_with fail
          refine ⟨⟨k + 1, t + m, by omega, by go_num, by simp, by omega, by omega, fun j o' hj hjk => ?_, HB.out⟩, by simp [intOf]; omega⟩
          by_cases e : j = k
          · subst e
            rw [List.getElem?_eq_getElem hlt', HO.out] at hj
            cases hj
            have := HM.out
            omega
          · exact HZ.out j o' hj (by omega)
      · have hk' : k = n := by omega
        subst hk'
        go_wp2
        go_ret
        refine ⟨true, rfl, fun _ => ⟨by omega, fun o ho => ?_⟩, hb⟩
        obtain ⟨j, hj, e⟩ := List.getElem_of_mem ho
        exact HZ.out j o (by rw [List.getElem?_eq_getElem hj, e]) (by have := HN.out; omega)

theorem info_op : (Tryz.prog.info? 28).map (fun i => (i.zero, i.size, i.bytes)) = some (some (.agg #[.int .i64 0, .int .i64 0, .int .i64 0, .int .i64 0, .int .i64 0, .int .i64 0, .int .i64 0, .string ⟨#[]⟩]), 8, 72) := by kernel_rfl
def opCells (l : List Sop) : List Value := l.flatMap Sop.cells
theorem opCells_length (l : List Sop) : (opCells l).length = l.length * 8 := by
  induction l with
  | nil => rfl
  | cons a l ih => simp [opCells, Sop.cells] at ih ⊢; omega
theorem opCells_at (l : List Sop) : ∀ (i : Nat) (o : Sop) (j : Nat) v, l[i]? = some o → o.cells[j]? = some v → (opCells l)[i * 8 + j]? = some v := by
  induction l with
  | nil => intro i o j v h; simp at h
  | cons a l ih =>
    intro i o j v h hv
    have e : opCells (a :: l) = a.cells ++ opCells l := rfl
    have hla : a.cells.length = 8 := rfl
    cases i with
    | zero =>
      simp at h
      subst h
      rw [e, Nat.zero_mul, Nat.zero_add, List.getElem?_append_left]
      · exact hv
      · rcases Nat.lt_or_ge j a.cells.length with h' | h'
        · exact h'
        · rw [List.getElem?_eq_none h'] at hv; cases hv
    | succ i =>
      rw [e, List.getElem?_append_right (by omega), hla, show (i + 1) * 8 + j - 8 = i * 8 + j by omega]
      exact ih i o j v (by simpa using h) hv
theorem opCells_one (l : List Sop) : ∀ v ∈ opCells l, v.oneCell' = true := by
  intro v hv
  simp only [opCells, Sop.cells, List.mem_flatMap, List.mem_cons, List.not_mem_nil, or_false] at hv
  obtain ⟨k, _, rfl | rfl | rfl | rfl | rfl | rfl | rfl | rfl⟩ := hv <;> rfl
theorem OpsAt.of_row {w : World} {B n cap : Nat} {a : Option Addr} {l : List Sop} (h : w.ownsRow B 28 8 (.slice a n cap) n (opCells l)) : OpsAt w a l := by
  intro i o ho
  obtain ⟨b, off, e, hb, _⟩ := CellsAt.row h _ _ (opCells_at l i o 0 _ ho rfl)
  refine ⟨b, off, e, hb, fun j v hv => ?_⟩
  obtain ⟨b', off', e', _, hc⟩ := CellsAt.row h _ _ (opCells_at l i o j v ho hv)
  rw [e] at e'; cases e'
  rw [← Nat.add_assoc] at hc; exact hc
theorem contains_take {ks : List Int} {jj : Nat} (h : jj < ks.length) (q : Int) : (ks.take (jj + 1)).contains q = ((ks.take jj).contains q || (q == ks[jj])) := by
  rw [List.take_succ_eq_append_getElem h]
  generalize ks.take jj = T
  generalize ks[jj] = x
  cases hq : (q == x)
  · have : q ≠ x := by simpa using hq
    simp [List.contains_eq_mem, this]
  · have : q = x := by simpa using hq
    simp [List.contains_eq_mem, this]
/-- The kinds that are always played. -/
def kind0 (k : Int) : Bool := decide (k < 5) || (k == 7) || (k == 8) || (k == 12)

set_option maxRecDepth 100000 in
set_option maxHeartbeats 4000000 in
theorem plays_any (l : List Sop) (ks : List Int) (a ka : Option Addr) (n cap kn kc : Nat) (w : World) (hn : l.length = n) (hl : n ≤ 140737488355328) (ha : OpsAt w a l) (hs : ∀ o ∈ l, o.s.size ≤ 140737488355328)
    (hkn : ks.length = kn) (hkl : kn ≤ 100) (hka : CellsAt w ka (ks.map (Value.int .i64)))
    (hup : ∀ (l' : List Sop) a' n' cap' w', (∀ o ∈ l', o ∈ l ∧ (kind0 o.kind = true ∨ o.kind ∈ ks) ∧ o.s.size ≤ 16384) → l'.length = n' → n' ≤ 16384 → OpsAt w' a' l' → Below w.heap.size w w' →
      Calls Tryz.prog 9 #[.slice a' n' cap'] w' fun e w'' => e = .returned (.int .i64 (-1)) ∧ Below w'.heap.size w' w'') :
    Calls Tryz.prog 7 #[.slice a n cap, .slice ka kn kc] w fun e w' => e = .returned (.bool true) ∧ Below w.heap.size w w' := by
  have HSM := Lib.hid (small_any l a n cap w hn hl ha hs)
  have HA := Lib.hid ha
  have HN := Lib.hid hn
  have HK := Lib.hid hka
  have HKN := Lib.hid hkn
  have HUP := Lib.hid hup
  clear ha hn hs hka hkn hup
  go_enter Tryz.func7, Tryz.ntmps7
  go_wp2_with fail
  refine HSM.out.mono ?_
  rintro e w1 ⟨r, rfl, hr, hb1⟩
  cases r with
  | false =>
    have HB1 := Lib.hid hb1
    clear hb1 hr
    go_wp2
    go_ret
    exact ⟨rfl, HB1.out⟩
  | true =>
    obtain ⟨hn16, hs16⟩ := hr rfl
    have HS16 := Lib.hid hs16
    have HB1 := Lib.hid hb1
    have hsz1 := hb1.size
    clear hb1 hr hs16
    obtain ⟨i0, hi, hz0, hz1, hz2⟩ := info_parts info_op
    go_wp2_with fail
    go_loopw [6, 7] (fun s i wr => ∃ (k m : Nat) (l' : List Sop) (a' : Option Addr) (c' : Nat), k ≤ n ∧ m ≤ k ∧ i = .int .i64 k ∧ s = .slice a' m c' ∧ wr.ownsRow w1.heap.size 28 8 (.slice a' m c') m (opCells l') ∧
      (∀ o ∈ l', o ∈ l ∧ (kind0 o.kind = true ∨ o.kind ∈ ks)) ∧ Below w1.heap.size w1 wr) (fun _ i _ => n - (intOf i).toNat)
    case atStart => exact ⟨0, 0, [], none, 0, Nat.zero_le _, Nat.le_refl _, rfl, rfl, World.ownsRow_nil _ _ _ _, ⟨(fun _ h => absurd h (by simp)), Below.refl _ _⟩⟩
    case round =>
      obtain ⟨k, m, l', a', c', hkn', hmk, rfl, rfl, hrow, hall, hb⟩ := hrel
      by_cases hlt : k < n
      · have hlt' : k < l.length := by have := HN.out; omega
        obtain ⟨bb, off, rfl, hbb, hcc⟩ := HA.out k l[k] (List.getElem?_eq_getElem hlt')
        have hbw : Below w.heap.size w wr := HB1.out.trans (hb.mono hsz1)
        have c0 := (hbw.cell hbb).trans (hcc 0 _ rfl)
        have c1 := (hbw.cell hbb).trans (hcc 1 _ rfl)
        have c2 := (hbw.cell hbb).trans (hcc 2 _ rfl)
        have c3 := (hbw.cell hbb).trans (hcc 3 _ rfl)
        have c4 := (hbw.cell hbb).trans (hcc 4 _ rfl)
        have c5 := (hbw.cell hbb).trans (hcc 5 _ rfl)
        have c6 := (hbw.cell hbb).trans (hcc 6 _ rfl)
        have c7 := (hbw.cell hbb).trans (hcc 7 _ rfl)
        rw [Nat.add_zero] at c0
        obtain ⟨o, ho⟩ : ∃ o, l[k] = o := ⟨_, rfl⟩
        rw [ho] at c0 c1 c2 c3 c4 c5 c6 c7
        have HO := Lib.hid ho
        have HROW := Lib.hid hrow
        have HALL := Lib.hid hall
        have HB := Lib.hid hb
        have HBW := Lib.hid hbw
        clear hcc ho hrow hall hb hbw
        obtain ⟨q, hq⟩ : ∃ q, o.kind = q := ⟨_, rfl⟩
        rw [hq] at c0
        have HQ := Lib.hid hq
        clear hq
        have hfive : (q < 5 ∧ kind0 q = true) ∨ (¬ q < 5 ∧ (q == 7) = true ∧ kind0 q = true) ∨ (¬ q < 5 ∧ (q == 7) = false ∧ (q == 8) = true ∧ kind0 q = true) ∨ (¬ q < 5 ∧ (q == 7) = false ∧ (q == 8) = false ∧ (q == 12) = true ∧ kind0 q = true) ∨ (¬ q < 5 ∧ (q == 7) = false ∧ (q == 8) = false ∧ (q == 12) = false ∧ kind0 q = false) := by
          unfold kind0
          by_cases h1 : q < 5 <;> cases (q == 7) <;> cases (q == 8) <;> cases (q == 12) <;> simp [h1]
        rcases hfive with ⟨h1, hp0⟩ | ⟨h1, h2, hp0⟩ | ⟨h1, h2, h3, hp0⟩ | ⟨h1, h2, h3, h4, hp0⟩ | ⟨h1, h2, h3, h4, hp0⟩
        all_goals
          have HP0 := Lib.hid hp0
          clear hp0
          go_wp2_with fail
          go_loopw [9, 10] (fun s j wr2 => ∃ (jj : Nat) (p : Bool), jj ≤ kn ∧ j = .int .i64 jj ∧ s = .bool p ∧ p = (kind0 q || (ks.take jj).contains q) ∧ Below wr.heap.size wr wr2) (fun _ j _ => kn - (intOf j).toNat)
          case atStart => exact ⟨0, _, Nat.zero_le _, rfl, rfl, by rw [HP0.out]; rfl, Below.refl _ _⟩
          case round =>
            obtain ⟨jj, p, hjk, rfl, rfl, hp, hb2⟩ := hrel
            have HP := Lib.hid hp
            have HB2 := Lib.hid hb2
            clear hp hb2
            by_cases hj : jj < kn
            · have hjk' : jj < ks.length := by have := HKN.out; omega
              obtain ⟨kb, koff, rfl, hkb, hkc⟩ := HK.out jj (.int .i64 ks[jj]) (by rw [List.getElem?_map, List.getElem?_eq_getElem hjk']; rfl)
              obtain ⟨qe, hqe⟩ : ∃ qe, ks[jj] = qe := ⟨_, rfl⟩
              rw [hqe] at hkc
              have kc0 := ((HB2.out.cell (p := ⟨kb, koff + jj, none⟩) (by have := HBW.out.size; simp; omega)).trans (HBW.out.cell (p := ⟨kb, koff + jj, none⟩) hkb)).trans hkc
              have htk : (ks.take (jj + 1)).contains q = ((ks.take jj).contains q || (q == qe)) := by
                rw [← hqe]; exact contains_take hjk' q
              have HTK := Lib.hid htk
              clear hkc hqe htk
              cases p with
              | true =>
                go_wp2_with fail
                exact ⟨⟨jj + 1, true, by omega, by go_num, rfl, by rw [HTK.out, ← Bool.or_assoc, ← HP.out]; rfl, HB2.out⟩, by simp [intOf]; omega⟩
              | false =>
                cases hqq : (q == qe) with
                | true =>
                  go_wp2_with fail
                  exact ⟨⟨jj + 1, true, by omega, by go_num, rfl, by rw [HTK.out, ← Bool.or_assoc, ← HP.out, hqq]; rfl, HB2.out⟩, by simp [intOf]; omega⟩
                | false =>
                  go_wp2_with fail
                  exact ⟨⟨jj + 1, false, by omega, by go_num, rfl, by rw [HTK.out, ← Bool.or_assoc, ← HP.out, hqq]; rfl, HB2.out⟩, by simp [intOf]; omega⟩
            · have hj' : jj = kn := by omega
              subst hj'
              have hall' : ks.take jj = ks := List.take_of_length_le (by have := HKN.out; omega)
              have HALLK := Lib.hid hall'
              clear hall'
              have hb3 : Below w1.heap.size w1 wr := HB.out.trans (HB2.out.mono HB.out.size)
              have hrow3 := own_under HROW.out HB2.out
              have HB3 := Lib.hid hb3
              have HROW3 := Lib.hid hrow3
              cases p with
              | false =>
                clear hb3 hrow3
                go_wp2_with fail
                exact ⟨⟨k + 1, m, l', a', c', by omega, by omega, by go_num, rfl, HROW3.out, HALL.out, HB3.out⟩, by simp [intOf]; omega⟩
              | true =>
                have hbw3 : Below w.heap.size w wr := HBW.out.trans (HB2.out.mono HBW.out.size)
                have e0 := (HB2.out.cell (p := ⟨bb, off + k * 8, none⟩) (by have := HBW.out.size; simp; omega)).trans c0
                have e1 := (HB2.out.cell (p := ⟨bb, off + k * 8 + 1, none⟩) (by have := HBW.out.size; simp; omega)).trans c1
                have e2 := (HB2.out.cell (p := ⟨bb, off + k * 8 + 2, none⟩) (by have := HBW.out.size; simp; omega)).trans c2
                have e3 := (HB2.out.cell (p := ⟨bb, off + k * 8 + 3, none⟩) (by have := HBW.out.size; simp; omega)).trans c3
                have e4 := (HB2.out.cell (p := ⟨bb, off + k * 8 + 4, none⟩) (by have := HBW.out.size; simp; omega)).trans c4
                have e5 := (HB2.out.cell (p := ⟨bb, off + k * 8 + 5, none⟩) (by have := HBW.out.size; simp; omega)).trans c5
                have e6 := (HB2.out.cell (p := ⟨bb, off + k * 8 + 6, none⟩) (by have := HBW.out.size; simp; omega)).trans c6
                have e7 := (HB2.out.cell (p := ⟨bb, off + k * 8 + 7, none⟩) (by have := HBW.out.size; simp; omega)).trans c7
                have hnew := cells_new wr [.int .i64 q, .int .i64 o.x, .int .i64 o.a, .int .i64 o.b, .int .i64 o.c, .int .i64 o.d, .int .i64 o.e, .string o.s] 28 (n := wr.heap.size) rfl
                have HNEW := Lib.hid hnew
                have HR4 := Lib.hid (hrow3.alloc (.cells #[.int .i64 q, .int .i64 o.x, .int .i64 o.a, .int .i64 o.b, .int .i64 o.c, .int .i64 o.d, .int .i64 o.e, .string o.s] 28))
                have hsz3 := hb3.size
                have k3 : m + 1 ≤ maxLen := by unfold maxLen; omega
                have K3 := Lib.hid k3
                clear hb3 hrow3 hbw3 hnew k3 c0 c1 c2 c3 c4 c5 c6 c7
                go_wp2_with (at_builtin; go_loud (refine wpList_append_to _ rfl _ _ 22 rfl w1.heap.size 28 i0 _ 8 72 Tryz.underlying22 hi hz0 hz1 hz2 rfl (by decide) (.slice a' m c') m _ rfl HR4.out ⟨wr.heap.size, 0, none⟩ 1 1 _ rfl rfl HNEW.out (by simp [Value.oneCell']) (by omega) K3.out (by omega) (by simp; omega) ?_))
                intro g gc w5 hl5 hto5
                have hrow5 : w5.ownsRow w1.heap.size 28 8 (.slice (some ⟨g, 0, none⟩) (m + 1) gc) (m + 1) (opCells (l' ++ [o])) := by
                  have e : opCells (l' ++ [o]) = opCells l' ++ [.int .i64 q, .int .i64 o.x, .int .i64 o.a, .int .i64 o.b, .int .i64 o.c, .int .i64 o.d, .int .i64 o.e, .string o.s] := by
                    rw [← HQ.out]; simp [opCells, Sop.cells]
                  rw [e]; exact hl5
                have hb5 : Below w1.heap.size w1 w5 := (HB3.out.alloc hsz3 _).grown hto5.grown (by simp; omega) (fun k e => (HR4.out.lt k e).1)
                have HR5 := Lib.hid hrow5
                have HB5 := Lib.hid hb5
                clear hl5 hto5 hrow5 hb5
                go_wp2_with fail
                refine ⟨⟨k + 1, m + 1, l' ++ [o], _, gc, by omega, by omega, by go_num, rfl, HR5.out, fun o' ho' => ?_, HB5.out⟩, by simp [intOf]; omega⟩
                rcases List.mem_append.1 ho' with ho' | ho'
                · exact HALL.out o' ho'
                · simp only [List.mem_cons, List.not_mem_nil, or_false] at ho'
                  subst ho'
                  refine ⟨by rw [← HO.out]; exact List.getElem_mem _, ?_⟩
                  have hp := HP.out
                  rw [HALLK.out] at hp
                  rw [HQ.out]
                  simp only [Bool.true_eq, Bool.or_eq_true, List.contains_iff_mem] at hp
                  exact hp
      · have hk' : k = n := by omega
        subst hk'
        have HROW := Lib.hid hrow
        have HALL := Lib.hid hall
        have HB := Lib.hid hb
        have HC := Lib.hid (HUP.out l' a' m c' wr (fun o ho => ⟨(hall o ho).1, (hall o ho).2, HS16.out o (hall o ho).1⟩) (by have := hrow.1; rw [opCells_length] at this; omega) (by omega) (OpsAt.of_row hrow) (HB1.out.trans (hb.mono hsz1)))
        clear hrow hall hb
        go_wp2_with fail
        refine HC.out.mono ?_
        rintro e w5 ⟨rfl, hb5⟩
        have HB5 := Lib.hid ((HB1.out.trans (HB.out.mono hsz1)).trans (hb5.mono (by have := HB.out.size; omega)))
        clear hb5
        go_wp2
        go_ret
        exact ⟨rfl, HB5.out⟩
end Go.Proofs.YtfngdplkcppabaaGreatDoor
