/-
  Texts of the proof: Plays, Codes, OpenOps. No condition.
-/
import Derived.Test.YtfngdplkcppabaaGreatDoorPart01
import Derived.Test.YtfngdplkcppabaaGreatDoorPart07
import Derived.Deep.Slices
import Derived.Deep.Fields
import Derived.ChangeSame
import Derived.Lib.SmallJoins
import Derived.ProofKit
import Derived.SizedLaws
set_option linter.all false
set_option maxRecDepth 100000
set_option maxHeartbeats 4000000
namespace Go.Proofs.YtfngdplkcppabaaGreatDoor
open Go.RowKit
theorem small_any (l : List Sop) (a : Option Addr) (n cap : Nat) (w : World) (hn : l.length = n) (hl : n <= 140737488355328) (ha : OpsAt w a l) (hs : ∀ o ∈ l, o.s.size <= 140737488355328) :
  Calls Tryz.prog 8 #[.slice a n cap] w fun e w' => ∃ r : Bool, e = .returned (.bool r) /\ (r = true -> n <= 16384 /\ ∀ o ∈ l, o.s.size <= 16384) /\ Below w.heap.size w w' := by
 have HA := Hd ha; have HN := Hd hn; have HS := Hd hs; clear ha hn hs; by_cases h0 : 16384 < n
 · go_enter Tryz.func8, Tryz.ntmps8
   go_wp2; go_ret
   exact ⟨false, rfl, fun h => (by cases h), Below.refl _ _⟩
 · go_enter Tryz.func8, Tryz.ntmps8
   go_wp2; go_loopw [3, 4] (fun s i wr => ∃ k t : Nat, k <= n /\ i = .int .i64 k /\ s = .int .i64 t /\ n <= t /\ t <= 16384 /\ (∀ (j : Nat) o, l[j]? = some o -> j < k -> o.s.size <= 16384) /\ Below w.heap.size w wr) (fun _ i _ => n - (intOf i).toNat)
   case atStart => exact ⟨0, n, Nat.zero_le _, rfl, rfl, Nat.le_refl _, by omega, fun j o _ h => absurd h (Nat.not_lt_zero _), Below.refl _ _⟩
   case round =>
    obtain ⟨k, t, hkn, rfl, rfl, hnt, ht, hsz, hb⟩ := hrel; have HZ := Hd hsz; clear hsz; by_cases hlt : k < n
    · have hlt' : k < l.length := by have := HN.out; omega
      obtain ⟨bb, off, rfl, hbb, hcc⟩ := HA.out k l[k] (List.getElem?_eq_getElem hlt'); have c7 := (hb.cell hbb).trans (hcc 7 _ rfl); have hs47 := HS.out l[k] (List.getElem_mem _); obtain ⟨o, ho⟩ : ∃ o, l[k] = o := ⟨_, rfl⟩; rw [ho] at c7 hs47; obtain ⟨m, hm⟩ : ∃ m, o.s.size = m := ⟨_, rfl⟩; rw [hm] at hs47; have HO := Hd ho; have HM := Hd hm; have HB := Hd hb; clear hb hcc ho; have w1 : IntKind.i64.wrap ((t : Int) + (m : Int)) = ((t + m : Nat) : Int) := by rw [IntWalk.i64_in _ (by omega)]; omega
      by_cases hbig : 16384 < t + m
      · go_wp2
        go_ret
        exact ⟨false, rfl, fun h => (by cases h), HB.out⟩
      · go_wp2_with fail
        refine ⟨⟨k + 1, t + m, by omega, by go_num, by simp, by omega, by omega, fun j o' hj hjk => ?_, HB.out⟩, by simp [intOf]; omega⟩
        by_cases e : j = k
        · subst e
          rw [List.getElem?_eq_getElem hlt', HO.out] at hj; cases hj
          have := HM.out; omega
        · exact HZ.out j o' hj (by omega)
    · have hk' : k = n := by omega
      subst hk'; go_wp2; go_ret
      refine ⟨true, rfl, fun _ => ⟨by omega, fun o ho => ?_⟩, hb⟩
      obtain ⟨j, hj, e⟩ := List.getElem_of_mem ho; exact HZ.out j o (by rw [List.getElem?_eq_getElem hj, e]) (by have := HN.out; omega)
theorem info_op : (Tryz.prog.info? 28).map (fun i => (i.zero, i.size, i.bytes)) = some (some (.agg #[.int .i64 0, .int .i64 0, .int .i64 0, .int .i64 0, .int .i64 0, .int .i64 0, .int .i64 0, .string ⟨#[]⟩]), 8, 72) := by kernel_rfl
def opCells (l : List Sop) : List Value := l.flatMap Sop.cells
theorem opCells_length (l : List Sop) : (opCells l).length = l.length * 8 := by
 induction l with
 | nil => rfl
 | cons a l ih => simp [opCells, Sop.cells] at ih ⊢; omega
theorem opCells_at (l : List Sop) : ∀ (i : Nat) (o : Sop) (j : Nat) v, l[i]? = some o -> o.cells[j]? = some v -> (opCells l)[i * 8 + j]? = some v := by
 induction l with
 | nil => intro i o j v h; simp at h
 | cons a l ih =>
  intro i o j v h hv; have e : opCells (a :: l) = a.cells ++ opCells l := rfl; have hla : a.cells.length = 8 := rfl; cases i with
  | zero =>
   simp at h
   subst h; rw [e, Nat.zero_mul, Nat.zero_add, List.getElem?_append_left]
   · exact hv
   · rcases Nat.lt_or_ge j a.cells.length with h' | h'
     · exact h'
     · rw [List.getElem?_eq_none h'] at hv; cases hv
  | succ i =>
   rw [e, List.getElem?_append_right (by omega), hla, show (i + 1) * 8 + j - 8 = i * 8 + j by omega]
   exact ih i o j v (by simpa using h) hv
theorem OpsAt.of_row {w : World} {B n cap : Nat} {a : Option Addr} {l : List Sop} (h : w.ownsRow B 28 8 (.slice a n cap) n (opCells l)) : OpsAt w a l := by
 intro i o ho; obtain ⟨b, off, e, hb, _⟩ := Ki.row h _ _ (opCells_at l i o 0 _ ho rfl); refine ⟨b, off, e, hb, fun j v hv => ?_⟩
 obtain ⟨b', off', e', _, hc⟩ := Ki.row h _ _ (opCells_at l i o j v ho hv); rw [e] at e'; cases e'; rw [<- Nat.add_assoc] at hc; exact hc
theorem contains_take {ks : List Int} {jj : Nat} (h : jj < ks.length) (q : Int) : (ks.take (jj + 1)).contains q = ((ks.take jj).contains q || (q == ks[jj])) := by
 rw [List.take_succ_eq_append_getElem h]
 generalize ks.take jj = T
 generalize ks[jj] = x
 cases hq : (q == x)
 · have : q ≠ x := by simpa using hq
   simp [List.contains_eq_mem, this]
 · have : q = x := by simpa using hq
   simp [List.contains_eq_mem, this]
def kind0 (k : Int) : Bool := decide (k < 5) || (k == 7) || (k == 8) || (k == 12)
theorem plays_any (l : List Sop) (ks : List Int) (a ka : Option Addr) (n cap kn kc : Nat) (w : World) (hn : l.length = n) (hl : n <= 140737488355328) (ha : OpsAt w a l) (hs : ∀ o ∈ l, o.s.size <= 140737488355328)
  (hkn : ks.length = kn) (hkl : kn <= 100) (hka : Ki w ka (ks.map (Value.int .i64)))
  (hup : ∀ (l' : List Sop) a' n' cap' w', (∀ o ∈ l', o ∈ l /\ (kind0 o.kind = true \/ o.kind ∈ ks) /\ o.s.size <= 16384) -> l'.length = n' -> n' <= 16384 -> OpsAt w' a' l' -> Below w.heap.size w w' ->
   Calls Tryz.prog 9 #[.slice a' n' cap'] w' fun e w'' => e = .returned (.int .i64 (-1)) /\ Below w'.heap.size w' w'') :
  Calls Tryz.prog 7 #[.slice a n cap, .slice ka kn kc] w fun e w' => e = .returned (.bool true) /\ Below w.heap.size w w' := by
 have HSM := Hd (small_any l a n cap w hn hl ha hs); have HA := Hd ha; have HN := Hd hn; have HK := Hd hka; have HKN := Hd hkn; have HUP := Hd hup; clear ha hn hs hka hkn hup; go_enter Tryz.func7, Tryz.ntmps7; go_wp2_with fail
 refine HSM.out.mono ?_; rintro e w1 ⟨r, rfl, hr, hb1⟩; cases r with
 | false =>
  have HB1 := Hd hb1; clear hb1 hr; go_wp2; go_ret
  exact ⟨rfl, HB1.out⟩
 | true =>
  obtain ⟨hn16, hs16⟩ := hr rfl; have HS16 := Hd hs16; have HB1 := Hd hb1; have hsz1 := hb1.size; clear hb1 hr hs16; obtain ⟨i0, hi, hz0, hz1, hz2⟩ := info_parts info_op; go_wp2_with fail
  go_loopw [6, 7] (fun s i wr => ∃ (k m : Nat) (l' : List Sop) (a' : Option Addr) (c' : Nat), k <= n /\ m <= k /\ i = .int .i64 k /\ s = .slice a' m c' /\ wr.ownsRow w1.heap.size 28 8 (.slice a' m c') m (opCells l') /\
   (∀ o ∈ l', o ∈ l /\ (kind0 o.kind = true \/ o.kind ∈ ks)) /\ Below w1.heap.size w1 wr) (fun _ i _ => n - (intOf i).toNat)
  case atStart => exact ⟨0, 0, [], none, 0, Nat.zero_le _, Nat.le_refl _, rfl, rfl, World.ownsRow_nil _ _ _ _, ⟨(fun _ h => absurd h (by simp)), Below.refl _ _⟩⟩
  case round =>
   obtain ⟨k, m, l', a', c', hkn', hmk, rfl, rfl, hrow, hall, hb⟩ := hrel; by_cases hlt : k < n
   · have hlt' : k < l.length := by have := HN.out; omega
     obtain ⟨bb, off, rfl, hbb, hcc⟩ := HA.out k l[k] (List.getElem?_eq_getElem hlt'); have hbw : Below w.heap.size w wr := HB1.out.trans (hb.mono hsz1); have c0 := (hbw.cell hbb).trans (hcc 0 _ rfl); have c1 := (hbw.cell hbb).trans (hcc 1 _ rfl); have c2 := (hbw.cell hbb).trans (hcc 2 _ rfl); have c3 := (hbw.cell hbb).trans (hcc 3 _ rfl); have c4 := (hbw.cell hbb).trans (hcc 4 _ rfl); have c5 := (hbw.cell hbb).trans (hcc 5 _ rfl); have c6 := (hbw.cell hbb).trans (hcc 6 _ rfl); have c7 := (hbw.cell hbb).trans (hcc 7 _ rfl); rw [Nat.add_zero] at c0; obtain ⟨o, ho⟩ : ∃ o, l[k] = o := ⟨_, rfl⟩; rw [ho] at c0 c1 c2 c3 c4 c5 c6 c7; have HO := Hd ho; have HROW := Hd hrow; have HALL := Hd hall; have HB := Hd hb; have HBW := Hd hbw; clear hcc ho hrow hall hb hbw; obtain ⟨q, hq⟩ : ∃ q, o.kind = q := ⟨_, rfl⟩; rw [hq] at c0; have HQ := Hd hq; clear hq
     have hfive : (q < 5 /\ kind0 q = true) \/ (¬ q < 5 /\ (q == 7) = true /\ kind0 q = true) \/ (¬ q < 5 /\ (q == 7) = false /\ (q == 8) = true /\ kind0 q = true) \/ (¬ q < 5 /\ (q == 7) = false /\ (q == 8) = false /\ (q == 12) = true /\ kind0 q = true) \/ (¬ q < 5 /\ (q == 7) = false /\ (q == 8) = false /\ (q == 12) = false /\ kind0 q = false) := by
      unfold kind0; by_cases h1 : q < 5 <;> cases (q == 7) <;> cases (q == 8) <;> cases (q == 12) <;> simp [h1]
     rcases hfive with ⟨h1, hp0⟩ | ⟨h1, h2, hp0⟩ | ⟨h1, h2, h3, hp0⟩ | ⟨h1, h2, h3, h4, hp0⟩ | ⟨h1, h2, h3, h4, hp0⟩
     all_goals
      have HP0 := Hd hp0; clear hp0; go_wp2_with fail
      go_loopw [9, 10] (fun s j wr2 => ∃ (jj : Nat) (p : Bool), jj <= kn /\ j = .int .i64 jj /\ s = .bool p /\ p = (kind0 q || (ks.take jj).contains q) /\ Below wr.heap.size wr wr2) (fun _ j _ => kn - (intOf j).toNat)
      case atStart => exact ⟨0, _, Nat.zero_le _, rfl, rfl, by rw [HP0.out]; rfl, Below.refl _ _⟩
      case round =>
       obtain ⟨jj, p, hjk, rfl, rfl, hp, hb2⟩ := hrel; have HP := Hd hp; have HB2 := Hd hb2; clear hp hb2; by_cases hj : jj < kn
       · have hjk' : jj < ks.length := by have := HKN.out; omega
         obtain ⟨kb, koff, rfl, hkb, hkc⟩ := HK.out jj (.int .i64 ks[jj]) (by rw [List.getElem?_map, List.getElem?_eq_getElem hjk']; rfl)
         obtain ⟨qe, hqe⟩ : ∃ qe, ks[jj] = qe := ⟨_, rfl⟩; rw [hqe] at hkc; have kc0 := ((HB2.out.cell (p := ⟨kb, koff + jj, none⟩) (by have := HBW.out.size; simp; omega)).trans (HBW.out.cell (p := ⟨kb, koff + jj, none⟩) hkb)).trans hkc
         have htk : (ks.take (jj + 1)).contains q = ((ks.take jj).contains q || (q == qe)) := by
          rw [<- hqe]; exact contains_take hjk' q
         have HTK := Hd htk; clear hkc hqe htk; cases p with
         | true =>
          go_wp2_with fail
          exact ⟨⟨jj + 1, true, by omega, by go_num, rfl, by rw [HTK.out, <- Bool.or_assoc, <- HP.out]; rfl, HB2.out⟩, by simp [intOf]; omega⟩
         | false =>
          cases hqq : (q == qe) with
          | true =>
           go_wp2_with fail
           exact ⟨⟨jj + 1, true, by omega, by go_num, rfl, by rw [HTK.out, <- Bool.or_assoc, <- HP.out, hqq]; rfl, HB2.out⟩, by simp [intOf]; omega⟩
          | false =>
           go_wp2_with fail
           exact ⟨⟨jj + 1, false, by omega, by go_num, rfl, by rw [HTK.out, <- Bool.or_assoc, <- HP.out, hqq]; rfl, HB2.out⟩, by simp [intOf]; omega⟩
       · have hj' : jj = kn := by omega
         subst hj'; have hall' : ks.take jj = ks := List.take_of_length_le (by have := HKN.out; omega)
         have HALLK := Hd hall'; clear hall'; have hb3 : Below w1.heap.size w1 wr := HB.out.trans (HB2.out.mono HB.out.size); have hrow3 := Ks HROW.out HB2.out; have HB3 := Hd hb3; have HROW3 := Hd hrow3; cases p with
         | false =>
          clear hb3 hrow3; go_wp2_with fail
          exact ⟨⟨k + 1, m, l', a', c', by omega, by omega, by go_num, rfl, HROW3.out, HALL.out, HB3.out⟩, by simp [intOf]; omega⟩
         | true =>
          have hbw3 : Below w.heap.size w wr := HBW.out.trans (HB2.out.mono HBW.out.size); have e0 := (HB2.out.cell (p := ⟨bb, off + k * 8, none⟩) (by have := HBW.out.size; simp; omega)).trans c0
          have e1 := (HB2.out.cell (p := ⟨bb, off + k * 8 + 1, none⟩) (by have := HBW.out.size; simp; omega)).trans c1
          have e2 := (HB2.out.cell (p := ⟨bb, off + k * 8 + 2, none⟩) (by have := HBW.out.size; simp; omega)).trans c2
          have e3 := (HB2.out.cell (p := ⟨bb, off + k * 8 + 3, none⟩) (by have := HBW.out.size; simp; omega)).trans c3
          have e4 := (HB2.out.cell (p := ⟨bb, off + k * 8 + 4, none⟩) (by have := HBW.out.size; simp; omega)).trans c4
          have e5 := (HB2.out.cell (p := ⟨bb, off + k * 8 + 5, none⟩) (by have := HBW.out.size; simp; omega)).trans c5
          have e6 := (HB2.out.cell (p := ⟨bb, off + k * 8 + 6, none⟩) (by have := HBW.out.size; simp; omega)).trans c6
          have e7 := (HB2.out.cell (p := ⟨bb, off + k * 8 + 7, none⟩) (by have := HBW.out.size; simp; omega)).trans c7
          have hnew := Kt wr [.int .i64 q, .int .i64 o.x, .int .i64 o.a, .int .i64 o.b, .int .i64 o.c, .int .i64 o.d, .int .i64 o.e, .string o.s] 28 (n := wr.heap.size) rfl; have HNEW := Hd hnew; have HR4 := Hd (hrow3.alloc (.cells #[.int .i64 q, .int .i64 o.x, .int .i64 o.a, .int .i64 o.b, .int .i64 o.c, .int .i64 o.d, .int .i64 o.e, .string o.s] 28)); have hsz3 := hb3.size; have k3 : m + 1 <= maxLen := by unfold maxLen; omega
          have K3 := Hd k3; clear hb3 hrow3 hbw3 hnew k3 c0 c1 c2 c3 c4 c5 c6 c7; go_wp2_with (at_builtin; go_loud (refine wpList_append_to _ rfl _ _ 22 rfl w1.heap.size 28 i0 _ 8 72 Tryz.underlying22 hi hz0 hz1 hz2 rfl (by decide) (.slice a' m c') m _ rfl HR4.out ⟨wr.heap.size, 0, none⟩ 1 1 _ rfl rfl HNEW.out (by simp [Value.oneCell']) (by omega) K3.out (by omega) (by simp; omega) ?_))
          intro g gc w5 hl5 hto5
          have hrow5 : w5.ownsRow w1.heap.size 28 8 (.slice (some ⟨g, 0, none⟩) (m + 1) gc) (m + 1) (opCells (l' ++ [o])) := by
           have e : opCells (l' ++ [o]) = opCells l' ++ [.int .i64 q, .int .i64 o.x, .int .i64 o.a, .int .i64 o.b, .int .i64 o.c, .int .i64 o.d, .int .i64 o.e, .string o.s] := by
            rw [<- HQ.out]; simp [opCells, Sop.cells]
           rw [e]; exact hl5
          have hb5 : Below w1.heap.size w1 w5 := (HB3.out.alloc hsz3 _).grown hto5.grown (by simp; omega) (fun k e => (HR4.out.lt k e).1)
          have HR5 := Hd hrow5; have HB5 := Hd hb5; clear hl5 hto5 hrow5 hb5; go_wp2_with fail
          refine ⟨⟨k + 1, m + 1, l' ++ [o], _, gc, by omega, by omega, by go_num, rfl, HR5.out, fun o' ho' => ?_, HB5.out⟩, by simp [intOf]; omega⟩
          rcases List.mem_append.1 ho' with ho' | ho'
          · exact HALL.out o' ho'
          · simp only [List.mem_cons, List.not_mem_nil, or_false] at ho'
            subst ho'; refine ⟨by rw [<- HO.out]; exact List.getElem_mem _, ?_⟩
            have hp := HP.out; rw [HALLK.out] at hp; rw [HQ.out]; simp only [Bool.true_eq, Bool.or_eq_true, List.contains_iff_mem] at hp; exact hp
   · have hk' : k = n := by omega
     subst hk'; have HROW := Hd hrow; have HALL := Hd hall; have HB := Hd hb; have HC := Hd (HUP.out l' a' m c' wr (fun o ho => ⟨(hall o ho).1, (hall o ho).2, HS16.out o (hall o ho).1⟩) (by have := hrow.1; rw [opCells_length] at this; omega) (by omega) (OpsAt.of_row hrow) (HB1.out.trans (hb.mono hsz1)))
     clear hrow hall hb; go_wp2_with fail
     refine HC.out.mono ?_; rintro e w5 ⟨rfl, hb5⟩; have HB5 := Hd ((HB1.out.trans (HB.out.mono hsz1)).trans (hb5.mono (by have := HB.out.size; omega)))
     clear hb5; go_wp2; go_ret
     exact ⟨rfl, HB5.out⟩
def f0 (i : Nat) : Value := world0.getD i undef
def d0 : Sd := ⟨[], ⟨0, 0, 0, 0, 0, []⟩, [], [], [], [], [], [], 0⟩
theorem IntIn.none (w : World) : IntIn w Option.none [] := ⟨fun j v h => by simp at h, fun p e => by cases e⟩
theorem sat0 (w : World) : SAt w.heap.size w.heap.size 0 (w.alloc (.cells world0.toArray 41)) f0 d0 where
 blk := ⟨world0.toArray, Kc w _, by decide, fun i hi => by
  have : i < world0.length := hi
  simp [f0, List.getD, this]⟩
 hB := Nat.le_refl _
 t0 := ⟨none, 0, rfl⟩
 tr := World.ownsRow_nil _ _ _ _
 tn := Nat.le_refl _
 tz := fun t h => by cases h
 m1 := rfl
 m2 := rfl
 m3 := rfl
 m4 := rfl
 m5 := rfl
 m6 := ⟨none, 0, rfl, RKeys.none _⟩
 mn := by decide
 d7 := ⟨none, 0, rfl, IntIn.none _⟩
 dn := Nat.le_refl _
 df := fun t h => by cases h
 cf := fun i h8 h14 => by
  have : i = 8 \/ i = 9 \/ i = 10 \/ i = 11 \/ i = 12 \/ i = 13 := by omega
  rcases this with rfl | rfl | rfl | rfl | rfl | rfl <;> exact ⟨0, rfl, by unfold fits; omega⟩
 o15 := ⟨none, 0, rfl⟩
 orow := World.ownsRow_nil _ _ _ _
 on := by decide
 oz := fun t h => by cases h
 l16 := ⟨none, 0, rfl⟩
 l17 := ⟨none, 0, rfl⟩
 lx := World.ownsRow_nil _ _ _ _
 ly := World.ownsRow_nil _ _ _ _
 ln := by decide
 lne := fun g h => by simp [f0, world0, Value.ownBlock] at h
 lh := fun i v u h => by simp [d0] at h
 l18 := ⟨none, 0, rfl⟩
 l19 := ⟨none, 0, rfl⟩
 lo := World.ownsRow_nil _ _ _ _
 lk := World.ownsRow_nil _ _ _ _
 lon := by decide
 lone := fun g h => by simp [f0, world0, Value.ownBlock] at h
 lp := fun i v u h => by simp [d0] at h
 m20 := rfl
 mb := by decide
end Go.Proofs.YtfngdplkcppabaaGreatDoor
namespace Go.Proofs.YtfngdplkcppabaaGreatDoor
open Go.Joins Go.ChangeShapes Go.WideShapes Go.RowKit Go.Deep
theorem fits_of_wf {x : Int} (h : (Lit.int .i64 x).wf = true) : fits x := by
 simpa [fits, Lit.wf, IntKind.min, IntKind.max, IntKind.signed, IntKind.bits] using h
theorem weightsAll_mem {H : Type} {P : Program} {e : TypeId} {d : DataW H} {n : Nat} : ∀ {l : List (DataW H)}, d ∈ l -> n ∈ d.weights P e -> n ∈ DataW.weightsAll P e l
 | [], h, _ => by cases h
 | a :: r, h, hn => by
  simp only [DataW.weightsAll, List.mem_append]; rcases List.mem_cons.1 h with rfl | h
  · exact .inl hn
  · exact .inr (weightsAll_mem h hn)
section
variable {H : Type} {enc : TypeId × Value -> H} {w : World} {base : Nat} {spare : Nat -> Bool} {held : Bool}
theorem op_int {fuel : Nat} {v : Value} {y : DataW H × List MemPlace} (h : DataW.trod enc Tryz.prog w base spare held fuel 3 [v] = some y) : ∃ x : Int, v = .int .i64 x /\ fits x := by
 obtain ⟨x, e0, e1, wx⟩ := DataW.trod_int Tryz.underlying3 h
 simp at e0
 exact ⟨x, e0, fits_of_wf wx⟩
theorem elems_of' {P : Program} {e : TypeId} {fs : Array Field} {a : Addr} {i n : Nat} {d : DataW H} {pl : List MemPlace} (he : P.underlying e = some (.struct fs)) (hone : oneCellFields P fs = true) (hC : P.cellsOf e = fs.size)
  (hi : ∃ cs', w.cells? base (a.add (i * P.cellsOf e)) (P.cellsOf e) = some cs' /\ DataW.trod enc P w base spare held n e cs' = some (d, pl)) :
  ∃ n' parts, d = .agg parts /\ ∀ (j : Nat) (f : Field), fs[j]? = some f -> ∃ (v : Value) (y : DataW H × List MemPlace), w.cell? (a.add (i * fs.size + j)) = some v /\ DataW.trod enc P w base spare held n' f.type [v] = some y /\ parts[j]? = some y.1 := by
 obtain ⟨cs', hc, ht'⟩ := hi; rw [hC] at hc; obtain ⟨ys, n', hn', hy, hlen, hyl, hf⟩ := DataW.trod_struct he ht'; obtain ⟨_, hcl, hat⟩ := World.cells?_some hc; refine ⟨n', ys.map (·.1), (Prod.mk.inj hy).1, fun j f hj => ?_⟩
 obtain ⟨ho, hk⟩ := hone_of hone j f hj; have hjl : j < fs.size := (Array.getElem?_eq_some_iff.1 hj).1; have hcell := hat j hjl; have hv : cs'[j]? = some (cs'[j]'(by omega)) := List.getElem?_eq_getElem (by omega)
 have h1 := hf j f hj; rw [ho, hk] at h1
 have hone' : (cs'.drop j).take 1 = [cs'[j]'(by omega)] := by
  rw [List.drop_eq_getElem_cons (by omega)]
  rfl
 rw [hone'] at h1; have hys : ys[j]? = some (ys[j]'(by omega)) := List.getElem?_eq_getElem (by omega)
 refine ⟨_, _, ?_, h1.trans hys, by rw [List.getElem?_map, hys]; rfl⟩
 rw [<- Go.Deep.add_add, hcell, hv]
theorem op_bytes : Tryz.prog.bytesOf 28 = 72 := by kernel_rfl
theorem op_add {b off k : Nat} : (⟨b, off, none⟩ : Addr).add k = ⟨b, off + k, none⟩ := by unfold Addr.add; split <;> simp_all
theorem op_spot {a : Addr} {v : Value} (h : w.cell? a = some v) : a.spot = none /\ a.block < w.heap.size := by
 refine ⟨?_, World.block_lt_of_cell? _ _ h⟩; unfold World.cell? at h
 split at h
 · split at h
   · cases h
   · rename_i hs; simpa using hs
 · cases h
theorem open_ops {fuel : Nat} {cs : List Value} {x : DataW H × List MemPlace} (h : DataW.trod enc Tryz.prog w base spare held fuel 22 cs = some x) (hw : ∀ n ∈ x.1.weights Tryz.prog 22, n <= reachBytes) :
  ∃ (a : Option Addr) (l : List Sop) (cap : Nat), cs = [.slice a l.length cap] /\ l.length <= reachBytes /\ OpsAt w a l /\ (∀ o ∈ l, o.s.size <= reachBytes) /\ ∀ o ∈ l, o.s.size <= 16384 -> o.Ok := by
 rcases open_slice Tryz.underlying22 h with ⟨rfl, _⟩ | ⟨a, len, cap, m, n, D, Pl, hcs, hb, hl, hm, hmm, hx, hi⟩
 · exact ⟨none, [], 0, rfl, Nat.zero_le _, fun i o hk => (by simp at hk), fun k hk => (by simp at hk), fun k hk => (by simp at hk)⟩
 · have hlm : len <= m := by rw [hmm]; split <;> omega
   have hx1 : x.1 = .slice ((List.range len).map D) ((List.range (m - len)).map fun j => D (len + j)) := by rw [hx]
   rw [hx1] at hw
   have hwl : len <= reachBytes := by
    have := hw ((((List.range len).map D).length + ((List.range (m - len)).map fun j => D (len + j)).length) * Tryz.prog.bytesOf 28) (by simp [DataW.weights, Tryz.underlying22])
    rw [op_bytes] at this; simp only [List.length_map, List.length_range] at this; omega
   have elem : ∀ i, i < len -> ∃ o : Sop, (o.s.size <= reachBytes /\ (o.s.size <= 16384 -> o.Ok)) /\ ∀ (j : Nat) v, o.cells[j]? = some v -> w.cell? (a.add (i * 8 + j)) = some v := by
    intro i hil; obtain ⟨n', parts, hd, hf⟩ := elems_of' Tryz.underlying28 (by kernel_rfl) (by kernel_rfl) (hi i (by omega))
    obtain ⟨v0, y0, c0, t0, _⟩ := hf 0 _ rfl; obtain ⟨v1, y1, c1, t1, _⟩ := hf 1 _ rfl; obtain ⟨v2, y2, c2, t2, _⟩ := hf 2 _ rfl; obtain ⟨v3, y3, c3, t3, _⟩ := hf 3 _ rfl; obtain ⟨v4, y4, c4, t4, _⟩ := hf 4 _ rfl; obtain ⟨v5, y5, c5, t5, _⟩ := hf 5 _ rfl; obtain ⟨v6, y6, c6, t6, _⟩ := hf 6 _ rfl; obtain ⟨v7, y7, c7, t7, hp7⟩ := hf 7 _ rfl; obtain ⟨x0, rfl, g0⟩ := op_int t0; obtain ⟨x1, rfl, g1⟩ := op_int t1; obtain ⟨x2, rfl, g2⟩ := op_int t2; obtain ⟨x3, rfl, g3⟩ := op_int t3; obtain ⟨x4, rfl, g4⟩ := op_int t4; obtain ⟨x5, rfl, g5⟩ := op_int t5; obtain ⟨x6, rfl, g6⟩ := op_int t6; obtain ⟨s, e7, ey7, hs⟩ := DataW.trod_string Tryz.underlying9 t7; simp only [List.cons.injEq, and_true] at e7; subst e7
    have hsz : s.size <= reachBytes := by
     have hmem : s.data.toList.length ∈ (D i).weights Tryz.prog 28 := by
      rw [hd]; simp only [DataW.weights, Tryz.underlying28]; exact DataW.weights_mem_each (j := 7) (t := 9) rfl hp7 _ (by rw [ey7]; simp [DataW.weights])
     have := hw _ (by
      simp only [DataW.weights, Tryz.underlying22, List.mem_cons, List.mem_append]; exact .inr (.inl (weightsAll_mem (List.mem_map.2 ⟨i, List.mem_range.2 hil, rfl⟩) hmem)))
     simpa using this
    refine ⟨⟨x0, x1, x2, x3, x4, x5, x6, s⟩, ⟨hsz, fun h => ⟨g0, g1, g2, g3, g4, g5, g6, h⟩⟩, fun j v hv => ?_⟩
    simp only [Sop.cells] at hv; rcases j with _ | _ | _ | _ | _ | _ | _ | _ | j
    · simp at hv; subst hv; exact c0
    · simp at hv; subst hv; exact c1
    · simp at hv; subst hv; exact c2
    · simp at hv; subst hv; exact c3
    · simp at hv; subst hv; exact c4
    · simp at hv; subst hv; exact c5
    · simp at hv; subst hv; exact c6
    · simp at hv; subst hv; exact c7
    · simp at hv
   have list : ∀ j, j <= len -> ∃ l : List Sop, l.length = j /\ (∀ o ∈ l, o.s.size <= reachBytes /\ (o.s.size <= 16384 -> o.Ok)) /\ ∀ (i : Nat) o, l[i]? = some o -> ∀ (j : Nat) v, o.cells[j]? = some v -> w.cell? (a.add (i * 8 + j)) = some v := by
    intro j
    induction j with
    | zero => exact fun _ => ⟨[], rfl, fun k hk => (by simp at hk), fun i k hk => (by simp at hk)⟩
    | succ j ih =>
     intro hj; obtain ⟨l, hl1, hl2, hl3⟩ := ih (by omega)
     obtain ⟨k, hk, hc⟩ := elem j (by omega)
     refine ⟨l ++ [k], by simp [hl1], fun k' hk' => ?_, fun i k' hk' => ?_⟩
     · rcases List.mem_append.1 hk' with h' | h'
       · exact hl2 k' h'
       · rw [List.mem_singleton.1 h']; exact hk
     · rcases Nat.lt_or_ge i l.length with h' | h'
       · rw [List.getElem?_append_left h'] at hk'
         exact hl3 i k' hk'
       · rw [List.getElem?_append_right h'] at hk'
         have hi0 : i - l.length = 0 := by
          rcases Nat.eq_zero_or_pos (i - l.length) with h0 | h0
          · exact h0
          · rw [List.getElem?_eq_none (by simp; omega)] at hk'; cases hk'
         rw [hi0] at hk'
         simp at hk'
         subst hk'; have : i = j := by omega
         subst this; exact hc
   obtain ⟨l, hl1, hl2, hl3⟩ := list len (Nat.le_refl _); subst hl1; refine ⟨some a, l, cap, hcs, hwl, fun i k hk => ?_, fun o ho => (hl2 o ho).1, fun o ho => (hl2 o ho).2⟩
   have h0 : 0 < l.length := by
    rcases Nat.eq_zero_or_pos l.length with h0 | h0
    · rw [List.length_eq_zero_iff.1 h0] at hk; simp at hk
    · exact h0
   obtain ⟨hs, hlt⟩ := op_spot (hl3 0 l[0] (List.getElem?_eq_getElem h0) 0 _ rfl); obtain ⟨b, off, sp⟩ := a; have e0 : (⟨b, off, sp⟩ : Addr).add (0 * 8 + 0) = ⟨b, off, sp⟩ := by unfold Addr.add; simp
   rw [e0] at hs hlt; simp only at hs hlt; subst hs; refine ⟨b, off, rfl, hlt, fun j v hv => ?_⟩
   have := hl3 i k hk j v hv; rw [op_add] at this; rw [Nat.add_assoc]; exact this
end
