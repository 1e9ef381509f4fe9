/-
  writer.put appends the numbers' bytes, the high one first, to the writer's row.
-/
import Derived.Test.YtfngdplkcppabaaGreatDoorPlainA
import Derived.Deep.RegionLaw
import Derived.Maps.AppendAt
import Derived.Deep.DeepMust
namespace Go.Proofs.YtfngdplkcppabaaGreatDoor
open Go.RowKit

/-- The low c bytes of n, the high one first. -/
def be : Nat → Int → List Int
  | 0, _ => []
  | c + 1, n => n / 2 ^ (8 * c) % 256 :: be c n
theorem be_length (c : Nat) (n : Int) : (be c n).length = c := by induction c <;> simp [be, *]
theorem flat_len (wd : Nat) (l : List Int) : (l.flatMap (be wd)).length = wd * l.length := by
  induction l with
  | nil => simp
  | cons a l ih => rw [List.flatMap_cons, List.length_append, ih, be_length, List.length_cons, Nat.mul_succ]; omega
def byteV (b : Int) : Value := .int .u8 b

/-- What a writer's call may turn: its variable, and rows of bytes from B on. -/
def SW (B p : Nat) (k : Nat) (o : Obj) : Prop := k = p ∨ B ≤ k ∧ ∃ c f, o = .cells c 5 f
/-- The writer at p holds xs; the numbers lie in block lb. -/
def WAt (B p lb : Nat) (L : Obj) (w0 wr : World) (v : Value) (xs : List Value) : Prop :=
  wr.heap[p]? = some (.cells #[v] 155 (0, 0)) ∧ wr.ownsRow B 5 1 v xs.length xs ∧ wr.heap[lb]? = some L ∧ Chg (SW B p) w0 wr

theorem cells_ne {w : World} {b b' : Nat} {c c' : Array Value} {t t' : TypeId} {f f' : Nat × Nat} (h : w.heap[b]? = some (.cells c t f)) (h' : w.heap[b']? = some (.cells c' t' f')) (ht : t ≠ t') : b ≠ b' := by
  rintro rfl; rw [h] at h'; simp only [Option.some.injEq, Obj.cells.injEq] at h'; exact ht h'.2.1

theorem ownBlock_of {w : World} {B e s : Nat} {v : Value} {n : Nat} {xs : List Value} (h : w.ownsRow B e s v n xs) {b : Nat} {c : Array Value} {t : TypeId} {f : Nat × Nat}
    (hb : w.heap[b]? = some (.cells c t f)) (ht : t ≠ e) : v.ownBlock ≠ some b := by
  rcases h.2 with ⟨rfl, _⟩ | ⟨g, cap, cur, rfl, _, hg, _⟩
  · simp [Value.ownBlock]
  · simp only [Value.ownBlock, ne_eq, Option.some.injEq]
    exact cells_ne hg hb (fun e' => ht e'.symm)

theorem own_SW {w : World} {B p n : Nat} {v : Value} {xs : List Value} (h : w.ownsRow B 5 1 v n xs) {k : Nat} {o : Obj} (hk : v.ownBlock = some k) (ho : w.heap[k]? = some o) : SW B p k o := by
  rcases h.2 with ⟨rfl, _⟩ | ⟨g, cap, cur, rfl, hB, hg, _⟩
  · simp [Value.ownBlock] at hk
  · simp only [Value.ownBlock, Option.some.injEq] at hk
    subst hk
    rw [hg] at ho
    exact .inr ⟨hB, cur, _, (Option.some.inj ho).symm⟩
theorem ownsRow_sl {w : World} {B e s : Nat} {v : Value} {n : Nat} {xs : List Value} (h : w.ownsRow B e s v n xs) : ∃ a c, v = .slice a n c := by
  rcases h.2 with ⟨rfl, rfl⟩ | ⟨g, cap, cur, rfl, _⟩
  · exact ⟨_, _, rfl⟩
  · exact ⟨_, _, rfl⟩

theorem WAt.after {B p lb : Nat} {cs : Array Value} {w0 wr w1 : World} {v : Value} {xs : List Value} {o : Obj}
    (h : WAt B p lb (.cells cs 3 (0, 0)) w0 wr v xs) (hgr : (wr.alloc o).drew.grownBy w1 v.ownBlock) :
    w1.heap[p]? = some (.cells #[v] 155 (0, 0)) ∧ w1.heap[lb]? = some (.cells cs 3 (0, 0)) ∧ w1.cell? ⟨p, 0, none⟩ = some v ∧ w1.frozen? ⟨p, 0, none⟩ = false := by
  obtain ⟨h1, h2, h3, h4⟩ := h
  have hp := (Array.getElem?_eq_some_iff.1 h1).1
  have hl := (Array.getElem?_eq_some_iff.1 h3).1
  have e1 : w1.heap[p]? = some (.cells #[v] 155 (0, 0)) := by
    rw [hgr.block p (by simp; omega) (fun e => ownBlock_of h2 h1 (by decide) e.symm)]
    show (wr.alloc o).heap[p]? = _
    rw [Below.heap_alloc _ _ _ hp]; exact h1
  have e2 : w1.heap[lb]? = some (.cells cs 3 (0, 0)) := by
    rw [hgr.block lb (by simp; omega) (fun e => ownBlock_of h2 h3 (by decide) e.symm)]
    show (wr.alloc o).heap[lb]? = _
    rw [Below.heap_alloc _ _ _ hl]; exact h3
  exact ⟨e1, e2, by simp [World.cell?, e1], by simp [World.frozen?, e1]⟩

theorem WAt.step {B p lb : Nat} {cs : Array Value} {w0 wr w1 : World} {v v' : Value} {xs : List Value} {o : Obj} {b : Value}
    (h : WAt B p lb (.cells cs 3 (0, 0)) w0 wr v xs) (hown : w1.ownsRow B 5 1 v' (xs.length + 1) (xs ++ [b])) (hgr : (wr.alloc o).drew.grownBy w1 v.ownBlock) :
    WAt B p lb (.cells cs 3 (0, 0)) w0 (w1.setCell ⟨p, 0, none⟩ v') v' (xs ++ [b]) := by
  obtain ⟨e1, e2, _, _⟩ := h.after hgr
  obtain ⟨h1, h2, h3, h4⟩ := h
  have hne : lb ≠ p := cells_ne h3 h1 (by decide)
  refine ⟨?_, ?_, ?_, ?_⟩
  · have := heap_setCell_same w1 p 0 #[v] 155 v' e1
    simpa using this
  · refine World.ownsRow.kept (w := w1) (row := some p) (by simpa using hown) ⟨rfl, rfl, rfl, by simp, fun k _ hk => heap_setCell_other w1 ⟨p, 0, none⟩ k v' (fun e => hk (by simp [e]))⟩ (.inr (ownBlock_of hown e1 (by decide)))
  · rw [heap_setCell_other w1 ⟨p, 0, none⟩ lb v' hne]; exact e2
  · refine Chg.setCell ?_ v' (fun o _ => .inl rfl)
    exact Chg.grown (h4.alloc o).drew hgr (fun k o' hk ho => own_SW (h2.alloc o).drew hk ho)

theorem be_byte (a : Int) (q : Nat) : Value.int .u8 (IntKind.u8.wrap (a / 2 ^ (8 * (q : Int)).toNat)) = byteV (a / 2 ^ (8 * q) % 256) := by
  have : (8 * (q : Int)).toNat = 8 * q := by omega
  rw [this]; simp [byteV, IntKind.wrap, IntKind.bits, IntKind.signed]

theorem info_u8 : (Tryz.prog.info? 5).map (fun i => (i.zero, i.size, i.bytes)) = some (some (.int .u8 0), 1, 1) := by kernel_rfl

theorem put_any (p lb : Nat) (v : Value) (xs : List Value) (wd : Nat) (l : List Int) (B : Nat) (w0 w : World)
    (h : WAt B p lb (.cells (l.map (Value.int .i64)).toArray 3 (0, 0)) w0 w v xs) (hB : B ≤ p) (hw : wd ≤ 4) (hl : l.length ≤ 2) (hx : xs.length ≤ 1000000) :
    Calls Tryz.prog 78 #[.pointer (some ⟨p, 0, none⟩), .int .i64 wd, .slice (some ⟨lb, 0, none⟩) l.length l.length] w fun e w' =>
      e = .returned (.tuple #[]) ∧ ∃ v', WAt B p lb (.cells (l.map (Value.int .i64)).toArray 3 (0, 0)) w0 w' v' (xs ++ (l.flatMap (be wd)).map byteV) := by
  have H := Lib.hid h
  clear h
  go_enter Tryz.func78, Tryz.ntmps78
  go_wp2
  go_loopw [11] (fun i wr => ∃ (j : Nat) (v' : Value), j ≤ l.length ∧ i = .int .i64 j ∧ WAt B p lb (.cells (l.map (Value.int .i64)).toArray 3 (0, 0)) w0 wr v' (xs ++ ((l.take j).flatMap (be wd)).map byteV)) (fun i _ => l.length - (intOf i).toNat)
  case atStart => exact ⟨0, v, Nat.zero_le _, rfl, by simpa using H.out⟩
  case round =>
    obtain ⟨j, v', hj, rfl, hW⟩ := hrel
    by_cases hlt : j < l.length
    · have hc : wr.cell? ⟨lb, j, none⟩ = some (.int .i64 l[j]) := by
        simp [World.cell?, hW.2.2.1, List.getElem?_eq_getElem hlt]
      obtain ⟨a, ha⟩ : ∃ a, l[j] = a := ⟨_, rfl⟩
      rw [ha] at hc
      have HA := Lib.hid ha
      clear ha
      obtain ⟨ys, hys⟩ : ∃ ys, xs ++ ((l.take j).flatMap (be wd)).map byteV = ys := ⟨_, rfl⟩
      rw [hys] at hW
      have HY := Lib.hid hys
      have HW := Lib.hid hW
      clear hys hW
      obtain ⟨wo, hwo⟩ : ∃ wo : World, wo = wr := ⟨_, rfl⟩
      rw [← hwo] at hc HW ⊢
      clear hwo
      go_wp2
      go_loopw [8] (fun k wr => ∃ (c : Nat) (pre : List Int) (v' : Value), c ≤ wd ∧ k = .int .i64 ((c : Int) - 1) ∧ be wd a = pre ++ be c a ∧ WAt B p lb (.cells (l.map (Value.int .i64)).toArray 3 (0, 0)) w0 wr v' (ys ++ pre.map byteV)) (fun k _ => (intOf k + 1).toNat)
      case atStart => exact ⟨wd, [], _, Nat.le_refl _, rfl, rfl, by simpa using HW.out⟩
      case round =>
        obtain ⟨c, pre, v2, hcw, rfl, hpre, hW2⟩ := hrel
        have HP := Lib.hid hpre
        clear hpre
        rcases c with _ | q
        · have hbe : be wd a = pre := by have := HP.out; simpa [be] using this
          go_wp2
          go_roundw
          case rel => exact ⟨j + 1, _, by omega, by go_num, by
            have h1 := hW2
            rw [← hbe, ← HY.out, ← HA.out] at h1
            rw [List.take_succ_eq_append_getElem hlt]
            simp only [List.flatMap_append, List.flatMap_cons, List.flatMap_nil, List.append_nil, List.map_append, List.append_assoc] at h1 ⊢
            exact h1⟩
          case measure => simp [intOf]; omega
        · have eq : ((q + 1 : Nat) : Int) - 1 = (q : Int) := by omega
          rw [eq]
          clear eq
          have hp' : wr.cell? ⟨p, 0, none⟩ = some v2 := by simp [World.cell?, hW2.1]
          have hpf : wr.frozen? ⟨p, 0, none⟩ = false := by simp [World.frozen?, hW2.1]
          have hpa : ∀ o, (wr.alloc o).cell? ⟨p, 0, none⟩ = some v2 := fun o => by rw [World.cell?_alloc_lt _ _ _ (World.block_lt_of_cell? _ _ hp')]; exact hp'
          have HW2 := Lib.hid hW2
          clear hW2
          have hwr : IntKind.i64.wrap (8 * (q : Int)) = 8 * (q : Int) := IntWalk.i64_in _ (by omega)
          have h0 : 0 ≤ 8 * (q : Int) := by omega
          go_wp2
          obtain ⟨i0, hi, hz0, hz1, hz2⟩ := info_parts info_u8
          have hown := (HW2.out.2.1.alloc (.cells #[.int .u8 (IntKind.u8.wrap (a / 2 ^ (8 * (q : Int)).toNat))] 5)).drew
          have hnew : ∀ j u, [Value.int .u8 (IntKind.u8.wrap (a / 2 ^ (8 * (q : Int)).toNat))][j]? = some u → (wr.alloc (.cells #[.int .u8 (IntKind.u8.wrap (a / 2 ^ (8 * (q : Int)).toNat))] 5)).drew.cell? ((⟨wr.heap.size, 0, none⟩ : Addr).add j) = some u :=
            fun j u h => cell_one_new wr _ _ j u h
          have HO := Lib.hid hown
          have HN := Lib.hid hnew
          clear hown hnew
          have hle : (ys ++ pre.map byteV).length + 1 ≤ 1000016 := by
            have h1 := HY.out
            have h2 := congrArg List.length h1
            have h3 := congrArg List.length HP.out
            have h4 : wd * (l.take j).length ≤ 4 * 2 := Nat.mul_le_mul hw (by rw [List.length_take]; omega)
            simp only [List.length_append, List.length_map, flat_len, be_length] at h2 h3 ⊢
            omega
          have k3 : (ys ++ pre.map byteV).length + 1 ≤ maxLen := by unfold maxLen; omega
          have k4 : ((ys ++ pre.map byteV).length + 1) * 1 ≤ 140737488355328 := by omega
          have k5 : B ≤ (wr.alloc (.cells #[.int .u8 (IntKind.u8.wrap (a / 2 ^ (8 * (q : Int)).toNat))] 5)).drew.heap.size := by
            have h1 := (Array.getElem?_eq_some_iff.1 HW2.out.1).1
            simp; omega
          have K3 := Lib.hid k3
          have K4 := Lib.hid k4
          have K5 := Lib.hid k5
          clear k3 k4 k5 hle
          go_region_law (refine step_append_own rfl _ _ _ rfl B 5 i0 (.int .u8 0) 1 1 Tryz.underlying155 hi hz0 hz1 hz2 rfl (by decide) v2 _ _ rfl HO.out ⟨wr.heap.size, 0, none⟩ 1 1 _ rfl rfl HN.out (by simp [Value.oneCell']) K3.out K4.out K5.out ?_; intro v' w1 hown1 hgrow1 _; obtain ⟨ad', cp', rfl⟩ := ownsRow_sl hown1; obtain ⟨_, _, hc1, hf1⟩ := HW2.out.after hgrow1)
          all_goals
            have hb := be_byte a q
            go_wp2
            go_roundw
            case rel => exact ⟨q, pre ++ [a / 2 ^ (8 * q) % 256], _, by omega, by go_num, by rw [HP.out]; simp [be], by have := HW2.out.step hown1 hgrow1; rw [hb] at this; simpa using this⟩
            case measure => simp [intOf]
    · have hj' : j = l.length := by omega
      go_wp2
      go_end0
      exact ⟨rfl, v', by rw [hj', List.take_length] at hW; exact hW⟩
/-- The writer at p holds xs. -/
def W2 (B p : Nat) (w0 wr : World) (v : Value) (xs : List Value) : Prop :=
  wr.heap[p]? = some (.cells #[v] 155 (0, 0)) ∧ wr.ownsRow B 5 1 v xs.length xs ∧ Chg (SW B p) w0 wr
theorem W2.at {B p lb : Nat} {w0 w : World} {v : Value} {xs : List Value} {L : Obj} (h : W2 B p w0 w v xs) (hl : w.heap[lb]? = some L) : WAt B p lb L w0 w v xs := ⟨h.1, h.2.1, hl, h.2.2⟩
theorem WAt.two {B p lb : Nat} {w0 w : World} {v : Value} {xs : List Value} {L : Obj} (h : WAt B p lb L w0 w v xs) : W2 B p w0 w v xs := ⟨h.1, h.2.1, h.2.2.2⟩
theorem W2.alloc {B p : Nat} {w0 w : World} {v : Value} {xs : List Value} (h : W2 B p w0 w v xs) (o : Obj) : W2 B p w0 (w.alloc o) v xs := by
  have hp := (Array.getElem?_eq_some_iff.1 h.1).1
  exact ⟨by rw [Below.heap_alloc _ _ _ hp]; exact h.1, h.2.1.alloc o, h.2.2.alloc o⟩

theorem put_two (p lb : Nat) (v : Value) (xs : List Value) (wd : Nat) (wi : Int) (a b : Int) (B : Nat) (w0 w : World)
    (h : W2 B p w0 w v xs) (hl : w.heap[lb]? = some (.cells #[.int .i64 a, .int .i64 b] 3 (0, 0))) (hB : B ≤ p) (hwi : wi = wd) (hw : wd ≤ 4) (hx : xs.length ≤ 1000000) :
    Calls Tryz.prog 78 #[.pointer (some ⟨p, 0, none⟩), .int .i64 wi, .slice (some ⟨lb, 0, none⟩) 2 2] w fun e w' =>
      ∃ v', e = .returned (.tuple #[]) ∧ W2 B p w0 w' v' (xs ++ (be wd a ++ be wd b).map byteV) := by
  subst hwi
  exact (put_any p lb v xs wd [a, b] B w0 w (h.at hl) hB hw (by simp) hx).mono fun e w' ⟨he, v', h'⟩ => ⟨v', he, by have := h'.two; simpa using this⟩
theorem put_one (p lb : Nat) (v : Value) (xs : List Value) (wd : Nat) (wi : Int) (a : Int) (B : Nat) (w0 w : World)
    (h : W2 B p w0 w v xs) (hl : w.heap[lb]? = some (.cells #[.int .i64 a] 3 (0, 0))) (hB : B ≤ p) (hwi : wi = wd) (hw : wd ≤ 4) (hx : xs.length ≤ 1000000) :
    Calls Tryz.prog 78 #[.pointer (some ⟨p, 0, none⟩), .int .i64 wi, .slice (some ⟨lb, 0, none⟩) 1 1] w fun e w' =>
      ∃ v', e = .returned (.tuple #[]) ∧ W2 B p w0 w' v' (xs ++ (be wd a).map byteV) := by
  subst hwi
  exact (put_any p lb v xs wd [a] B w0 w (h.at hl) hB hw (by simp) hx).mono fun e w' ⟨he, v', h'⟩ => ⟨v', he, by have := h'.two; simpa using this⟩
end Go.Proofs.YtfngdplkcppabaaGreatDoor
