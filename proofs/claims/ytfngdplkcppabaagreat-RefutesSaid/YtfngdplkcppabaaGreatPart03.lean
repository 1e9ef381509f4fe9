/-
  writer.put appends the numbers' bytes, the high one first, to the writer's row.
  wire.Bytes: a message's bytes.
  reader.take reads a number of some bytes, the high one first, and goes on behind it.
  wire.Whole says whether a message is one.
-/
import Derived.Test.YtfngdplkcppabaaGreatPart02
import Derived.Deep.RegionLaw
import Derived.Maps.AppendAt
import Derived.Deep.DeepMust
set_option linter.all false
namespace Go.Proofs.YtfngdplkcppabaaGreat
open Go.RowKit

/-- The low c bytes of n, the high one first. -/
def be : Nat → Int → List Int
  | 0, _ => []
  | c + 1, n => n / 2 ^ (8 * c) % 256 :: be c n
theorem be_length (c : Nat) (n : Int) : (be c n).length = c := by induction c <;> simp [be, *]
theorem flat_len (wd : Nat) (l : List Int) : (l.flatMap (be wd)).length = wd * l.length := by
  induction l with
  | nil => simp
  | cons a l ih => rw [List.flatMap_cons, List.length_append, ih, be_length, List.length_cons, Nat.mul_succ]; omega
def byteV (b : Int) : Value := .int .u8 b

/-- What a writer's call may turn: its variable, and rows of bytes from B on. -/
def SW (B p : Nat) (k : Nat) (o : Obj) : Prop := k = p ∨ B ≤ k ∧ ∃ c f, o = .cells c 5 f
/-- The writer at p holds xs; the numbers lie in block lb. -/
def WAt (B p lb : Nat) (L : Obj) (w0 wr : World) (v : Value) (xs : List Value) : Prop :=
  wr.heap[p]? = some (.cells #[v] 99 (0, 0)) ∧ wr.ownsRow B 5 1 v xs.length xs ∧ wr.heap[lb]? = some L ∧ Chg (SW B p) w0 wr

theorem cells_ne {w : World} {b b' : Nat} {c c' : Array Value} {t t' : TypeId} {f f' : Nat × Nat} (h : w.heap[b]? = some (.cells c t f)) (h' : w.heap[b']? = some (.cells c' t' f')) (ht : t ≠ t') : b ≠ b' := by
  rintro rfl; rw [h] at h'; simp only [Option.some.injEq, Obj.cells.injEq] at h'; exact ht h'.2.1

theorem ownBlock_of {w : World} {B e s : Nat} {v : Value} {n : Nat} {xs : List Value} (h : w.ownsRow B e s v n xs) {b : Nat} {c : Array Value} {t : TypeId} {f : Nat × Nat}
    (hb : w.heap[b]? = some (.cells c t f)) (ht : t ≠ e) : v.ownBlock ≠ some b := by
  rcases h.2 with ⟨rfl, _⟩ | ⟨g, cap, cur, rfl, _, hg, _⟩
  · simp [Value.ownBlock]
  · simp only [Value.ownBlock, ne_eq, Option.some.injEq]
    exact cells_ne hg hb (fun e' => ht e'.symm)

theorem own_SW {w : World} {B p n : Nat} {v : Value} {xs : List Value} (h : w.ownsRow B 5 1 v n xs) {k : Nat} {o : Obj} (hk : v.ownBlock = some k) (ho : w.heap[k]? = some o) : SW B p k o := by
  rcases h.2 with ⟨rfl, _⟩ | ⟨g, cap, cur, rfl, hB, hg, _⟩
  · simp [Value.ownBlock] at hk
  · simp only [Value.ownBlock, Option.some.injEq] at hk
    subst hk
    rw [hg] at ho
    exact .inr ⟨hB, cur, _, (Option.some.inj ho).symm⟩
theorem ownsRow_sl {w : World} {B e s : Nat} {v : Value} {n : Nat} {xs : List Value} (h : w.ownsRow B e s v n xs) : ∃ a c, v = .slice a n c := by
  rcases h.2 with ⟨rfl, rfl⟩ | ⟨g, cap, cur, rfl, _⟩
  · exact ⟨_, _, rfl⟩
  · exact ⟨_, _, rfl⟩

theorem WAt.after {B p lb : Nat} {cs : Array Value} {w0 wr w1 : World} {v : Value} {xs : List Value} {o : Obj}
    (h : WAt B p lb (.cells cs 3 (0, 0)) w0 wr v xs) (hgr : (wr.alloc o).drew.grownBy w1 v.ownBlock) :
    w1.heap[p]? = some (.cells #[v] 99 (0, 0)) ∧ w1.heap[lb]? = some (.cells cs 3 (0, 0)) ∧ w1.cell? ⟨p, 0, none⟩ = some v ∧ w1.frozen? ⟨p, 0, none⟩ = false := by
  obtain ⟨h1, h2, h3, h4⟩ := h
  have hp := (Array.getElem?_eq_some_iff.1 h1).1
  have hl := (Array.getElem?_eq_some_iff.1 h3).1
  have e1 : w1.heap[p]? = some (.cells #[v] 99 (0, 0)) := by
    rw [hgr.block p (by simp; omega) (fun e => ownBlock_of h2 h1 (by decide) e.symm)]
    show (wr.alloc o).heap[p]? = _
    rw [Below.heap_alloc _ _ _ hp]; exact h1
  have e2 : w1.heap[lb]? = some (.cells cs 3 (0, 0)) := by
    rw [hgr.block lb (by simp; omega) (fun e => ownBlock_of h2 h3 (by decide) e.symm)]
    show (wr.alloc o).heap[lb]? = _
    rw [Below.heap_alloc _ _ _ hl]; exact h3
  exact ⟨e1, e2, by simp [World.cell?, e1], by simp [World.frozen?, e1]⟩

theorem WAt.step {B p lb : Nat} {cs : Array Value} {w0 wr w1 : World} {v v' : Value} {xs : List Value} {o : Obj} {b : Value}
    (h : WAt B p lb (.cells cs 3 (0, 0)) w0 wr v xs) (hown : w1.ownsRow B 5 1 v' (xs.length + 1) (xs ++ [b])) (hgr : (wr.alloc o).drew.grownBy w1 v.ownBlock) :
    WAt B p lb (.cells cs 3 (0, 0)) w0 (w1.setCell ⟨p, 0, none⟩ v') v' (xs ++ [b]) := by
  obtain ⟨e1, e2, _, _⟩ := h.after hgr
  obtain ⟨h1, h2, h3, h4⟩ := h
  have hne : lb ≠ p := cells_ne h3 h1 (by decide)
  refine ⟨?_, ?_, ?_, ?_⟩
  · have := heap_setCell_same w1 p 0 #[v] 99 v' e1
    simpa using this
  · refine World.ownsRow.kept (w := w1) (row := some p) (by simpa using hown) ⟨rfl, rfl, rfl, by simp, fun k _ hk => heap_setCell_other w1 ⟨p, 0, none⟩ k v' (fun e => hk (by simp [e]))⟩ (.inr (ownBlock_of hown e1 (by decide)))
  · rw [heap_setCell_other w1 ⟨p, 0, none⟩ lb v' hne]; exact e2
  · refine Chg.setCell ?_ v' (fun o _ => .inl rfl)
    exact Chg.grown (h4.alloc o).drew hgr (fun k o' hk ho => own_SW (h2.alloc o).drew hk ho)

theorem be_byte (a : Int) (q : Nat) : Value.int .u8 (IntKind.u8.wrap (a / 2 ^ (8 * (q : Int)).toNat)) = byteV (a / 2 ^ (8 * q) % 256) := by
  have : (8 * (q : Int)).toNat = 8 * q := by omega
  rw [this]; simp [byteV, IntKind.wrap, IntKind.bits, IntKind.signed]

theorem info_u8 : (Tryz.prog.info? 5).map (fun i => (i.zero, i.size, i.bytes)) = some (some (.int .u8 0), 1, 1) := by kernel_rfl

theorem put_any (p lb : Nat) (v : Value) (xs : List Value) (wd : Nat) (l : List Int) (B : Nat) (w0 w : World)
    (h : WAt B p lb (.cells (l.map (Value.int .i64)).toArray 3 (0, 0)) w0 w v xs) (hB : B ≤ p) (hw : wd ≤ 4) (hl : l.length ≤ 2) (hx : xs.length ≤ 1000000) :
    Calls Tryz.prog 39 #[.pointer (some ⟨p, 0, none⟩), .int .i64 wd, .slice (some ⟨lb, 0, none⟩) l.length l.length] w fun e w' =>
      e = .returned (.tuple #[]) ∧ ∃ v', WAt B p lb (.cells (l.map (Value.int .i64)).toArray 3 (0, 0)) w0 w' v' (xs ++ (l.flatMap (be wd)).map byteV) := by
  have H := Lib.hid h
  clear h
  go_enter Tryz.func39, Tryz.ntmps39
  go_wp2
  go_loopw [11] (fun i wr => ∃ (j : Nat) (v' : Value), j ≤ l.length ∧ i = .int .i64 j ∧ WAt B p lb (.cells (l.map (Value.int .i64)).toArray 3 (0, 0)) w0 wr v' (xs ++ ((l.take j).flatMap (be wd)).map byteV)) (fun i _ => l.length - (intOf i).toNat)
  case atStart => exact ⟨0, v, Nat.zero_le _, rfl, by simpa using H.out⟩
  case round =>
    obtain ⟨j, v', hj, rfl, hW⟩ := hrel
    by_cases hlt : j < l.length
    · have hc : wr.cell? ⟨lb, j, none⟩ = some (.int .i64 l[j]) := by
        simp [World.cell?, hW.2.2.1, List.getElem?_eq_getElem hlt]
      obtain ⟨a, ha⟩ : ∃ a, l[j] = a := ⟨_, rfl⟩
      rw [ha] at hc
      have HA := Lib.hid ha
      clear ha
      obtain ⟨ys, hys⟩ : ∃ ys, xs ++ ((l.take j).flatMap (be wd)).map byteV = ys := ⟨_, rfl⟩
      rw [hys] at hW
      have HY := Lib.hid hys
      have HW := Lib.hid hW
      clear hys hW
      obtain ⟨wo, hwo⟩ : ∃ wo : World, wo = wr := ⟨_, rfl⟩
      rw [← hwo] at hc HW ⊢
      clear hwo
      go_wp2
      go_loopw [8] (fun k wr => ∃ (c : Nat) (pre : List Int) (v' : Value), c ≤ wd ∧ k = .int .i64 ((c : Int) - 1) ∧ be wd a = pre ++ be c a ∧ WAt B p lb (.cells (l.map (Value.int .i64)).toArray 3 (0, 0)) w0 wr v' (ys ++ pre.map byteV)) (fun k _ => (intOf k + 1).toNat)
      case atStart => exact ⟨wd, [], _, Nat.le_refl _, rfl, rfl, by simpa using HW.out⟩
      case round =>
        obtain ⟨c, pre, v2, hcw, rfl, hpre, hW2⟩ := hrel
        have HP := Lib.hid hpre
        clear hpre
        rcases c with _ | q
        · have hbe : be wd a = pre := by have := HP.out; simpa [be] using this
          go_wp2
          go_roundw
          case rel => exact ⟨j + 1, _, by omega, by go_num, by
            have h1 := hW2
            rw [← hbe, ← HY.out, ← HA.out] at h1
            rw [List.take_succ_eq_append_getElem hlt]
            simp only [List.flatMap_append, List.flatMap_cons, List.flatMap_nil, List.append_nil, List.map_append, List.append_assoc] at h1 ⊢
            exact h1⟩
          case measure => simp [intOf]; omega
        · have eq : ((q + 1 : Nat) : Int) - 1 = (q : Int) := by omega
          rw [eq]
          clear eq
          have hp' : wr.cell? ⟨p, 0, none⟩ = some v2 := by simp [World.cell?, hW2.1]
          have hpf : wr.frozen? ⟨p, 0, none⟩ = false := by simp [World.frozen?, hW2.1]
          have hpa : ∀ o, (wr.alloc o).cell? ⟨p, 0, none⟩ = some v2 := fun o => by rw [World.cell?_alloc_lt _ _ _ (World.block_lt_of_cell? _ _ hp')]; exact hp'
          have HW2 := Lib.hid hW2
          clear hW2
          have hwr : IntKind.i64.wrap (8 * (q : Int)) = 8 * (q : Int) := IntWalk.i64_in _ (by omega)
          have h0 : 0 ≤ 8 * (q : Int) := by omega
          go_wp2
          obtain ⟨i0, hi, hz0, hz1, hz2⟩ := info_parts info_u8
          have hown := (HW2.out.2.1.alloc (.cells #[.int .u8 (IntKind.u8.wrap (a / 2 ^ (8 * (q : Int)).toNat))] 5)).drew
          have hnew : ∀ j u, [Value.int .u8 (IntKind.u8.wrap (a / 2 ^ (8 * (q : Int)).toNat))][j]? = some u → (wr.alloc (.cells #[.int .u8 (IntKind.u8.wrap (a / 2 ^ (8 * (q : Int)).toNat))] 5)).drew.cell? ((⟨wr.heap.size, 0, none⟩ : Addr).add j) = some u :=
            fun j u h => cell_one_new wr _ _ j u h
          have HO := Lib.hid hown
          have HN := Lib.hid hnew
          clear hown hnew
          have hle : (ys ++ pre.map byteV).length + 1 ≤ 1000016 := by
            have h1 := HY.out
            have h2 := congrArg List.length h1
            have h3 := congrArg List.length HP.out
            have h4 : wd * (l.take j).length ≤ 4 * 2 := Nat.mul_le_mul hw (by rw [List.length_take]; omega)
            simp only [List.length_append, List.length_map, flat_len, be_length] at h2 h3 ⊢
            omega
          have k3 : (ys ++ pre.map byteV).length + 1 ≤ maxLen := by unfold maxLen; omega
          have k4 : ((ys ++ pre.map byteV).length + 1) * 1 ≤ 140737488355328 := by omega
          have k5 : B ≤ (wr.alloc (.cells #[.int .u8 (IntKind.u8.wrap (a / 2 ^ (8 * (q : Int)).toNat))] 5)).drew.heap.size := by
            have h1 := (Array.getElem?_eq_some_iff.1 HW2.out.1).1
            simp; omega
          have K3 := Lib.hid k3
          have K4 := Lib.hid k4
          have K5 := Lib.hid k5
          clear k3 k4 k5 hle
          go_region_law (refine step_append_own rfl _ _ _ rfl B 5 i0 (.int .u8 0) 1 1 Tryz.underlying99 hi hz0 hz1 hz2 rfl (by decide) v2 _ _ rfl HO.out ⟨wr.heap.size, 0, none⟩ 1 1 _ rfl rfl HN.out (by simp [Value.oneCell']) K3.out K4.out K5.out ?_; intro v' w1 hown1 hgrow1 _; obtain ⟨ad', cp', rfl⟩ := ownsRow_sl hown1; obtain ⟨_, _, hc1, hf1⟩ := HW2.out.after hgrow1)
          all_goals
            have hb := be_byte a q
            go_wp2
            go_roundw
            case rel => exact ⟨q, pre ++ [a / 2 ^ (8 * q) % 256], _, by omega, by go_num, by rw [HP.out]; simp [be], by have := HW2.out.step hown1 hgrow1; rw [hb] at this; simpa using this⟩
            case measure => simp [intOf]
    · have hj' : j = l.length := by omega
      go_wp2
      go_end0
      exact ⟨rfl, v', by rw [hj', List.take_length] at hW; exact hW⟩
/-- The writer at p holds xs. -/
def W2 (B p : Nat) (w0 wr : World) (v : Value) (xs : List Value) : Prop :=
  wr.heap[p]? = some (.cells #[v] 99 (0, 0)) ∧ wr.ownsRow B 5 1 v xs.length xs ∧ Chg (SW B p) w0 wr
theorem W2.at {B p lb : Nat} {w0 w : World} {v : Value} {xs : List Value} {L : Obj} (h : W2 B p w0 w v xs) (hl : w.heap[lb]? = some L) : WAt B p lb L w0 w v xs := ⟨h.1, h.2.1, hl, h.2.2⟩
theorem WAt.two {B p lb : Nat} {w0 w : World} {v : Value} {xs : List Value} {L : Obj} (h : WAt B p lb L w0 w v xs) : W2 B p w0 w v xs := ⟨h.1, h.2.1, h.2.2.2⟩
theorem W2.alloc {B p : Nat} {w0 w : World} {v : Value} {xs : List Value} (h : W2 B p w0 w v xs) (o : Obj) : W2 B p w0 (w.alloc o) v xs := by
  have hp := (Array.getElem?_eq_some_iff.1 h.1).1
  exact ⟨by rw [Below.heap_alloc _ _ _ hp]; exact h.1, h.2.1.alloc o, h.2.2.alloc o⟩

theorem put_two (p lb : Nat) (v : Value) (xs : List Value) (wd : Nat) (wi : Int) (a b : Int) (B : Nat) (w0 w : World)
    (h : W2 B p w0 w v xs) (hl : w.heap[lb]? = some (.cells #[.int .i64 a, .int .i64 b] 3 (0, 0))) (hB : B ≤ p) (hwi : wi = wd) (hw : wd ≤ 4) (hx : xs.length ≤ 1000000) :
    Calls Tryz.prog 39 #[.pointer (some ⟨p, 0, none⟩), .int .i64 wi, .slice (some ⟨lb, 0, none⟩) 2 2] w fun e w' =>
      ∃ v', e = .returned (.tuple #[]) ∧ W2 B p w0 w' v' (xs ++ (be wd a ++ be wd b).map byteV) := by
  subst hwi
  exact (put_any p lb v xs wd [a, b] B w0 w (h.at hl) hB hw (by simp) hx).mono fun e w' ⟨he, v', h'⟩ => ⟨v', he, by have := h'.two; simpa using this⟩
theorem put_one (p lb : Nat) (v : Value) (xs : List Value) (wd : Nat) (wi : Int) (a : Int) (B : Nat) (w0 w : World)
    (h : W2 B p w0 w v xs) (hl : w.heap[lb]? = some (.cells #[.int .i64 a] 3 (0, 0))) (hB : B ≤ p) (hwi : wi = wd) (hw : wd ≤ 4) (hx : xs.length ≤ 1000000) :
    Calls Tryz.prog 39 #[.pointer (some ⟨p, 0, none⟩), .int .i64 wi, .slice (some ⟨lb, 0, none⟩) 1 1] w fun e w' =>
      ∃ v', e = .returned (.tuple #[]) ∧ W2 B p w0 w' v' (xs ++ (be wd a).map byteV) := by
  subst hwi
  exact (put_any p lb v xs wd [a] B w0 w (h.at hl) hB hw (by simp) hx).mono fun e w' ⟨he, v', h'⟩ => ⟨v', he, by have := h'.two; simpa using this⟩
end Go.Proofs.YtfngdplkcppabaaGreat
namespace Go.Proofs.YtfngdplkcppabaaGreat
open Go.RowKit

/-- A key's bytes. -/
def keyBytes (k : K) : List Int := be 1 k.id ++ be 4 k.inc ++ be 1 k.st
/-- The bytes ahead of the updates. -/
def headBytes (kind frm inc seq tgt n : Int) : List Int := be 1 kind ++ be 1 frm ++ (be 4 inc ++ be 4 seq) ++ (be 1 tgt ++ be 1 n)
/-- A message's bytes. -/
def msgBytes (m : M) : List Int := headBytes m.kind m.frm m.inc m.seq m.tgt m.ups.length ++ m.ups.flatMap keyBytes

/-- The box of a message by value, and what stays of it. -/
theorem box_stays {B p : Nat} {w w' : World} {cs : Array Value} {t : TypeId} (h : Chg (SW B p) (w.alloc (.cells cs t)) w') (hp : w.heap.size ≠ p) (ht : t ≠ 5) (k : Nat) : w'.cell? ⟨w.heap.size, k, none⟩ = cs[k]? :=
  cells_at (h.kept _ _ (heap_alloc_new w _) (by
    rintro (e | ⟨_, c, f, e⟩)
    · exact hp e
    · simp only [Obj.cells.injEq] at e; exact ht e.2.1)) k
theorem W2.root {B p : Nat} {w0 w : World} {v : Value} {xs : List Value} (h : W2 B p w0 w v xs) : W2 B p w w v xs := ⟨h.1, h.2.1, Chg.refl _ _⟩
theorem W2.onto {B p : Nat} {w0 w1 w : World} {v : Value} {xs : List Value} (h : W2 B p w1 w v xs) (h' : Chg (SW B p) w0 w1) : W2 B p w0 w v xs := ⟨h.1, h.2.1, h'.trans h.2.2⟩

theorem keyBytes_length (l : List K) : (l.flatMap keyBytes).length = 6 * l.length := by
  induction l with
  | nil => simp
  | cons a l ih => rw [List.flatMap_cons, List.length_append, ih]; simp [keyBytes, be]; omega
theorem W2.intro {B p : Nat} {w0 w : World} {v : Value} (hp : w.heap[p]? = some (.cells #[v] 99 (0, 0))) (ho : w.ownsRow B 5 1 v 0 []) (hb : Chg (SW B p) w0 w) : W2 B p w0 w v [] := ⟨hp, ho, hb⟩

theorem convert_own {B n : Nat} {w : World} {v : Value} {bs : List Int} (h : w.ownsRow B 5 1 v n (bs.map byteV)) :
    ∀ dst, Tryz.prog.underlying dst = some .string → (convert 99 dst v).run Tryz.prog w = .ok (.string (strOfNums bs)) w := by
  intro dst hd
  rcases h.2 with ⟨rfl, rfl⟩ | ⟨g, cap, cur, rfl, hg⟩
  · have : bs = [] := by have := h.1; simpa using this
    subst this
    exact run_convert_bytes_nil w _ 5 Tryz.underlying99 Tryz.underlying5 _ _ dst hd
  · refine run_convert_bytes_arg w _ 5 Tryz.underlying99 Tryz.underlying5 g 0 n cap bs (by have := h.1; simpa using this) (fun i hi => ?_) dst hd
    rw [Nat.zero_add, h.cellAt i (by omega)]
    have hi' : i < bs.length := by have := h.1; simp at this; omega
    simp [byteV, List.getD, hi']

set_option maxHeartbeats 1000000 in
theorem bytes_any (kind frm inc seq tgt : Int) (l : List K) (a : Option Addr) (cap : Nat) (w : World) (hl : l.length ≤ 8) (hk : KeysAt w a l) :
    Calls Tryz.prog 22 #[.agg #[.int .i64 kind, .int .i64 frm, .int .i64 inc, .int .i64 seq, .int .i64 tgt, .slice a l.length cap]] w fun e w' =>
      e = .returned (.string (strOfNums (msgBytes ⟨kind, frm, inc, seq, tgt, l⟩))) ∧ Below w.heap.size w w' := by
  have HK := Lib.hid hk
  clear hk
  obtain ⟨i0, hi, hz0, hz1, hz2⟩ := info_parts info_u8
  go_enter Tryz.func22, Tryz.ntmps22
  go_wp2_with (first | (at_make; refine wpList_make_own _ rfl _ _ 99 rfl (w.heap.size + 1) 5 i0 (.int .u8 0) 1 Tryz.underlying99 hi hz0 hz1 .i64 .i64 _ (12 + 6 * l.length) rfl rfl (by omega) (by rw [hz2]; omega) (by unfold maxLen; omega) (by simp) ?_))
  intro w1 hown1 hgrow1
  have hs1 := hgrow1.size
  rw [World.size_alloc] at hs1
  have hC1 : Chg (SW (w.heap.size + 1) w1.heap.size) _ w1 := (Chg.refl _ _).grown hgrow1 (fun k o h _ => by cases h)
  have hne : w.heap.size ≠ w1.heap.size := by omega
  have hW1 := W2.intro (p := w1.heap.size) (heap_new w1 (.cells #[_] 99) rfl) (hown1.alloc _) (hC1.alloc _)
  have hb1 := box_stays hW1.2.2 hne (by decide)
  have HW1 := Lib.hid hW1
  clear hW1 hown1 hgrow1 hC1
  go_wp2_with fail
  refine (put_two _ _ _ [] 1 _ _ _ _ _ _ (HW1.out.alloc _) (heap_new _ _ (by simp)) hs1 rfl (by omega) (by simp)).mono ?_
  rintro e w2 ⟨v2, rfl, hW2⟩
  have hb2 := box_stays hW2.2.2 hne (by decide)
  have HW2 := Lib.hid hW2
  clear hW2 hb1
  go_wp2_with fail
  refine (put_two _ _ _ _ 4 _ _ _ _ _ _ (HW2.out.alloc _) (heap_new _ _ rfl) hs1 rfl (by omega) (by simp [be])).mono ?_
  rintro e w3 ⟨v3, rfl, hW3⟩
  have hb3 := box_stays hW3.2.2 hne (by decide)
  have HW3 := Lib.hid hW3
  clear hW3 hb2
  go_wp2_with fail
  refine (put_two _ _ _ _ 1 _ _ _ _ _ _ (HW3.out.alloc _) (heap_new _ _ rfl) hs1 rfl (by omega) (by simp [be])).mono ?_
  rintro e w4 ⟨v4, rfl, hW4⟩
  have hb4 := box_stays hW4.2.2 hne (by decide)
  have HW4 := Lib.hid hW4
  clear hW4 hb3 HW1 HW2 HW3
  obtain ⟨wb, hwb⟩ : ∃ wb, wb = w.alloc (.cells #[.int .i64 kind, .int .i64 frm, .int .i64 inc, .int .i64 seq, .int .i64 tgt, .slice a l.length cap] 29) := ⟨_, rfl⟩
  rw [← hwb] at HW4
  have HWB := Lib.hid hwb
  clear hwb
  go_wp2_with fail
  go_loopw [34] (fun i wr => ∃ (k : Nat) (v : Value), k ≤ l.length ∧ i = .int .i64 k ∧ W2 (w.heap.size + 1) w1.heap.size wb wr v ((headBytes kind frm inc seq tgt l.length ++ (l.take k).flatMap keyBytes).map byteV)) (fun i _ => l.length - (intOf i).toNat)
  case atStart => exact ⟨0, _, Nat.zero_le _, rfl, by have := HW4.out; simpa [headBytes] using this⟩
  case round =>
    obtain ⟨k, v, hkl, rfl, hW⟩ := hrel
    have hBel : Below (w.heap.size + 1) wb wr := hW.2.2.below (by rw [HWB.out]; simp) (fun k o h => h.elim (fun e => by omega) (fun e => e.1))
    by_cases hlt : k < l.length
    · obtain ⟨b, off, rfl, hbl, c0, c1, c2⟩ := HK.out k l[k] (List.getElem?_eq_getElem hlt)
      have hbw : ∀ j, wr.cell? ⟨b, j, none⟩ = w.cell? ⟨b, j, none⟩ := fun j => by
        rw [hBel.cell (show b < w.heap.size + 1 by omega), HWB.out, World.cell?_alloc_lt _ _ _ hbl]
      rw [← hbw] at c0 c1 c2
      clear hbw
      have hwr : wr.heap.size ≠ w1.heap.size := by have := heap_lt hW.1; omega
      have HW := Lib.hid hW
      clear hW
      go_wp2_with fail
      have hlen : ((headBytes kind frm inc seq tgt l.length ++ (l.take k).flatMap keyBytes).map byteV).length ≤ 100 := by
        rw [List.length_map, List.length_append, keyBytes_length, List.length_take]
        have : (headBytes kind frm inc seq tgt l.length).length = 12 := by simp [headBytes, be]
        omega
      refine (put_one _ _ _ _ 1 _ _ _ _ _ ((HW.out.root.alloc (.cells #[.int .i64 l[k].id, .int .i64 l[k].inc, .int .i64 l[k].st] 31)).root.alloc _) (heap_new _ _ (by simp)) hs1 rfl (by omega) (by omega)).mono ?_
      rintro e w5 ⟨v5, rfl, hW5⟩
      have hu5 := box_stays hW5.2.2 hwr (by decide)
      have HW5 := Lib.hid hW5
      clear hW5
      go_wp2_with fail
      refine (put_one _ _ _ _ 4 _ _ _ _ _ (HW5.out.alloc _) (heap_new _ _ rfl) hs1 rfl (by omega) (by simp [be] at hlen ⊢; omega)).mono ?_
      rintro e w6 ⟨v6, rfl, hW6⟩
      have hu6 := box_stays hW6.2.2 hwr (by decide)
      have HW6 := Lib.hid hW6
      clear hW6 hu5
      go_wp2_with fail
      refine (put_one _ _ _ _ 1 _ _ _ _ _ (HW6.out.alloc _) (heap_new _ _ rfl) hs1 rfl (by omega) (by simp [be] at hlen ⊢; omega)).mono ?_
      rintro e w7 ⟨v7, rfl, hW7⟩
      have HW7 := Lib.hid hW7
      clear hW7 hu6
      go_wp2_with fail
      go_roundw
      case rel => exact ⟨k + 1, v7, by omega, by go_num, by
        have h := HW7.out.onto (HW.out.2.2.alloc _)
        rw [List.take_succ_eq_append_getElem hlt]
        simp only [List.flatMap_append, List.flatMap_cons, List.flatMap_nil, List.append_nil, List.map_append, List.append_assoc, keyBytes] at h ⊢
        exact h⟩
      case measure => simp [intOf]; omega
    · have hk' : k = l.length := by omega
      subst hk'
      rw [List.take_length] at hW
      have hp := cells_at hW.1 0
      have hcv := convert_own hW.2.1
      go_wp2
      go_ret
      exact ⟨rfl, below_of_alloc (by rw [HWB.out] at hBel; exact hBel.mono (by omega))⟩
end Go.Proofs.YtfngdplkcppabaaGreat
namespace Go.Proofs.YtfngdplkcppabaaGreat
open Go.RowKit

/-- The number of some bytes, the high one first. -/
def numL (l : List UInt8) : Int := l.foldl (fun n b => n * 256 + b.toNat) 0

theorem numL_snoc (l : List UInt8) (b : UInt8) : numL (l ++ [b]) = numL l * 256 + b.toNat := by simp [numL]
theorem numL_go (l : List UInt8) : ∀ n : Int, 0 ≤ n → 0 ≤ l.foldl (fun n b => n * 256 + (b.toNat : Int)) n ∧ l.foldl (fun n b => n * 256 + (b.toNat : Int)) n < (n + 1) * 256 ^ l.length := by
  induction l with
  | nil => intro n h; simp; omega
  | cons b l ih =>
    intro n h
    have hb := b.toNat_lt
    have h' := ih (n * 256 + (b.toNat : Int)) (by omega)
    rw [List.foldl_cons, List.length_cons, Int.pow_succ]
    have hp : (0 : Int) ≤ 256 ^ l.length := Int.pow_nonneg (by omega)
    have hm : (n * 256 + (b.toNat : Int) + 1) * 256 ^ l.length ≤ ((n + 1) * 256) * 256 ^ l.length := Int.mul_le_mul_of_nonneg_right (by omega) hp
    have e : (n + 1) * (256 ^ l.length * 256) = ((n + 1) * 256) * 256 ^ l.length := by rw [Int.mul_assoc, Int.mul_comm (256 ^ l.length) 256]
    omega
theorem numL_bd (l : List UInt8) : 0 ≤ numL l ∧ numL l < 256 ^ l.length := by
  have := numL_go l 0 (by omega)
  simpa [numL] using this
theorem numL_small (l : List UInt8) (h : l.length ≤ 3) : 0 ≤ numL l ∧ numL l < 16777216 := by
  have hb := numL_bd l
  have : l.length = 0 ∨ l.length = 1 ∨ l.length = 2 ∨ l.length = 3 := by omega
  rcases this with e | e | e | e <;> rw [e] at hb <;> simp at hb <;> omega
theorem take_snocB (s : ByteArray) (k : Nat) (h : k < s.size) : s.data.toList.take (k + 1) = s.data.toList.take k ++ [s[k]] := by
  rw [List.take_succ_eq_append_getElem (by simpa using h)]; rfl
theorem or_byte (n : Int) (b : UInt8) (h0 : 0 ≤ n) (h1 : n < 16777216) : bits .or .i64 (wrap64 (n * 256)) (wrap64 (b.toNat : Int)) = n * 256 + b.toNat := by
  have hb := b.toNat_lt
  rw [IntWalk.wrap64_in (n * 256) ⟨by omega, by omega⟩, IntWalk.wrap64_in (b.toNat : Int) ⟨by omega, by omega⟩]
  exact bits_join .i64 40 (by decide) (fun m h₀ h₁ => IntWalk.i64_in m (by omega)) 8 (n * 256) b.toNat (by omega) (by omega) (by omega) (by omega) (by omega) (by omega)

theorem take_any (p wd : Nat) (s : ByteArray) (wi : Int) (w : World) (hp : w.cell? ⟨p, 0, none⟩ = some (.string s)) (hf : w.frozen? ⟨p, 0, none⟩ = false)
    (hwi : wi = wd) (hw : wd ≤ 4) (hs : wd ≤ s.size) (hss : s.size ≤ 100000) :
    Calls Tryz.prog 40 #[.pointer (some ⟨p, 0, none⟩), .int .i64 wi] w fun e w' =>
      e = .returned (.int .i64 (numL (s.data.toList.take wd))) ∧ w.setCell ⟨p, 0, none⟩ (.string (s.extract wd s.size)) = w' := by
  subst hwi
  go_enter Tryz.func40, Tryz.ntmps40
  go_wp2
  go_loop [5, 8] (fun n i => ∃ k : Nat, k ≤ wd ∧ i = .int .i64 k ∧ n = .int .i64 (numL (s.data.toList.take k))) (fun _ i => wd - (intOf i).toNat)
  case atStart => exact ⟨0, Nat.zero_le _, rfl, rfl⟩
  case round =>
    obtain ⟨k, hk, rfl, rfl⟩ := hrel
    by_cases hlt : k < wd
    · have hks : k < s.size := by omega
      obtain ⟨n, hn⟩ : ∃ n, numL (s.data.toList.take k) = n := ⟨_, rfl⟩
      have hbd := numL_small (s.data.toList.take k) (by rw [List.length_take]; omega)
      rw [hn] at hbd ⊢
      have HN := Lib.hid hn
      have HB := Lib.hid hbd
      clear hn hbd
      go_wp2
      go_round
      case rel => exact ⟨k + 1, by omega, by go_num, by
        obtain ⟨h0, h1⟩ := HB.out
        rw [take_snocB s k hks, numL_snoc, HN.out, or_byte n s[k] h0 (by omega)]⟩
      case measure => simp [intOf]; omega
    · have hk' : k = wd := by omega
      go_wp2
      go_ret
      exact ⟨rfl, rfl⟩
end Go.Proofs.YtfngdplkcppabaaGreat
namespace Go.Proofs.YtfngdplkcppabaaGreat
open Go.RowKit

theorem roomI_cases (k : Int) : roomI k = 4 ∨ roomI k = 8 ∨ roomI k = -1 := by
  unfold roomI; split
  · exact .inl rfl
  · split
    · exact .inr (.inl rfl)
    · exact .inr (.inr rfl)

theorem wholeB_false {m : M} (h : tgtB m.kind m.tgt = false ∨ (m.ups.length : Int) > roomI m.kind ∨ withinB m.frm 1 250 = false ∨ withinB m.inc 1 1073741824 = false ∨ withinB m.seq 0 4294967295 = false ∨ m.ups.all keyB = false) : wholeB m = false := by
  unfold wholeB
  rcases h with h | h | h | h | h | h <;> simp [h]
theorem wholeB_true {m : M} (h1 : tgtB m.kind m.tgt = true) (h2 : ¬ (m.ups.length : Int) > roomI m.kind) (h3 : withinB m.frm 1 250 = true) (h4 : withinB m.inc 1 1073741824 = true) (h5 : withinB m.seq 0 4294967295 = true) (h6 : m.ups.all keyB = true) : wholeB m = true := by
  unfold wholeB
  simp only [h1, h3, h4, h5, h6, h2]; simp

/-- The ways through the head's tests. -/
theorem six (t f i s : Bool) (n r : Int) : t = false ∨ (t = true ∧ r < n) ∨ (t = true ∧ ¬ r < n ∧ f = false) ∨ (t = true ∧ ¬ r < n ∧ f = true ∧ i = false) ∨ (t = true ∧ ¬ r < n ∧ f = true ∧ i = true ∧ s = false) ∨ (t = true ∧ ¬ r < n ∧ f = true ∧ i = true ∧ s = true) := by
  by_cases h : r < n <;> cases t <;> cases f <;> cases i <;> cases s <;> simp [h]

theorem all_take_succ {l : List K} {k : Nat} (h : k < l.length) : (l.take (k + 1)).all keyB = ((l.take k).all keyB && keyB l[k]) := by
  rw [List.take_succ_eq_append_getElem h, List.all_append]; simp

theorem all_keyB_false {l : List K} {k : Nat} (h : k < l.length) (hk : keyB l[k] = false) : l.all keyB = false := by
  rw [List.all_eq_false]; exact ⟨l[k], List.getElem_mem h, by simp [hk]⟩
theorem tgtB_eq {kind tgt r : Int} (h : roomI kind = r) : tgtB kind tgt = if r = 8 then (tgt == 0) else withinB tgt 1 250 := by
  rw [tgtB, h]

set_option maxHeartbeats 1000000 in
/-- Where the head's tests fail: false. -/
theorem whole_no (kind frm inc seq tgt : Int) (l : List K) (a : Option Addr) (cap : Nat) (w : World) (hl : l.length ≤ 9223372036854775807)
    (hno : tgtB kind tgt = false ∨ roomI kind < (l.length : Int) ∨ withinB frm 1 250 = false ∨ withinB inc 1 1073741824 = false ∨ withinB seq 0 4294967295 = false) :
    Calls Tryz.prog 21 #[.agg #[.int .i64 kind, .int .i64 frm, .int .i64 inc, .int .i64 seq, .int .i64 tgt, .slice a l.length cap]] w fun e w' =>
      e = .returned (.bool false) ∧ Below w.heap.size w w' := by
  have h6 := six (tgtB kind tgt) (withinB frm 1 250) (withinB inc 1 1073741824) (withinB seq 0 4294967295) l.length (roomI kind)
  rcases roomI_cases kind with hr | hr | hr
  all_goals
    rw [tgtB_eq hr, hr] at h6 hno
    simp only [Int.reduceEq, if_true, if_false] at h6 hno
    rcases h6 with h1 | ⟨h1, h2⟩ | ⟨h1, h2, h3⟩ | ⟨h1, h2, h3, h4⟩ | ⟨h1, h2, h3, h4, h5⟩ | ⟨h1, h2, h3, h4, h5⟩
  all_goals try (exfalso; rcases hno with h | h | h | h | h <;> first | omega | (simp_all; done))
  all_goals
    clear hno
    go_enter Tryz.func21, Tryz.ntmps21
    go_wp2_with (first | (go_at_call 38; refine (within_any _ _ _ _).mono ?_; rintro e w' ⟨rfl, rfl⟩) | (go_at_call 37; refine (room_any _ _).mono ?_; rintro e w' ⟨rfl, rfl⟩))
    go_ret
    exact ⟨rfl, (Below.refl _ _).alloc (Nat.le_refl _) _⟩

set_option maxHeartbeats 1000000 in
/-- Where the head's tests hold: whether each update is a key. -/
theorem whole_yes (kind frm inc seq tgt : Int) (l : List K) (a : Option Addr) (cap : Nat) (w : World) (hl : l.length ≤ 9223372036854775807) (hk : KeysAt w a l)
    (h1 : tgtB kind tgt = true) (h2 : ¬ roomI kind < (l.length : Int)) (h3 : withinB frm 1 250 = true) (h4 : withinB inc 1 1073741824 = true) (h5 : withinB seq 0 4294967295 = true) :
    Calls Tryz.prog 21 #[.agg #[.int .i64 kind, .int .i64 frm, .int .i64 inc, .int .i64 seq, .int .i64 tgt, .slice a l.length cap]] w fun e w' =>
      e = .returned (.bool (l.all keyB)) ∧ Below w.heap.size w w' := by
  have HK := Lib.hid hk
  clear hk
  rcases roomI_cases kind with hr | hr | hr
  case inr.inr => omega
  all_goals
    rw [tgtB_eq hr] at h1
    rw [hr] at h2
    simp only [Int.reduceEq, if_true, if_false] at h1
    go_enter Tryz.func21, Tryz.ntmps21
    go_wp2_with (first | (go_at_call 38; refine (within_any _ _ _ _).mono ?_; rintro e w' ⟨rfl, rfl⟩) | (go_at_call 37; refine (room_any _ _).mono ?_; rintro e w' ⟨rfl, rfl⟩))
    go_loopw [48] (fun i wr => ∃ k : Nat, k ≤ l.length ∧ i = .int .i64 k ∧ (l.take k).all keyB = true ∧ Below w.heap.size w wr) (fun i _ => l.length - (intOf i).toNat)
    case atStart => exact ⟨0, Nat.zero_le _, rfl, rfl, (Below.refl _ _).alloc (Nat.le_refl _) _⟩
    case round =>
      obtain ⟨k, hkl, rfl, hall, hb⟩ := hrel
      have HA := Lib.hid hall
      clear hall
      by_cases hlt : k < l.length
      · obtain ⟨b, off, rfl, hbl, c0, c1, c2⟩ := HK.out k l[k] (List.getElem?_eq_getElem hlt)
        have hsz := hb.size
        rw [← hb.cell hbl] at c0 c1 c2
        go_wp2_with (first | (go_at_call 38; refine (within_any _ _ _ _).mono ?_; rintro e w' ⟨rfl, rfl⟩))
        case roundEnd =>
          have hkk : keyB l[k] = true := by simp_all [keyB]
          refine ⟨⟨k + 1, by omega, by go_num, by rw [all_take_succ hlt, HA.out, hkk]; rfl, hb.alloc hsz _⟩, by simp [intOf]; omega⟩
        all_goals
          have hkk : keyB l[k] = false := by simp_all [keyB]
          go_ret
          exact ⟨by rw [all_keyB_false hlt hkk]; rfl, hb.alloc hsz _⟩
      · have hk' : k = l.length := by omega
        go_wp2
        go_ret
        exact ⟨by have := HA.out; rw [hk', List.take_length] at this; rw [this]; rfl, hb⟩

/-- wire.Whole. -/
theorem whole_any (kind frm inc seq tgt : Int) (l : List K) (a : Option Addr) (cap : Nat) (w : World) (hl : l.length ≤ 9223372036854775807) (hk : KeysAt w a l) :
    Calls Tryz.prog 21 #[.agg #[.int .i64 kind, .int .i64 frm, .int .i64 inc, .int .i64 seq, .int .i64 tgt, .slice a l.length cap]] w fun e w' =>
      e = .returned (.bool (wholeB ⟨kind, frm, inc, seq, tgt, l⟩)) ∧ Below w.heap.size w w' := by
  by_cases hy : tgtB kind tgt = true ∧ ¬ roomI kind < (l.length : Int) ∧ withinB frm 1 250 = true ∧ withinB inc 1 1073741824 = true ∧ withinB seq 0 4294967295 = true
  · obtain ⟨h1, h2, h3, h4, h5⟩ := hy
    have e : wholeB ⟨kind, frm, inc, seq, tgt, l⟩ = l.all keyB := by
      cases h : l.all keyB
      · exact wholeB_false (.inr (.inr (.inr (.inr (.inr h)))))
      · exact wholeB_true h1 (by simpa using h2) h3 h4 h5 h
    rw [e]
    exact whole_yes kind frm inc seq tgt l a cap w hl hk h1 h2 h3 h4 h5
  · have hno : tgtB kind tgt = false ∨ roomI kind < (l.length : Int) ∨ withinB frm 1 250 = false ∨ withinB inc 1 1073741824 = false ∨ withinB seq 0 4294967295 = false := by
      rcases six (tgtB kind tgt) (withinB frm 1 250) (withinB inc 1 1073741824) (withinB seq 0 4294967295) l.length (roomI kind) with h | ⟨_, h⟩ | ⟨_, _, h⟩ | ⟨_, _, _, h⟩ | ⟨_, _, _, _, h⟩ | h
      · exact .inl h
      · exact .inr (.inl h)
      · exact .inr (.inr (.inl h))
      · exact .inr (.inr (.inr (.inl h)))
      · exact .inr (.inr (.inr (.inr h)))
      · exact absurd h hy
    rw [wholeB_false (m := ⟨kind, frm, inc, seq, tgt, l⟩) (by
      rcases hno with h | h | h | h | h
      · exact .inl h
      · exact .inr (.inl h)
      · exact .inr (.inr (.inl h))
      · exact .inr (.inr (.inr (.inl h)))
      · exact .inr (.inr (.inr (.inr (.inl h)))))]
    exact whole_no kind frm inc seq tgt l a cap w hl hno
theorem whole_at (m : M) (a : Option Addr) (n cap : Nat) (w : World) (hn : m.ups.length = n) (hl : n ≤ 9223372036854775807) (hk : KeysAt w a m.ups) :
    Calls Tryz.prog 21 #[.agg #[.int .i64 m.kind, .int .i64 m.frm, .int .i64 m.inc, .int .i64 m.seq, .int .i64 m.tgt, .slice a n cap]] w fun e w' =>
      e = .returned (.bool (wholeB m)) ∧ Below w.heap.size w w' := by
  subst hn
  exact whole_any m.kind m.frm m.inc m.seq m.tgt m.ups a cap w hl hk
end Go.Proofs.YtfngdplkcppabaaGreat
