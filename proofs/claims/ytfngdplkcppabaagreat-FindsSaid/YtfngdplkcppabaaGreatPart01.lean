/-
  Plain words for what the program's values are: keys, messages, and the rows of cells in which they lie. No program in sight.
  A struct in memory: a block of one type, as a function of the place. No program in sight.
  A map in memory, keyed by numbers, as a list of pairs (in whatever order). No program in sight.
  A node as plain data, and what each of its calls does. No program in sight.
-/
import Derived.WalkKit
import Derived.Below
import Derived.Lib.Hide
import Derived.Maps.OwnSet
import Derived.Maps.OwnOps
set_option linter.all false
namespace Go.Proofs.YtfngdplkcppabaaGreat
open Go.RowKit

/-- A key. -/
structure K where
  id : Int
  inc : Int
  st : Int
  deriving DecidableEq

/-- A message; its updates are a list. -/
structure M where
  kind : Int
  frm : Int
  inc : Int
  seq : Int
  tgt : Int
  ups : List K

def K.agg (k : K) : Value := .agg #[.int .i64 k.id, .int .i64 k.inc, .int .i64 k.st]

/-- From address a on lie the keys of l. -/
def KeysAt (w : World) (a : Option Addr) (l : List K) : Prop :=
  ∀ i k, l[i]? = some k → ∃ b off, a = some ⟨b, off, none⟩ ∧ b < w.heap.size ∧
    w.cell? ⟨b, off + i * 3, none⟩ = some (.int .i64 k.id) ∧ w.cell? ⟨b, off + i * 3 + 1, none⟩ = some (.int .i64 k.inc) ∧ w.cell? ⟨b, off + i * 3 + 2, none⟩ = some (.int .i64 k.st)

theorem KeysAt.below {w w' : World} {a : Option Addr} {l : List K} (h : KeysAt w a l) (hb : Below w.heap.size w w') : KeysAt w' a l := by
  intro i k hk
  obtain ⟨b, off, e, hlt, h0, h1, h2⟩ := h i k hk
  exact ⟨b, off, e, Nat.lt_of_lt_of_le hlt hb.size, by rw [hb.cell hlt]; exact h0, by rw [hb.cell hlt]; exact h1, by rw [hb.cell hlt]; exact h2⟩

/-- The numbers of a key fit. -/
def K.fits (k : K) : Prop := (-9223372036854775808 ≤ k.id ∧ k.id ≤ 9223372036854775807) ∧ (-9223372036854775808 ≤ k.inc ∧ k.inc ≤ 9223372036854775807) ∧ (-9223372036854775808 ≤ k.st ∧ k.st ≤ 9223372036854775807)

def withinB (n lo hi : Int) : Bool := decide (lo ≤ n) && decide (n ≤ hi)
def roomI (k : Int) : Int := if k = 1 ∨ k = 2 ∨ k = 3 then 4 else if k = 4 ∨ k = 5 then 8 else -1
/-- Is the key one of an update? -/
def keyB (k : K) : Bool := withinB k.id 1 250 && withinB k.inc 1 1073741824 && withinB k.st 1 4
/-- Is the target one? -/
def tgtB (kind tgt : Int) : Bool := if roomI kind = 8 then tgt == 0 else withinB tgt 1 250
/-- wire.Whole: is it a message? -/
def wholeB (m : M) : Bool :=
  tgtB m.kind m.tgt && !decide ((m.ups.length : Int) > roomI m.kind) && withinB m.frm 1 250 && withinB m.inc 1 1073741824 && withinB m.seq 0 4294967295 && m.ups.all keyB

/-! ### A frame: what may have turned is what S says; all else lies as it lay; no block has gone. -/
structure Chg (S : Nat → Obj → Prop) (w w' : World) : Prop where
  os : w'.os = w.os
  tape : w'.tape = w.tape
  output : w'.output = w.output
  size : w.heap.size ≤ w'.heap.size
  kept : ∀ k o, w.heap[k]? = some o → ¬ S k o → w'.heap[k]? = some o
theorem Chg.refl (S : Nat → Obj → Prop) (w : World) : Chg S w w := ⟨rfl, rfl, rfl, Nat.le_refl _, fun _ _ h _ => h⟩
theorem Chg.trans {S : Nat → Obj → Prop} {a b c : World} (h : Chg S a b) (k : Chg S b c) : Chg S a c :=
  ⟨k.os.trans h.os, k.tape.trans h.tape, k.output.trans h.output, Nat.le_trans h.size k.size, fun i o ho hs => k.kept i o (h.kept i o ho hs) hs⟩
theorem Chg.mono {S S' : Nat → Obj → Prop} {w w' : World} (h : Chg S w w') (hS : ∀ k o, k < w.heap.size → S k o → S' k o) : Chg S' w w' :=
  ⟨h.os, h.tape, h.output, h.size, fun k o ho hs => h.kept k o ho (fun hk => hs (hS k o (Array.getElem?_eq_some_iff.1 ho).1 hk))⟩
theorem Chg.drew {S : Nat → Obj → Prop} {a w : World} (h : Chg S a w) : Chg S a w.drew := ⟨h.os, h.tape, h.output, h.size, h.kept⟩
theorem heap_lt {w : World} {k : Nat} {o : Obj} (h : w.heap[k]? = some o) : k < w.heap.size := (Array.getElem?_eq_some_iff.1 h).1
theorem Chg.alloc {S : Nat → Obj → Prop} {a w : World} (h : Chg S a w) (o : Obj) : Chg S a (w.alloc o) :=
  h.trans ⟨rfl, rfl, rfl, by simp, fun k o' hk _ => by rw [Below.heap_alloc _ _ _ (heap_lt hk)]; exact hk⟩
theorem Chg.setCell {S : Nat → Obj → Prop} {a w : World} (h : Chg S a w) {p : Addr} (u : Value) (hp : ∀ o, w.heap[p.block]? = some o → S p.block o) : Chg S a (w.setCell p u) :=
  h.trans ⟨rfl, rfl, rfl, by simp, fun k o hk hs => by
    rw [Below.heap_setCell _ _ _ _ (fun e => hs (by subst e; exact hp o hk))]; exact hk⟩
theorem Chg.grown {S : Nat → Obj → Prop} {a w w' : World} {row : Option Nat} (h : Chg S a w) (hg : w.grownBy w' row) (hr : ∀ k o, row = some k → w.heap[k]? = some o → S k o) : Chg S a w' :=
  h.trans ⟨hg.os, hg.tape, hg.output, hg.size, fun k o hk hs => by
    rw [hg.block k (heap_lt hk) (fun e => hs (hr k o e.symm hk))]; exact hk⟩
theorem Chg.below {S : Nat → Obj → Prop} {B : Nat} {w w' : World} (h : Chg S w w') (hB : B ≤ w.heap.size) (hS : ∀ k o, S k o → B ≤ k) : Below B w w' :=
  ⟨h.os, h.tape, h.output, h.size, fun k hk => by
    have hlt : k < w.heap.size := by omega
    obtain ⟨o, ho⟩ : ∃ o, w.heap[k]? = some o := ⟨w.heap[k], Array.getElem?_eq_getElem hlt⟩
    rw [ho, h.kept k o ho (fun hs => by have := hS k o hs; omega)]⟩
theorem below_of_alloc {w w' : World} {o : Obj} (h : Below w.heap.size (w.alloc o) w') : Below w.heap.size w w' := ((Below.refl _ w).alloc (Nat.le_refl _) o).trans h
theorem cells_at {w : World} {b : Nat} {c : Array Value} {t : TypeId} {f : Nat × Nat} (h : w.heap[b]? = some (.cells c t f)) (k : Nat) : w.cell? ⟨b, k, none⟩ = c[k]? := by
  simp [World.cell?, h]
theorem heap_new (w : World) (o : Obj) {n : Nat} (h : n = w.heap.size) : (w.alloc o).heap[n]? = some o := by rw [h]; exact heap_alloc_new w o
theorem heap_old {w : World} {k : Nat} {o : Obj} (o' : Obj) (h : w.heap[k]? = some o) : (w.alloc o').heap[k]? = some o := by
  rw [Below.heap_alloc _ _ _ (heap_lt h)]; exact h

theorem heap_alloc_ne (w : World) (o : Obj) (k : Nat) (h : k ≠ w.heap.size) : (w.alloc o).heap[k]? = w.heap[k]? := by
  show (w.heap.push o)[k]? = _
  rw [Array.getElem?_push, if_neg h]
theorem heap_alloc_eq (w : World) (o : Obj) : (w.alloc o).heap[w.heap.size]? = some o := heap_alloc_new w o
theorem heap_setCell_ne (w : World) (b i : Nat) (v : Value) (k : Nat) (h : k ≠ b) : (w.setCell ⟨b, i, none⟩ v).heap[k]? = w.heap[k]? := Below.heap_setCell w ⟨b, i, none⟩ v k h
theorem heap_setCell_eq {w : World} {b i : Nat} {v : Value} {c : Array Value} {t : TypeId} {f : Nat × Nat} (h : w.heap[b]? = some (.cells c t f)) :
    (w.setCell ⟨b, i, none⟩ v).heap[b]? = some (.cells (c.setIfInBounds i v) t f) := by
  simp [World.setCell, Array.getElem?_modify, h]
theorem cells_new (w : World) (l : List Value) (t : TypeId) {n : Nat} (hn : n = w.heap.size) : ∀ j u, l[j]? = some u → (w.alloc (.cells l.toArray t)).cell? ((⟨n, 0, none⟩ : Addr).add j) = some u := by
  intro j u h
  have e : (⟨n, 0, none⟩ : Addr).add j = ⟨n, j, none⟩ := by unfold Addr.add; split <;> simp_all
  rw [e, cells_at (heap_new w _ hn) j]
  simpa using h
theorem own_below {w : World} {B B' e s n : Nat} {v : Value} {xs : List Value} (h : w.ownsRow B e s v n xs) (hB : B' ≤ B) : w.ownsRow B' e s v n xs := by
  refine ⟨h.1, ?_⟩
  rcases h.2 with hn | ⟨g, cap, cur, rfl, hb, rest⟩
  · exact .inl hn
  · exact .inr ⟨g, cap, cur, rfl, by omega, rest⟩
theorem own_under {w w' : World} {B e s n : Nat} {v : Value} {xs : List Value} (h : w.ownsRow B e s v n xs) (hb : Below w.heap.size w w') : w'.ownsRow B e s v n xs := by
  refine ⟨h.1, ?_⟩
  rcases h.2 with hn | ⟨g, cap, cur, rfl, hB, hg, rest⟩
  · exact .inl hn
  · exact .inr ⟨g, cap, cur, rfl, hB, (hb.block g (heap_lt hg)).trans hg, rest⟩
theorem six_set {w : World} {b : Nat} {a0 a1 a2 a3 a4 a5 : Value} {t : TypeId} {f : Nat × Nat} (h : w.heap[b]? = some (.cells #[a0, a1, a2, a3, a4, a5] t f)) (v0 v1 v2 v3 v4 v5 : Value) {R : World → Prop}
    (hR : ∀ W, W.heap[b]? = some (.cells #[v0, v1, v2, v3, v4, v5] t f) → Chg (fun k _ => k = b) w W → R W) :
    R ((((((w.setCell ⟨b, 0, none⟩ v0).setCell ⟨b, 1, none⟩ v1).setCell ⟨b, 2, none⟩ v2).setCell ⟨b, 3, none⟩ v3).setCell ⟨b, 4, none⟩ v4).setCell ⟨b, 5, none⟩ v5) :=
  hR _ (heap_setCell_eq (heap_setCell_eq (heap_setCell_eq (heap_setCell_eq (heap_setCell_eq (heap_setCell_eq h))))))
    ((((((((Chg.refl (fun k _ => k = b) w).setCell _ (fun _ _ => rfl)).setCell _ (fun _ _ => rfl)).setCell _ (fun _ _ => rfl)).setCell _ (fun _ _ => rfl)).setCell _ (fun _ _ => rfl)).setCell _ (fun _ _ => rfl)))
theorem own_chg {S : Nat → Obj → Prop} {w w' : World} {B e s n : Nat} {v : Value} {xs : List Value} (h : w.ownsRow B e s v n xs) (hc : Chg S w w') (hS : ∀ g o, v.ownBlock = some g → ¬ S g o) : w'.ownsRow B e s v n xs := by
  refine ⟨h.1, ?_⟩
  rcases h.2 with hn | ⟨g, cap, cur, rfl, hb, hg, rest⟩
  · exact .inl hn
  · exact .inr ⟨g, cap, cur, rfl, hb, hc.kept g _ hg (hS g _ rfl), rest⟩
theorem unfrozen {w : World} {b : Nat} {c : Array Value} {t : TypeId} (h : w.heap[b]? = some (.cells c t (0, 0))) (k : Nat) : w.frozen? ⟨b, k, none⟩ = false := by
  simp [World.frozen?, h]

/-- append to a row of the call's own, as one step of a region that draws its order. -/
theorem step_append_own {P : Program} {ops : Array Oper} {o : Oper} {a : Act} {w : World} {K : Act → World → Prop} {Q : Exit → Act → World → Prop} {E : Prop}
    (hg : o.guard = none) (s x : Operand) (t : TypeId) (hop : o.op = Op.call { callee := Callee.builtin Builtin.append, args := #[s, x], argTypes := #[t, t] })
    (base : Nat) (e : TypeId) (i : TypeInfo) (z : Value) (size bytes : Nat) (ht : P.underlying t = some (.slice e)) (hi : P.info? e = some i) (hz : i.zero = some z)
    (hsize : i.size = size) (hby : i.bytes = bytes) (hzs : z.cells.size = size) (hsz : 0 < size)
    (v : Value) (n : Nat) (xs : List Value) (hs : a.eval s = v) (hown : w.ownsRow base e size v n xs)
    (ad : Addr) (m c : Nat) (news : List Value) (hx : a.eval x = .slice (some ad) m c) (hl : news.length = m * size) (hnews : ∀ j u, news[j]? = some u → w.cell? (ad.add j) = some u) (h1 : ∀ u ∈ news, u.oneCell' = true)
    (h63 : n + m ≤ maxLen) (hbytes : (n + m) * bytes ≤ 140737488355328) (hbase : base ≤ w.heap.size)
    (h : ∀ v' w', w'.ownsRow base e size v' (n + m) (xs ++ news) → w.grownBy w' v.ownBlock → (v' = .slice none 0 0 ↔ v = .slice none 0 0 ∧ m = 0) → K (a.put o.dst v') w') :
    if Region.wanted o (yielded ops a.tmps) = true then Oper.wp P o a w K Q else E := by
  have hw : Region.wanted o (yielded ops a.tmps) = true := by simp [Region.wanted, hg]
  rw [if_pos hw]
  exact wp_append_own w s x t hop base e i z size bytes ht hi hz hsize hby hzs hsz v n xs hs hown ad m c news hx hl hnews h1 h63 hbytes hbase h
end Go.Proofs.YtfngdplkcppabaaGreat
namespace Go.Proofs.YtfngdplkcppabaaGreat
open Go.RowKit

def upd (f : Nat → Value) (i : Nat) (v : Value) (j : Nat) : Value := if j = i then v else f j
theorem upd_same (f : Nat → Value) (i : Nat) (v : Value) : upd f i v i = v := if_pos rfl
theorem upd_other (f : Nat → Value) (i : Nat) (v : Value) {j : Nat} (h : j ≠ i) : upd f i v j = f j := if_neg h
/-- Block b is a struct of type t with N cells: f. -/
def SB (t : TypeId) (N : Nat) (w : World) (b : Nat) (f : Nat → Value) : Prop :=
  ∃ cs : Array Value, w.heap[b]? = some (.cells cs t (0, 0)) ∧ N ≤ cs.size ∧ ∀ i, i < N → cs[i]? = some (f i)
section
variable {t : TypeId} {N : Nat} {w w' : World} {b : Nat} {f g : Nat → Value}
theorem SB.lt (h : SB t N w b f) : b < w.heap.size := by obtain ⟨cs, h, _⟩ := h; exact heap_lt h
theorem SB.cell (h : SB t N w b f) {i : Nat} (hi : i < N) : w.cell? ⟨b, i, none⟩ = some (f i) := by
  obtain ⟨cs, h, _, hc⟩ := h; rw [cells_at h]; exact hc i hi
theorem SB.free (h : SB t N w b f) (k : Nat) : w.frozen? ⟨b, k, none⟩ = false := by
  obtain ⟨cs, h, _⟩ := h; exact unfrozen h k
theorem SB.heap (h : SB t N w b f) (e : w'.heap[b]? = w.heap[b]?) : SB t N w' b f := by
  obtain ⟨cs, h, hr⟩ := h; exact ⟨cs, e.trans h, hr⟩
theorem SB.block (h : SB t N w b f) : ∃ cs, w.heap[b]? = some (.cells cs t (0, 0)) := by obtain ⟨cs, h, _⟩ := h; exact ⟨cs, h⟩
theorem SB.alloc (h : SB t N w b f) (o : Obj) : SB t N (w.alloc o) b f := h.heap (Below.heap_alloc _ _ _ h.lt)
theorem SB.drew (h : SB t N w b f) : SB t N w.drew b f := h
theorem SB.under {B : Nat} (h : SB t N w b f) (hb : Below B w w') (hB : b < B) : SB t N w' b f := h.heap (hb.block b hB)
theorem SB.chg {S : Nat → Obj → Prop} (h : SB t N w b f) (hc : Chg S w w') (hS : ∀ cs, ¬ S b (.cells cs t (0, 0))) : SB t N w' b f := by
  obtain ⟨cs, h, hr⟩ := h
  exact ⟨cs, hc.kept b _ h (hS cs), hr⟩
theorem SB.grown {row : Option Nat} (h : SB t N w b f) (hg : w.grownBy w' row) (hr : row ≠ some b) : SB t N w' b f := h.heap (hg.block b h.lt (fun e => hr e.symm))
theorem SB.set (h : SB t N w b f) {i : Nat} (hi : i < N) (v : Value) : SB t N (w.setCell ⟨b, i, none⟩ v) b (upd f i v) := by
  obtain ⟨cs, h, hs, hc⟩ := h
  refine ⟨_, heap_setCell_eq h, by simpa using hs, fun j hj => ?_⟩
  by_cases e : j = i
  · subst e
    have h0 : j < cs.size := by omega
    simp [h0, upd]
  · rw [Array.getElem?_setIfInBounds, if_neg (fun e' => e e'.symm), upd_other _ _ _ e]
    exact hc j hj
theorem SB.other (h : SB t N w b f) {b' i : Nat} (hb : b' ≠ b) (v : Value) : SB t N (w.setCell ⟨b', i, none⟩ v) b f := h.heap (heap_setCell_ne _ _ _ _ _ (fun e => hb e.symm))
theorem SB.congr (h : SB t N w b f) (e : ∀ i, i < N → f i = g i) : SB t N w b g := by
  obtain ⟨cs, h1, h2, h3⟩ := h
  exact ⟨cs, h1, h2, fun i hi => by rw [← e i hi]; exact h3 i hi⟩
theorem SB.ne {t' : TypeId} {N' b' : Nat} (h : SB t N w b f) (h' : SB t' N' w b' g) (ht : t ≠ t') : b ≠ b' := by
  obtain ⟨cs, h, _⟩ := h
  obtain ⟨cs', h', _⟩ := h'
  rintro rfl
  rw [h] at h'
  simp only [Option.some.injEq, Obj.cells.injEq] at h'
  exact ht h'.2.1
/-- .. lies apart from a row of another type. -/
theorem SB.neOwn {B e s n : Nat} {v : Value} {xs : List Value} (h : SB t N w b f) (ho : w.ownsRow B e s v n xs) (ht : t ≠ e) : v.ownBlock ≠ some b := by
  obtain ⟨cs, h, _⟩ := h
  rcases ho.2 with ⟨rfl, _⟩ | ⟨g, cap, cur, rfl, _, hg, _⟩
  · simp [Value.ownBlock]
  · simp only [Value.ownBlock, ne_eq, Option.some.injEq]
    rintro rfl
    rw [h] at hg
    simp only [Option.some.injEq, Obj.cells.injEq] at hg
    exact ht hg.2.1
end
/-- The row's block, its type, its base. -/
theorem ownsRow_blk {w : World} {B e s n : Nat} {v : Value} {xs : List Value} (h : w.ownsRow B e s v n xs) {g : Nat} (hg : v.ownBlock = some g) : B ≤ g ∧ ∃ cur, w.heap[g]? = some (.cells cur e (0, 0)) := by
  rcases h.2 with ⟨rfl, _⟩ | ⟨g', cap, cur, rfl, hB, hc, _⟩
  · simp [Value.ownBlock] at hg
  · simp only [Value.ownBlock, Option.some.injEq] at hg
    subst hg
    exact ⟨hB, cur, hc⟩
/-- From address a on lie the cells of l. -/
def CellsAt (w : World) (a : Option Addr) (l : List Value) : Prop :=
  ∀ j v, l[j]? = some v → ∃ b off, a = some ⟨b, off, none⟩ ∧ b < w.heap.size ∧ w.cell? ⟨b, off + j, none⟩ = some v
theorem CellsAt.heap {w w' : World} {a : Option Addr} {l : List Value} (h : CellsAt w a l) (e : ∀ b off, a = some ⟨b, off, none⟩ → b < w.heap.size → w'.heap[b]? = w.heap[b]? ∧ b < w'.heap.size) : CellsAt w' a l := by
  intro j v hj
  obtain ⟨b, off, ea, hb, hc⟩ := h j v hj
  obtain ⟨e1, e2⟩ := e b off ea hb
  refine ⟨b, off, ea, e2, ?_⟩
  unfold World.cell? at *
  rw [e1]; exact hc
theorem CellsAt.below {w w' : World} {a : Option Addr} {l : List Value} (h : CellsAt w a l) (hb : Below w.heap.size w w') : CellsAt w' a l :=
  h.heap (fun b _ _ hlt => ⟨hb.block b hlt, Nat.lt_of_lt_of_le hlt hb.size⟩)
theorem CellsAt.row {w : World} {B e s n cap : Nat} {a : Option Addr} {l : List Value} (h : w.ownsRow B e s (.slice a n cap) n l) : CellsAt w a l := by
  intro j v hj
  rcases h.2 with ⟨_, e'⟩ | ⟨g, cap', cur, e', _, hg, _, _, _, ht⟩
  · have hl := h.1
    subst e'
    have : l = [] := List.eq_nil_of_length_eq_zero (by omega)
    subst this
    simp at hj
  · simp only [Value.slice.injEq] at e'
    obtain ⟨rfl, _, _⟩ := e'
    refine ⟨g, 0, rfl, heap_lt hg, ?_⟩
    rw [Nat.zero_add, cells_at hg]
    rw [← ht, List.getElem?_take] at hj
    rw [← Array.getElem?_toList]
    by_cases hlt : j < n * s
    · rw [if_pos hlt] at hj; exact hj
    · rw [if_neg hlt] at hj; cases hj

end Go.Proofs.YtfngdplkcppabaaGreat
namespace Go.Proofs.YtfngdplkcppabaaGreat
open Go.RowKit Go.Maps

/-- A map's datum that holds just these pairs. -/
structure MapIs (D : DataW Value) (L : List (Int × Value)) : Prop where
  tidy : Tidy D
  size : size D = L.length
  nd : (L.map (·.1)).Nodup
  mem : ∀ k v, (k, v) ∈ L → ∀ z, D.atKey (.int .i64 k) z = .held v
  has : ∀ k, Maps.has D (.int .i64 k) = true ↔ k ∈ L.map (·.1)
theorem MapIs.empty : MapIs (.map []) [] := ⟨tidy_empty, rfl, by simp, fun k v h => by simp at h, fun k => by simp [Maps.has]⟩
theorem MapIs.perm {D : DataW Value} {L L' : List (Int × Value)} (h : MapIs D L) (hp : L'.Perm L) : MapIs D L' :=
  ⟨h.tidy, h.size.trans hp.length_eq.symm, (hp.map _).nodup_iff.2 h.nd, fun k v hv => h.mem k v (hp.mem_iff.1 hv), fun k => (h.has k).trans ((hp.map _).mem_iff).symm⟩
theorem MapIs.miss {D : DataW Value} {L : List (Int × Value)} (h : MapIs D L) {k : Int} (hk : k ∉ L.map (·.1)) (z : DataW Value) : D.atKey (.int .i64 k) z = z :=
  atKey_of_not_has (by cases hh : Maps.has D (.int .i64 k); · rfl
                       · exact absurd ((h.has k).1 hh) hk) z
theorem MapIs.put {D : DataW Value} {L : List (Int × Value)} (h : MapIs D L) (k : Int) (v : Value) : MapIs (D.put (.int .i64 k) (.held v)) (L.filter (fun p => p.1 != k) ++ [(k, v)]) := by
  have hk : WideAt.IsKeyLit (.int .i64 k) := trivial
  have hlen : (L.filter (fun p => p.1 != k)).length + (if k ∈ L.map (·.1) then 1 else 0) = L.length := by
    have := h.nd
    clear h
    induction L with
    | nil => rfl
    | cons a r ih =>
      simp only [List.map_cons, List.nodup_cons] at this
      have ih' := ih this.2
      by_cases e : a.1 = k
      · subst e
        have hn : ¬ a.1 ∈ r.map (·.1) := this.1
        rw [if_neg hn] at ih'
        have hf : (a :: r).filter (fun p => p.1 != a.1) = r.filter (fun p => p.1 != a.1) := by simp
        rw [hf, if_pos (by simp), List.length_cons]
        omega
      · have hf : (a :: r).filter (fun p => p.1 != k) = a :: r.filter (fun p => p.1 != k) := by simp [e]
        rw [hf, List.length_cons, List.length_cons]
        have hiff : (k ∈ (a :: r).map (·.1)) ↔ k ∈ r.map (·.1) := by
          rw [List.map_cons, List.mem_cons]
          exact ⟨fun h => h.elim (fun h => absurd h.symm e) id, .inr⟩
        by_cases hm : k ∈ r.map (·.1)
        · rw [if_pos hm] at ih'
          rw [if_pos (hiff.2 hm)]
          omega
        · rw [if_neg hm] at ih'
          rw [if_neg (fun h => hm (hiff.1 h))]
          omega
  refine ⟨h.tidy.put hk _, ?_, ?_, ?_, ?_⟩
  · rw [size_put h.tidy, h.size, List.length_append, List.length_singleton]
    by_cases hm : k ∈ L.map (·.1)
    · rw [if_pos ((h.has k).2 hm)]
      rw [if_pos hm] at hlen
      omega
    · have hf : Maps.has D (.int .i64 k) = false := by cases hh : Maps.has D (.int .i64 k); · rfl
                                                       · exact absurd ((h.has k).1 hh) hm
      rw [hf]
      rw [if_neg hm] at hlen
      simp only [Bool.false_eq_true, if_false]
      omega
  · rw [List.map_append, List.nodup_append]
    refine ⟨?_, by simp, ?_⟩
    · exact h.nd.sublist (List.Sublist.map _ List.filter_sublist)
    · intro a ha b hb hab
      simp only [List.mem_map, List.mem_filter, bne_iff_ne, ne_eq, List.map_cons, List.map_nil, List.mem_cons, List.not_mem_nil, or_false] at ha hb
      obtain ⟨p, ⟨_, hp⟩, rfl⟩ := ha
      exact hp (hab.trans hb)
  · intro k' v' hv z
    simp only [List.mem_append, List.mem_filter, bne_iff_ne, ne_eq, List.mem_cons, List.not_mem_nil, or_false, Prod.mk.injEq] at hv
    rcases hv with ⟨hv, hne⟩ | ⟨rfl, rfl⟩
    · rw [atKey_put_other (fun e => hne (by injection e))]
      exact h.mem k' v' hv z
    · exact atKey_put_same h.tidy.isMap hk _ z
  · intro k'
    by_cases e : k' = k
    · subst e
      rw [has_put_same h.tidy.isMap hk]
      simp
    · rw [has_put_other (fun e' => e (by injection e')), h.has k']
      simp only [List.map_append, List.mem_append, List.mem_map, List.mem_filter, bne_iff_ne, ne_eq, List.map_cons, List.map_nil, List.mem_cons, List.not_mem_nil, or_false]
      constructor
      · rintro ⟨p, hp, rfl⟩; exact .inl ⟨p, ⟨hp, e⟩, rfl⟩
      · rintro (⟨p, ⟨hp, _⟩, rfl⟩ | rfl)
        · exact ⟨p, hp, rfl⟩
        · exact absurd rfl e
theorem MapIs.del {D : DataW Value} {L : List (Int × Value)} (h : MapIs D L) (k : Int) : MapIs (D.del (.int .i64 k)) (L.filter (fun p => p.1 != k)) := by
  have hp := h.put k (.int .i64 0)
  have hlen : (L.filter (fun p => p.1 != k)).length + (if k ∈ L.map (·.1) then 1 else 0) = L.length := by
    have h1 := hp.size
    rw [size_put h.tidy, h.size, List.length_append, List.length_singleton] at h1
    by_cases hm : k ∈ L.map (·.1)
    · rw [if_pos ((h.has k).2 hm)] at h1
      rw [if_pos hm]
      omega
    · have hf : Maps.has D (.int .i64 k) = false := by cases hh : Maps.has D (.int .i64 k); · rfl
                                                       · exact absurd ((h.has k).1 hh) hm
      rw [hf] at h1
      simp only [Bool.false_eq_true, if_false] at h1
      rw [if_neg hm]
      omega
  refine ⟨h.tidy.del _, ?_, h.nd.sublist (List.Sublist.map _ List.filter_sublist), ?_, ?_⟩
  · have h1 := size_del (k := .int .i64 k) h.tidy
    rw [h.size] at h1
    by_cases hm : k ∈ L.map (·.1)
    · rw [if_pos ((h.has k).2 hm)] at h1
      rw [if_pos hm] at hlen
      omega
    · have hf : Maps.has D (.int .i64 k) = false := by cases hh : Maps.has D (.int .i64 k); · rfl
                                                       · exact absurd ((h.has k).1 hh) hm
      rw [hf] at h1
      simp only [Bool.false_eq_true, if_false] at h1
      rw [if_neg hm] at hlen
      omega
  · intro k' v' hv z
    simp only [List.mem_filter, bne_iff_ne, ne_eq] at hv
    rw [atKey_del_other (fun e => hv.2 (by injection e))]
    exact h.mem k' v' hv.1 z
  · intro k'
    by_cases e : k' = k
    · subst e
      rw [has_del_same]
      simp
    · rw [has_del_other (fun e' => e (by injection e')), h.has k']
      simp only [List.mem_map, List.mem_filter, bne_iff_ne, ne_eq]
      constructor
      · rintro ⟨p, hp, rfl⟩; exact ⟨p, ⟨hp, e⟩, rfl⟩
      · rintro ⟨p, ⟨hp, _⟩, rfl⟩; exact ⟨p, hp, rfl⟩

/-- An element is held as it is. -/
def RV (v : Value) : Option (DataW Value × List MemPlace) := some (.held v, [])
/-- Block b is a map of these pairs. -/
def MapAt (P : Program) (kT : TypeId) (w : World) (b : Nat) (L : List (Int × Value)) : Prop := ∃ D, w.ownsMap P kT RV b L.length D ∧ MapIs D L
section
variable {P : Program} {kT t e : TypeId} {w w' : World} {b : Nat} {L : List (Int × Value)}
theorem ownsMap_tight {n : Nat} {D : DataW Value} (h : w.ownsMap P kT RV b n D) : w.ownsMap P kT RV b (Maps.size D) D := by
  obtain ⟨es, clock, hb, F, hs, rfl⟩ := h
  exact ⟨es, clock, hb, F, by simp [Maps.size, length_sorted], rfl⟩
theorem MapAt.of {n : Nat} {D : DataW Value} (h : w.ownsMap P kT RV b n D) (hD : MapIs D L) : MapAt P kT w b L := ⟨D, by rw [← hD.size]; exact ownsMap_tight h, hD⟩
theorem MapAt.lt (h : MapAt P kT w b L) : b < w.heap.size := by obtain ⟨D, h, _⟩ := h; exact h.lt
theorem MapAt.heap (h : MapAt P kT w b L) (e : w'.heap[b]? = w.heap[b]?) : MapAt P kT w' b L := by
  obtain ⟨D, ⟨es, clock, hb, r⟩, hD⟩ := h
  exact ⟨D, ⟨es, clock, e.trans hb, r⟩, hD⟩
theorem MapAt.perm {L' : List (Int × Value)} (h : MapAt P kT w b L) (hp : L'.Perm L) : MapAt P kT w b L' := by
  obtain ⟨D, h1, h2⟩ := h
  exact ⟨D, by rw [hp.length_eq]; exact h1, h2.perm hp⟩
theorem MapAt.isMap (h : MapAt P kT w b L) : ∃ es clock, w.heap[b]? = some (.map es clock) := by obtain ⟨D, ⟨es, clock, hb, _⟩, _⟩ := h; exact ⟨es, clock, hb⟩
theorem MapAt.made (w : World) : MapAt P kT (w.alloc (.map #[] 0)) w.heap.size [] := ⟨_, World.ownsMap_made w P kT RV, MapIs.empty⟩
theorem MapAt.nd (h : MapAt P kT w b L) : (L.map (·.1)).Nodup := by obtain ⟨D, _, h⟩ := h; exact h.nd
variable (hk : P.underlying kT = some (.int .i64)) (ht : P.underlying t = some (.map kT e))
include hk ht
theorem MapAt.store (h : MapAt P kT w b L) (hL : L.length < 1000000) (k : Int) (hf : (Lit.int .i64 k).wf = true) (v : Value) :
    ∃ w', (Instr.mapUpdate t (.map (some b)) (.int .i64 k) v).run P w = .ok () w' ∧ MapAt P kT w' b (L.filter (fun p => p.1 != k) ++ [(k, v)]) ∧ w.grownBy w' (some b) ∧ w'.heap.size = w.heap.size := by
  obtain ⟨D, h1, h2⟩ := h
  obtain ⟨w', hr, h3, h4⟩ := h1.store (int_keyed hk) ht (by unfold maxLen; omega) (keyOf_int_mk hk hf) (d := .held v) (ps := []) (val := v) rfl
  refine ⟨w', hr, MapAt.of h3 (h2.put k v), h4.grown, ?_⟩
  obtain ⟨es, clock, es', clock', hb, rfl⟩ := h4
  simp [Go.ChangeMaps.setBlock]
theorem MapAt.drop (h : MapAt P kT w b L) (k : Int) (hf : (Lit.int .i64 k).wf = true) (ty : TypeId) :
    ∃ w', (Builtin.delete_ #[t, kT] ty #[.map (some b), .int .i64 k]).run P w = .ok (.tuple #[]) w' ∧ MapAt P kT w' b (L.filter (fun p => p.1 != k)) ∧ w.grownBy w' (some b) ∧ w'.heap.size = w.heap.size := by
  obtain ⟨D, h1, h2⟩ := h
  obtain ⟨w', hr, h3, h4⟩ := h1.drop (int_keyed hk) ht (keyOf_int_mk hk hf) ty
  refine ⟨w', hr, MapAt.of h3 (h2.del k), h4.grown, ?_⟩
  obtain ⟨es, clock, es', clock', hb, rfl⟩ := h4
  simp [Go.ChangeMaps.setBlock]
omit hk in
theorem MapAt.len (h : MapAt P kT w b L) (ty : TypeId) : (Builtin.len_ #[t] ty #[.map (some b)]).run P w = .ok (.int .i64 (L.length : Nat)) w := by
  obtain ⟨D, h1, h2⟩ := h
  rw [h1.len ht ty, h2.size]
theorem MapAt.look (h : MapAt P kT w b L) {z : Value} (hz : ∀ w, (zeroValue e).run P w = .ok z w) (k : Int) (hf : (Lit.int .i64 k).wf = true) :
    (∀ v, (k, v) ∈ L → (Instr.lookup t (.map (some b)) (.int .i64 k) false).run P w = .ok v w ∧ (Instr.lookup t (.map (some b)) (.int .i64 k) true).run P w = .ok (.tuple #[v, .bool true]) w) ∧
    (k ∉ L.map (·.1) → (Instr.lookup t (.map (some b)) (.int .i64 k) false).run P w = .ok z w ∧ (Instr.lookup t (.map (some b)) (.int .i64 k) true).run P w = .ok (.tuple #[z, .bool false]) w) := by
  obtain ⟨D, h1, h2⟩ := h
  obtain ⟨v1, ps1, hr1, hv1⟩ := h1.lookup (int_keyed hk) ht (hz w) (zd := .held z) (zp := []) rfl (keyOf_int_mk hk hf)
  obtain ⟨v2, ps2, hr2, hv2⟩ := h1.look_ok (int_keyed hk) ht (hz w) (zd := .held z) (zp := []) rfl (keyOf_int_mk hk hf)
  refine ⟨fun v hv => ?_, fun hn => ?_⟩
  · have e := h2.mem k v hv (.held z)
    rw [e] at hv1 hv2
    simp only [RV, Option.some.injEq, Prod.mk.injEq, DataW.held.injEq] at hv1 hv2
    have hh : Maps.has D (.int .i64 k) = true := (h2.has k).2 (List.mem_map.2 ⟨_, hv, rfl⟩)
    rw [hh] at hr2
    rw [hv1.1] at hr1
    rw [hv2.1] at hr2
    exact ⟨hr1, hr2⟩
  · have e := h2.miss hn (.held z)
    rw [e] at hv1 hv2
    simp only [RV, Option.some.injEq, Prod.mk.injEq, DataW.held.injEq] at hv1 hv2
    have hh : Maps.has D (.int .i64 k) = false := by cases hh : Maps.has D (.int .i64 k); · rfl
                                                     · exact absurd ((h2.has k).1 hh) hn
    rw [hh] at hr2
    rw [hv1.1] at hr1
    rw [hv2.1] at hr2
    exact ⟨hr1, hr2⟩
end
end Go.Proofs.YtfngdplkcppabaaGreat
namespace Go.Proofs.YtfngdplkcppabaaGreat
open Go.RowKit

structure Cfg where
  self : Int
  period : Int
  wait : Int
  susp : Int
  prox : Int
  sends : Int
/-- A member: its key; when a suspect's time is up. -/
structure Mem where
  k : K
  due : Int
/-- An update; how often it was sent. -/
structure Upd where
  k : K
  sent : Int
  deriving DecidableEq
structure Rel where
  seq : Int
  tgt : Int
  orig : Int
  oseq : Int
  ends : Int
structure Prb where
  tgt : Int
  seq : Int
  start : Int
  acked : Bool
/-- A packet: to whom, and what. -/
abbrev Pk := Int × M
structure Nd where
  c : Cfg
  ds : List Int
  at_ : Nat
  clock : Int
  seq : Int
  self : K
  others : List Mem
  pass : List Int
  probe : Option Prb
  queue : List Upd
  relays : List Rel
  dropped : Int
  lost : Int
  events : List K

def lessK (a b : K) : Bool := decide (a.inc < b.inc ∨ a.inc = b.inc ∧ a.st < b.st)
def rawDraw (ds : List Int) (at_ : Nat) (n : Int) : Int :=
  let k := ds.getD (at_ % ds.length) 0
  (if k < 0 then -(k + 1) else k) % n
/-- The next number below n. -/
def Nd.draw (x : Nd) (n : Int) : Int × Nd := if x.ds = [] then (0, x) else (rawDraw x.ds x.at_ n, { x with at_ := x.at_ + 1 })
def full (l : List K) : Bool := l.length == 8
def Nd.changed (x : Nd) (k : K) : Nd :=
  { x with
    events := if full x.events then x.events else x.events ++ [k]
    lost := if full x.events then x.lost + 1 else x.lost
    queue := x.queue.filter (fun u => u.k.id != k.id) ++ [⟨k, 0⟩] }
def Nd.refute (x : Nd) (k : K) : Nd :=
  if x.self.st = 4 ∨ k.st = 1 ∨ k.inc < x.self.inc ∨ k.inc = 1073741824 then x
  else { x with self := { x.self with inc := k.inc + 1 } }.changed { x.self with inc := k.inc + 1 }
/-- A member into the table, by its id. -/
def putM (m : Mem) : List Mem → List Mem
  | [] => [m]
  | a :: r => if a.k.id < m.k.id then a :: putM m r else if a.k.id = m.k.id then m :: r else m :: a :: r
def findM (l : List Mem) (id : Int) : Option Mem := l.find? (fun m => m.k.id == id)
def Nd.taken (x : Nd) (k : K) : Nd :=
  { x with others := putM ⟨k, x.clock + x.c.susp⟩ x.others, pass := if k.st ≤ 2 then x.pass else x.pass.filter (fun n => n != k.id) }.changed k
def Nd.hear (x : Nd) (k : K) : Nd :=
  if k.id = x.self.id then x.refute k
  else match findM x.others k.id with
    | none => if x.others.length = 7 then x else x.taken k
    | some m => if lessK m.k k then x.taken k else x
/-- Which of two updates goes first. -/
def updLe (a b : Upd) : Bool := decide (a.sent < b.sent ∨ a.sent = b.sent ∧ a.k.id ≤ b.k.id)
def Nd.first (x : Nd) : List Upd := (x.queue.mergeSort updLe).take 4
/-- What rides along. -/
def Nd.take (x : Nd) : Nd :=
  { x with queue := x.queue.filter (fun u => !(x.first.any fun v => v.k.id == u.k.id)) ++ (x.first.map fun u => ⟨u.k, u.sent + 1⟩).filter (fun u => u.sent != x.c.sends) }
def Nd.msg (x : Nd) (m : M) : M := { m with frm := x.self.id, inc := x.self.inc, ups := if m.kind < 4 then x.first.map (·.k) else m.ups }
def Nd.sent (x : Nd) (m : M) : Nd := if m.kind < 4 then x.take else x
def Nd.next (x : Nd) : Nd := { x with seq := x.seq + 1 }

def Nd.pinged (x : Nd) (m : M) : List Pk × Nd :=
  if m.tgt = x.self.id then ([(m.frm, x.msg ⟨2, 0, 0, m.seq, m.tgt, []⟩)], x.sent ⟨2, 0, 0, m.seq, m.tgt, []⟩) else ([], x)
def ackProbe (p : Option Prb) (m : M) : Option Prb := p.map fun p => if p.seq = m.seq ∧ p.tgt = m.tgt then { p with acked := true } else p
def Nd.acked (x : Nd) (m : M) : List Pk × Nd :=
  let x : Nd := { x with probe := ackProbe x.probe m }
  match x.relays.find? (fun r => r.seq == m.seq && r.tgt == m.tgt) with
  | none => ([], x)
  | some r =>
    let x : Nd := { x with relays := x.relays.filter (fun r => !(r.seq == m.seq)) }
    ([(r.orig, x.msg ⟨2, 0, 0, r.oseq, r.tgt, []⟩)], x.sent ⟨2, 0, 0, r.oseq, r.tgt, []⟩)
def Nd.asked (x : Nd) (m : M) : List Pk × Nd :=
  if m.tgt = x.self.id then x.pinged m
  else if x.relays.length = 4 then ([], x)
  else
    let y : Nd := { x.next with relays := x.relays ++ [⟨x.seq + 1, m.tgt, m.frm, m.seq, x.clock + x.c.period⟩] }
    ([(m.tgt, y.msg ⟨1, 0, 0, x.seq + 1, m.tgt, []⟩)], y.sent ⟨1, 0, 0, x.seq + 1, m.tgt, []⟩)
/-- A key among keys by rising ids. -/
def putK (k : K) : List K → List K
  | [] => [k]
  | a :: r => if a.id < k.id then a :: putK k r else k :: a :: r
def Nd.joined (x : Nd) (m : M) : List Pk × Nd := ([(m.frm, x.msg ⟨5, 0, 0, m.seq, 0, putK x.self (x.others.map (·.k))⟩)], x)
def Nd.answer (x : Nd) (m : M) : List Pk × Nd :=
  if m.kind = 1 then x.pinged m else if m.kind = 2 then x.acked m else if m.kind = 3 then x.asked m else if m.kind = 4 then x.joined m else ([], x)
def Nd.heardAll (x : Nd) (m : M) : Nd := m.ups.foldl Nd.hear (x.hear ⟨m.frm, m.inc, 1⟩)
/-- Receive of what Decode gave. -/
def Nd.receive (x : Nd) : Option M → List Pk × Nd
  | none => ([], { x with dropped := x.dropped + 1 })
  | some m => if m.frm = x.self.id then ([], { x with dropped := x.dropped + 1 }) else (x.heardAll m).answer m
/-- Join: the packets, the error's number, the node. -/
def Nd.join (x : Nd) (n : Int) : List Pk × Int × Nd :=
  if x.self.st = 4 then ([], 4, x)
  else if n < 1 ∨ n > 250 ∨ n = x.self.id then ([], 3, x)
  else ([(n, x.next.msg ⟨4, 0, 0, x.seq + 1, 0, []⟩)], 0, x.next)
def Nd.leave (x : Nd) : Int × Nd :=
  if x.self.st = 4 then (4, x) else (0, { x with self := { x.self with st := 4 } }.changed { x.self with st := 4 })

/-- Who is asked: n of a list, drawn. -/
def Nd.askAll (p : Prb) : Nat → List Int → Nd → List Pk × Nd
  | 0, _, x => ([], x)
  | n + 1, l, x =>
    if l = [] then ([], x)
    else
      let d := (x.draw l.length).1
      let y := (x.draw l.length).2
      let r := Nd.askAll p n (l.eraseIdx d.toNat) (y.sent ⟨3, 0, 0, p.seq, p.tgt, []⟩)
      ((l.getD d.toNat 0, y.msg ⟨3, 0, 0, p.seq, p.tgt, []⟩) :: r.1, r.2)
def here (m : Mem) : Bool := decide (m.k.st ≤ 2)
def Nd.helpers (x : Nd) (p : Prb) : List Int := (x.others.filter (fun m => here m && m.k.id != p.tgt)).map (·.k.id)
/-- A probe goes on, or ends. -/
def Nd.endProbe (x : Nd) (p : Prb) : Nd :=
  if x.clock - p.start < x.c.period then x
  else
    let y : Nd := { x with probe := none }
    match findM x.others p.tgt with
    | none => y
    | some m => if p.acked = false ∧ m.k.st = 1 then y.hear ⟨m.k.id, m.k.inc, 2⟩ else y
def Nd.waits (x : Nd) : List Pk × Nd :=
  match x.probe with
  | none => ([], x)
  | some p =>
    let r := if x.clock - p.start = x.c.wait ∧ p.acked = false then Nd.askAll p x.c.prox.toNat (x.helpers p) x else ([], x)
    (r.1, r.2.endProbe p)
/-- Two places of a list change what they hold. -/
def swapL (l : List Int) (i j : Nat) : List Int := (l.set i (l.getD j 0)).set j (l.getD i 0)
/-- A list is mixed, from place i down to 1. -/
def Nd.mix : Nat → List Int → Nd → List Int × Nd
  | 0, l, x => (l, x)
  | i + 1, l, x => Nd.mix i (swapL l (i + 1) (x.draw (i + 2)).1.toNat) (x.draw (i + 2)).2
def Nd.newPass (x : Nd) : Nd :=
  if x.pass = [] then
    let l := (x.others.filter here).map (·.k.id)
    let r := Nd.mix (l.length - 1) l x
    { r.2 with pass := r.1 }
  else x
def Nd.begins (x : Nd) : List Pk × Nd :=
  let y := x.newPass
  match y.pass with
  | [] => ([], y)
  | t :: rest =>
    let z : Nd := { y.next with pass := rest, probe := some ⟨t, y.seq + 1, y.clock, false⟩ }
    ([(t, z.msg ⟨1, 0, 0, y.seq + 1, t, []⟩)], z.sent ⟨1, 0, 0, y.seq + 1, t, []⟩)
def Nd.due (x : Nd) : List Mem := x.others.filter (fun m => m.k.st == 2 && decide (m.due ≤ x.clock))
def Nd.clocked (x : Nd) : Nd :=
  let y : Nd := { x with clock := x.clock + 1, relays := x.relays.filter (fun r => decide (x.clock + 1 < r.ends)) }
  y.due.foldl (fun y m => y.hear ⟨m.k.id, m.k.inc, 3⟩) y
def Nd.tick (x : Nd) : List Pk × Nd :=
  let r := x.clocked.waits
  if r.2.probe.isNone ∧ r.2.self.st ≠ 4 then (r.1 ++ r.2.begins.1, r.2.begins.2) else r
/-- A new node. -/
def Nd.new (c : Cfg) (ds : List Int) : Nd :=
  { c, ds, at_ := 0, clock := 0, seq := 0, self := ⟨c.self, 1, 1⟩, others := [], pass := [], probe := none, queue := [], relays := [], dropped := 0, lost := 0, events := [] }
def cfgB (c : Cfg) : Bool :=
  withinB c.self 1 250 && withinB c.period 4 50 && withinB c.wait 1 (c.period - 2) && withinB c.susp 1 500 && withinB c.prox 0 3 && withinB c.sends 1 8
end Go.Proofs.YtfngdplkcppabaaGreat
