/-
  Plain words for what the program's values are: keys, messages, and the rows of cells in which they lie. No program in sight.
-/
import Derived.WalkKit
import Derived.Below
import Derived.Lib.Hide
namespace Go.Proofs.YtfngdplkcppabaaGreatDoor
open Go.RowKit

/-- A key. -/
structure K where
  id : Int
  inc : Int
  st : Int
  deriving DecidableEq

/-- A message; its updates are a list. -/
structure M where
  kind : Int
  frm : Int
  inc : Int
  seq : Int
  tgt : Int
  ups : List K

def K.agg (k : K) : Value := .agg #[.int .i64 k.id, .int .i64 k.inc, .int .i64 k.st]

/-- From address a on lie the keys of l. -/
def KeysAt (w : World) (a : Option Addr) (l : List K) : Prop :=
  ∀ i k, l[i]? = some k → ∃ b off, a = some ⟨b, off, none⟩ ∧ b < w.heap.size ∧
    w.cell? ⟨b, off + i * 3, none⟩ = some (.int .i64 k.id) ∧ w.cell? ⟨b, off + i * 3 + 1, none⟩ = some (.int .i64 k.inc) ∧ w.cell? ⟨b, off + i * 3 + 2, none⟩ = some (.int .i64 k.st)

theorem KeysAt.below {w w' : World} {a : Option Addr} {l : List K} (h : KeysAt w a l) (hb : Below w.heap.size w w') : KeysAt w' a l := by
  intro i k hk
  obtain ⟨b, off, e, hlt, h0, h1, h2⟩ := h i k hk
  exact ⟨b, off, e, Nat.lt_of_lt_of_le hlt hb.size, by rw [hb.cell hlt]; exact h0, by rw [hb.cell hlt]; exact h1, by rw [hb.cell hlt]; exact h2⟩

/-- The numbers of a key fit. -/
def K.fits (k : K) : Prop := (-9223372036854775808 ≤ k.id ∧ k.id ≤ 9223372036854775807) ∧ (-9223372036854775808 ≤ k.inc ∧ k.inc ≤ 9223372036854775807) ∧ (-9223372036854775808 ≤ k.st ∧ k.st ≤ 9223372036854775807)

def withinB (n lo hi : Int) : Bool := decide (lo ≤ n) && decide (n ≤ hi)
def roomI (k : Int) : Int := if k = 1 ∨ k = 2 ∨ k = 3 then 4 else if k = 4 ∨ k = 5 then 8 else -1
/-- Is the key one of an update? -/
def keyB (k : K) : Bool := withinB k.id 1 250 && withinB k.inc 1 1073741824 && withinB k.st 1 4
/-- Is the target one? -/
def tgtB (kind tgt : Int) : Bool := if roomI kind = 8 then tgt == 0 else withinB tgt 1 250
/-- wire.Whole: is it a message? -/
def wholeB (m : M) : Bool :=
  tgtB m.kind m.tgt && !decide ((m.ups.length : Int) > roomI m.kind) && withinB m.frm 1 250 && withinB m.inc 1 1073741824 && withinB m.seq 0 4294967295 && m.ups.all keyB

/-! ### A frame: what may have turned is what S says; all else lies as it lay; no block has gone. -/
structure Chg (S : Nat → Obj → Prop) (w w' : World) : Prop where
  os : w'.os = w.os
  tape : w'.tape = w.tape
  output : w'.output = w.output
  size : w.heap.size ≤ w'.heap.size
  kept : ∀ k o, w.heap[k]? = some o → ¬ S k o → w'.heap[k]? = some o
theorem Chg.refl (S : Nat → Obj → Prop) (w : World) : Chg S w w := ⟨rfl, rfl, rfl, Nat.le_refl _, fun _ _ h _ => h⟩
theorem Chg.trans {S : Nat → Obj → Prop} {a b c : World} (h : Chg S a b) (k : Chg S b c) : Chg S a c :=
  ⟨k.os.trans h.os, k.tape.trans h.tape, k.output.trans h.output, Nat.le_trans h.size k.size, fun i o ho hs => k.kept i o (h.kept i o ho hs) hs⟩
theorem Chg.mono {S S' : Nat → Obj → Prop} {w w' : World} (h : Chg S w w') (hS : ∀ k o, k < w.heap.size → S k o → S' k o) : Chg S' w w' :=
  ⟨h.os, h.tape, h.output, h.size, fun k o ho hs => h.kept k o ho (fun hk => hs (hS k o (Array.getElem?_eq_some_iff.1 ho).1 hk))⟩
theorem Chg.drew {S : Nat → Obj → Prop} {a w : World} (h : Chg S a w) : Chg S a w.drew := ⟨h.os, h.tape, h.output, h.size, h.kept⟩
theorem heap_lt {w : World} {k : Nat} {o : Obj} (h : w.heap[k]? = some o) : k < w.heap.size := (Array.getElem?_eq_some_iff.1 h).1
theorem Chg.alloc {S : Nat → Obj → Prop} {a w : World} (h : Chg S a w) (o : Obj) : Chg S a (w.alloc o) :=
  h.trans ⟨rfl, rfl, rfl, by simp, fun k o' hk _ => by rw [Below.heap_alloc _ _ _ (heap_lt hk)]; exact hk⟩
theorem Chg.setCell {S : Nat → Obj → Prop} {a w : World} (h : Chg S a w) {p : Addr} (u : Value) (hp : ∀ o, w.heap[p.block]? = some o → S p.block o) : Chg S a (w.setCell p u) :=
  h.trans ⟨rfl, rfl, rfl, by simp, fun k o hk hs => by
    rw [Below.heap_setCell _ _ _ _ (fun e => hs (by subst e; exact hp o hk))]; exact hk⟩
theorem Chg.grown {S : Nat → Obj → Prop} {a w w' : World} {row : Option Nat} (h : Chg S a w) (hg : w.grownBy w' row) (hr : ∀ k o, row = some k → w.heap[k]? = some o → S k o) : Chg S a w' :=
  h.trans ⟨hg.os, hg.tape, hg.output, hg.size, fun k o hk hs => by
    rw [hg.block k (heap_lt hk) (fun e => hs (hr k o e.symm hk))]; exact hk⟩
theorem Chg.below {S : Nat → Obj → Prop} {B : Nat} {w w' : World} (h : Chg S w w') (hB : B ≤ w.heap.size) (hS : ∀ k o, S k o → B ≤ k) : Below B w w' :=
  ⟨h.os, h.tape, h.output, h.size, fun k hk => by
    have hlt : k < w.heap.size := by omega
    obtain ⟨o, ho⟩ : ∃ o, w.heap[k]? = some o := ⟨w.heap[k], Array.getElem?_eq_getElem hlt⟩
    rw [ho, h.kept k o ho (fun hs => by have := hS k o hs; omega)]⟩
theorem below_of_alloc {w w' : World} {o : Obj} (h : Below w.heap.size (w.alloc o) w') : Below w.heap.size w w' := ((Below.refl _ w).alloc (Nat.le_refl _) o).trans h
theorem cells_at {w : World} {b : Nat} {c : Array Value} {t : TypeId} {f : Nat × Nat} (h : w.heap[b]? = some (.cells c t f)) (k : Nat) : w.cell? ⟨b, k, none⟩ = c[k]? := by
  simp [World.cell?, h]
theorem heap_new (w : World) (o : Obj) {n : Nat} (h : n = w.heap.size) : (w.alloc o).heap[n]? = some o := by rw [h]; exact heap_alloc_new w o
theorem heap_old {w : World} {k : Nat} {o : Obj} (o' : Obj) (h : w.heap[k]? = some o) : (w.alloc o').heap[k]? = some o := by
  rw [Below.heap_alloc _ _ _ (heap_lt h)]; exact h

theorem heap_alloc_ne (w : World) (o : Obj) (k : Nat) (h : k ≠ w.heap.size) : (w.alloc o).heap[k]? = w.heap[k]? := by
  show (w.heap.push o)[k]? = _
  rw [Array.getElem?_push, if_neg h]
theorem heap_alloc_eq (w : World) (o : Obj) : (w.alloc o).heap[w.heap.size]? = some o := heap_alloc_new w o
theorem heap_setCell_ne (w : World) (b i : Nat) (v : Value) (k : Nat) (h : k ≠ b) : (w.setCell ⟨b, i, none⟩ v).heap[k]? = w.heap[k]? := Below.heap_setCell w ⟨b, i, none⟩ v k h
theorem heap_setCell_eq {w : World} {b i : Nat} {v : Value} {c : Array Value} {t : TypeId} {f : Nat × Nat} (h : w.heap[b]? = some (.cells c t f)) :
    (w.setCell ⟨b, i, none⟩ v).heap[b]? = some (.cells (c.setIfInBounds i v) t f) := by
  simp [World.setCell, Array.getElem?_modify, h]
theorem cells_new (w : World) (l : List Value) (t : TypeId) {n : Nat} (hn : n = w.heap.size) : ∀ j u, l[j]? = some u → (w.alloc (.cells l.toArray t)).cell? ((⟨n, 0, none⟩ : Addr).add j) = some u := by
  intro j u h
  have e : (⟨n, 0, none⟩ : Addr).add j = ⟨n, j, none⟩ := by unfold Addr.add; split <;> simp_all
  rw [e, cells_at (heap_new w _ hn) j]
  simpa using h
theorem own_below {w : World} {B B' e s n : Nat} {v : Value} {xs : List Value} (h : w.ownsRow B e s v n xs) (hB : B' ≤ B) : w.ownsRow B' e s v n xs := by
  refine ⟨h.1, ?_⟩
  rcases h.2 with hn | ⟨g, cap, cur, rfl, hb, rest⟩
  · exact .inl hn
  · exact .inr ⟨g, cap, cur, rfl, by omega, rest⟩
theorem own_under {w w' : World} {B e s n : Nat} {v : Value} {xs : List Value} (h : w.ownsRow B e s v n xs) (hb : Below w.heap.size w w') : w'.ownsRow B e s v n xs := by
  refine ⟨h.1, ?_⟩
  rcases h.2 with hn | ⟨g, cap, cur, rfl, hB, hg, rest⟩
  · exact .inl hn
  · exact .inr ⟨g, cap, cur, rfl, hB, (hb.block g (heap_lt hg)).trans hg, rest⟩
theorem six_set {w : World} {b : Nat} {a0 a1 a2 a3 a4 a5 : Value} {t : TypeId} {f : Nat × Nat} (h : w.heap[b]? = some (.cells #[a0, a1, a2, a3, a4, a5] t f)) (v0 v1 v2 v3 v4 v5 : Value) {R : World → Prop}
    (hR : ∀ W, W.heap[b]? = some (.cells #[v0, v1, v2, v3, v4, v5] t f) → Chg (fun k _ => k = b) w W → R W) :
    R ((((((w.setCell ⟨b, 0, none⟩ v0).setCell ⟨b, 1, none⟩ v1).setCell ⟨b, 2, none⟩ v2).setCell ⟨b, 3, none⟩ v3).setCell ⟨b, 4, none⟩ v4).setCell ⟨b, 5, none⟩ v5) :=
  hR _ (heap_setCell_eq (heap_setCell_eq (heap_setCell_eq (heap_setCell_eq (heap_setCell_eq (heap_setCell_eq h))))))
    ((((((((Chg.refl (fun k _ => k = b) w).setCell _ (fun _ _ => rfl)).setCell _ (fun _ _ => rfl)).setCell _ (fun _ _ => rfl)).setCell _ (fun _ _ => rfl)).setCell _ (fun _ _ => rfl)).setCell _ (fun _ _ => rfl)))
theorem own_chg {S : Nat → Obj → Prop} {w w' : World} {B e s n : Nat} {v : Value} {xs : List Value} (h : w.ownsRow B e s v n xs) (hc : Chg S w w') (hS : ∀ g o, v.ownBlock = some g → ¬ S g o) : w'.ownsRow B e s v n xs := by
  refine ⟨h.1, ?_⟩
  rcases h.2 with hn | ⟨g, cap, cur, rfl, hb, hg, rest⟩
  · exact .inl hn
  · exact .inr ⟨g, cap, cur, rfl, hb, hc.kept g _ hg (hS g _ rfl), rest⟩
theorem unfrozen {w : World} {b : Nat} {c : Array Value} {t : TypeId} (h : w.heap[b]? = some (.cells c t (0, 0))) (k : Nat) : w.frozen? ⟨b, k, none⟩ = false := by
  simp [World.frozen?, h]

/-- append to a row of the call's own, as one step of a region that draws its order. -/
theorem step_append_own {P : Program} {ops : Array Oper} {o : Oper} {a : Act} {w : World} {K : Act → World → Prop} {Q : Exit → Act → World → Prop} {E : Prop}
    (hg : o.guard = none) (s x : Operand) (t : TypeId) (hop : o.op = Op.call { callee := Callee.builtin Builtin.append, args := #[s, x], argTypes := #[t, t] })
    (base : Nat) (e : TypeId) (i : TypeInfo) (z : Value) (size bytes : Nat) (ht : P.underlying t = some (.slice e)) (hi : P.info? e = some i) (hz : i.zero = some z)
    (hsize : i.size = size) (hby : i.bytes = bytes) (hzs : z.cells.size = size) (hsz : 0 < size)
    (v : Value) (n : Nat) (xs : List Value) (hs : a.eval s = v) (hown : w.ownsRow base e size v n xs)
    (ad : Addr) (m c : Nat) (news : List Value) (hx : a.eval x = .slice (some ad) m c) (hl : news.length = m * size) (hnews : ∀ j u, news[j]? = some u → w.cell? (ad.add j) = some u) (h1 : ∀ u ∈ news, u.oneCell' = true)
    (h63 : n + m ≤ maxLen) (hbytes : (n + m) * bytes ≤ 140737488355328) (hbase : base ≤ w.heap.size)
    (h : ∀ v' w', w'.ownsRow base e size v' (n + m) (xs ++ news) → w.grownBy w' v.ownBlock → (v' = .slice none 0 0 ↔ v = .slice none 0 0 ∧ m = 0) → K (a.put o.dst v') w') :
    if Region.wanted o (yielded ops a.tmps) = true then Oper.wp P o a w K Q else E := by
  have hw : Region.wanted o (yielded ops a.tmps) = true := by simp [Region.wanted, hg]
  rw [if_pos hw]
  exact wp_append_own w s x t hop base e i z size bytes ht hi hz hsize hby hzs hsz v n xs hs hown ad m c news hx hl hnews h1 h63 hbytes hbase h
end Go.Proofs.YtfngdplkcppabaaGreatDoor
