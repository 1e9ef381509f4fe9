/-
  node.changed: the event, and the update into the queue.
  node.refute.
  cmp.Compare, cmp.Or; table.Less, table.Here.
  node.hear's slices.DeleteFunc: an id out of the pass.
  A node's member, its pass: written.
-/
import Derived.Test.YtfngdplkcppabaaGreatPart04
import Derived.Conc.Token
import Derived.Deep.QuietTactic
import Derived.BigQuiet
import Derived.StillTailTactics
import Derived.Shelf.SlicesE.DeleteFunc
import Derived.Lib.SliceRun
import Derived.Test.YtfngdplkcppabaaGreatShelf
set_option linter.all false
namespace Go.Proofs.YtfngdplkcppabaaGreat
open Go.RowKit

/-- The node has become another: what may have turned was its own. -/
structure Turned (ov : Value) (w : World) (a : Ad) (x : Nd) (w' : World) (a' : Ad) (x' : Nd) : Prop where
  node : NodeAt w' a' ov x'
  chg : Chg (fun j _ => Owns a x j) w w'
  own : ∀ k, Owns a' x' k → Owns a x k ∨ w.heap.size ≤ k
  b : a'.b = a.b
theorem Turned.refl {ov : Value} {w : World} {a : Ad} {x : Nd} (h : NodeAt w a ov x) : Turned ov w a x w a x := ⟨h, Chg.refl _ w, fun _ => .inl, rfl⟩
theorem Turned.trans {ov : Value} {w w' w'' : World} {a a' a'' : Ad} {x x' x'' : Nd} (h : Turned ov w a x w' a' x') (k : Turned ov w' a' x' w'' a'' x'') : Turned ov w a x w'' a'' x'' :=
  ⟨k.node, ⟨k.chg.os.trans h.chg.os, k.chg.tape.trans h.chg.tape, k.chg.output.trans h.chg.output, Nat.le_trans h.chg.size k.chg.size, fun i o ho hs => k.chg.kept i o (h.chg.kept i o ho hs) (fun hk => (h.own i hk).elim hs (fun hl => absurd (heap_lt ho) (by omega)))⟩,
    fun j hj => (k.own j hj).elim (h.own j) (fun hl => .inr (Nat.le_trans h.chg.size hl)), k.b.trans h.b⟩
theorem chg_of_below {S : Nat → Obj → Prop} {w w' : World} (h : Below w.heap.size w w') : Chg S w w' := ⟨h.os, h.tape, h.output, h.size, fun k _ ho _ => (h.block k (heap_lt ho)).trans ho⟩
theorem zero_key (w : World) : (zeroValue 31).run Tryz.prog w = .ok (.agg #[.int .i64 0, .int .i64 0, .int .i64 0]) w := by kernel_rfl
/-- Only blocks of the node's own differ. -/
def Apart (w w' : World) (S : Nat → Prop) : Prop := ∀ j, ¬ S j → j < w.heap.size → w'.heap[j]? = w.heap[j]?
theorem apart_of_chg {w w' : World} {S : Nat → Prop} (h : Chg (fun j _ => S j) w w') : Apart w w' S := fun j hs hj => by
  rw [Array.getElem?_eq_getElem hj]
  exact h.kept j _ (Array.getElem?_eq_getElem hj) hs
theorem Apart.at {w w' : World} {S : Nat → Prop} (h : Apart w w' S) {j : Nat} {o : Obj} (ho : w.heap[j]? = some o) (hs : ¬ S j) : w'.heap[j]? = w.heap[j]? := h j hs (heap_lt ho)
section
variable {w w' : World} {a : Ad} {ov : Value} {x : Nd}
theorem NumsAt.blk {n c : Nat} {p : Option Addr} {l : List Int} (h : NumsAt w p n c l) {k : Nat} (hk : (Value.slice p n c).ownBlock = some k) : ∃ cur, w.heap[k]? = some (.cells cur 3 (0, 0)) := by
  cases p with
  | none => simp [Value.ownBlock] at hk
  | some p =>
    simp only [Value.ownBlock, Option.some.injEq] at hk
    obtain ⟨cur, hg, _⟩ := h.2.2 p rfl
    exact ⟨cur, hk ▸ hg⟩
theorem cells_ne_map {b c : Nat} {cs : Array Value} {t : TypeId} {f : Nat × Nat} {es : Array MapEntry} {n : Nat} (h : w.heap[b]? = some (.cells cs t f)) (h' : w.heap[c]? = some (.map es n)) : b ≠ c := by
  rintro rfl; rw [h] at h'; cases h'
/-- The queue's map has turned. -/
theorem NodeAt.setNews (h : NodeAt w a ov x) (e : Apart w w' (fun j => j = a.bm)) {q : List Upd} (hm : MapAt Tryz.prog 3 w' a.bm (qPairs q)) : NodeAt w' a ov { x with queue := q } := by
  obtain ⟨es, n, hb⟩ := h.news.isMap
  obtain ⟨es1, n1, hb1⟩ := h.others.isMap
  obtain ⟨es2, n2, hb2⟩ := h.relays.isMap
  obtain ⟨s, r, hc⟩ := h.chan
  obtain ⟨cs, h0⟩ := h.blk.block
  exact
    { h with
      blk := h.blk.heap (e.at h0 (cells_ne_map h0 hb))
      others := h.others.heap (e.at hb1 h.ne1)
      mems := fun m hm => (e.at (h.mems m hm) (cells_ne_map (h.mems m hm) hb)).trans (h.mems m hm)
      queue := (e.at h.queue (cells_ne_map h.queue hb)).trans h.queue
      news := hm
      chan := ⟨s, r, (e.at hc (fun q => by rw [q, hb] at hc; cases hc)).trans hc⟩
      pass := h.pass.heap (fun k hk => by obtain ⟨cur, hg⟩ := h.pass.blk hk; exact e.at hg (cells_ne_map hg hb))
      prb := fun p hp => (e.at (h.prb p hp) (cells_ne_map (h.prb p hp) hb)).trans (h.prb p hp)
      relays := h.relays.heap (e.at hb2 (fun e => h.ne2 e.symm))
      box1 := (e.at h.box1 (cells_ne_map h.box1 hb)).trans h.box1
      box2 := (e.at h.box2 (cells_ne_map h.box2 hb)).trans h.box2
      ds := h.ds.heap (fun k hk => by obtain ⟨cur, hg⟩ := h.ds.blk hk; exact e.at hg (cells_ne_map hg hb)) }
/-- The channel has turned. -/
theorem NodeAt.setChan (h : NodeAt w a ov x) (e : Apart w w' (fun j => j = a.bc)) {l : List K} (hl : ∃ s r, w'.heap[a.bc]? = some (.chan 8 (l.map K.v).toArray false s r false)) : NodeAt w' a ov { x with events := l } := by
  obtain ⟨es, n, hb⟩ := h.news.isMap
  obtain ⟨es1, n1, hb1⟩ := h.others.isMap
  obtain ⟨es2, n2, hb2⟩ := h.relays.isMap
  obtain ⟨s, r, hc⟩ := h.chan
  obtain ⟨cs, h0⟩ := h.blk.block
  have nc : ∀ {b : Nat} {cs : Array Value} {t : TypeId} {f : Nat × Nat}, w.heap[b]? = some (.cells cs t f) → b ≠ a.bc := by rintro b cs t f h1 rfl; rw [h1] at hc; cases hc
  have nm : ∀ {b : Nat} {es : Array MapEntry} {n : Nat}, w.heap[b]? = some (.map es n) → b ≠ a.bc := by rintro b es n h1 rfl; rw [h1] at hc; cases hc
  exact
    { h with
      blk := h.blk.heap (e.at h0 (nc h0))
      others := h.others.heap (e.at hb1 (nm hb1))
      mems := fun m hm => (e.at (h.mems m hm) (nc (h.mems m hm))).trans (h.mems m hm)
      queue := (e.at h.queue (nc h.queue)).trans h.queue
      news := h.news.heap (e.at hb (nm hb))
      chan := hl
      pass := h.pass.heap (fun k hk => by obtain ⟨cur, hg⟩ := h.pass.blk hk; exact e.at hg (nc hg))
      prb := fun p hp => (e.at (h.prb p hp) (nc (h.prb p hp))).trans (h.prb p hp)
      relays := h.relays.heap (e.at hb2 (nm hb2))
      box1 := (e.at h.box1 (nc h.box1)).trans h.box1
      box2 := (e.at h.box2 (nc h.box2)).trans h.box2
      ds := h.ds.heap (fun k hk => by obtain ⟨cur, hg⟩ := h.ds.blk hk; exact e.at hg (nc hg)) }
/-- The node's own cells have turned. -/
theorem NodeAt.setNode (h : NodeAt w a ov x) (e : Apart w w' (fun j => j = a.b)) {ov' : Value} {x' : Nd} (hb : NB w' a.b (nodeF a ov' x'))
    (q : x'.others = x.others ∧ x'.c = x.c ∧ x'.queue = x.queue ∧ x'.events = x.events ∧ x'.pass = x.pass ∧ x'.probe = x.probe ∧ x'.relays = x.relays ∧ x'.ds = x.ds ∧ x'.at_ = x.at_) : NodeAt w' a ov' x' := by
  obtain ⟨es, n, hm⟩ := h.news.isMap
  obtain ⟨es1, n1, hb1⟩ := h.others.isMap
  obtain ⟨es2, n2, hb2⟩ := h.relays.isMap
  obtain ⟨s, r, hc⟩ := h.chan
  obtain ⟨cs, h0⟩ := h.blk.block
  obtain ⟨c', ds', at', cl', sq', sf', ot', pa', pr', qu', re', dr', lo', ev'⟩ := x'
  simp only at q
  obtain ⟨rfl, rfl, rfl, rfl, rfl, rfl, rfl, rfl, rfl⟩ := q
  have nt : ∀ {b : Nat} {cs' : Array Value} {t : TypeId} {f : Nat × Nat}, w.heap[b]? = some (.cells cs' t f) → t ≠ 79 → b ≠ a.b := by
    rintro b cs' t f h1 ht rfl; rw [h1] at h0; simp only [Option.some.injEq, Obj.cells.injEq] at h0; exact ht h0.2.1
  have nm : ∀ {b : Nat} {es : Array MapEntry} {n : Nat}, w.heap[b]? = some (.map es n) → b ≠ a.b := by rintro b es n h1 rfl; rw [h1] at h0; cases h0
  exact
    { h with
      blk := hb
      others := h.others.heap (e.at hb1 (nm hb1))
      mems := fun m hm => (e.at (h.mems m hm) (nt (h.mems m hm) (by decide))).trans (h.mems m hm)
      queue := (e.at h.queue (nt h.queue (by decide))).trans h.queue
      news := h.news.heap (e.at hm (nm hm))
      chan := ⟨s, r, (e.at hc (fun q => by rw [q, h0] at hc; cases hc)).trans hc⟩
      pass := h.pass.heap (fun k hk => by obtain ⟨cur, hg⟩ := h.pass.blk hk; exact e.at hg (nt hg (by decide)))
      prb := fun p hp => (e.at (h.prb p hp) (nt (h.prb p hp) (by decide))).trans (h.prb p hp)
      relays := h.relays.heap (e.at hb2 (nm hb2))
      box1 := (e.at h.box1 (nt h.box1 (by decide))).trans h.box1
      box2 := (e.at h.box2 (nt h.box2 (by decide))).trans h.box2
      ds := h.ds.heap (fun k hk => by obtain ⟨cur, hg⟩ := h.ds.blk hk; exact e.at hg (nt hg (by decide))) }
end

set_option maxRecDepth 100000 in
set_option maxHeartbeats 1000000 in
theorem changed_any (a : Ad) (ov : Value) (x : Nd) (k : K) (w : World) (h : NodeAt w a ov x) (hl : x.queue.length < 1000000) (hk : fitsI k.id) (hlost : -9223372036854775808 ≤ x.lost ∧ x.lost < 9223372036854775807) (hev : x.events.length ≤ 8) :
    Calls Tryz.prog 46 #[.pointer (some ⟨a.b, 0, none⟩), .agg #[.int .i64 k.id, .int .i64 k.inc, .int .i64 k.st]] w fun e w' =>
      e = .returned (.tuple #[]) ∧ Turned ov w a x w' a (x.changed k) := by
  obtain ⟨w1, hw1⟩ : ∃ w1, w.alloc (.cells #[.int .i64 k.id, .int .i64 k.inc, .int .i64 k.st] 31) = w1 := ⟨_, rfl⟩
  have hb1 : Below w.heap.size w w1 := by rw [← hw1]; exact (Below.refl _ _).alloc (Nat.le_refl _) _
  have h1 : NodeAt w1.drew a ov x := h.below (hb1.drew)
  have hx1 : w1.heap[w.heap.size]? = some (.cells #[.int .i64 k.id, .int .i64 k.inc, .int .i64 k.st] 31 (0, 0)) := by rw [← hw1]; exact heap_alloc_eq w _
  have d0 := cells_at hx1 0
  have d1 := cells_at hx1 1
  have d2 := cells_at hx1 2
  simp only [List.getElem?_toArray, List.getElem?_cons_succ, List.getElem?_cons_zero] at d0 d1 d2
  have c11 : w1.cell? ⟨a.b, 11, none⟩ = some (.pointer (some ⟨a.bq, 0, none⟩)) := h1.blk.cell (by omega)
  have wl : IntKind.i64.wrap (x.lost + 1) = x.lost + 1 := IntWalk.i64_in _ (by omega)
  have HW1 := Lib.hid hw1
  have HX1 := Lib.hid hx1
  have H1 := Lib.hid h1
  have HB1 := Lib.hid hb1
  have H0 := Lib.hid h
  clear hw1 hx1 h1 hb1 h
  refine calls_of_wpN Tryz.func46 rfl ?_
  simp only [Tryz.ntmps46, List.size_toArray, List.length_cons, List.length_nil, Nat.reduceAdd, Nat.reduceSub, Array.replicate_succ,
     Array.replicate_zero, List.push_toArray, List.append_toArray, List.nil_append, List.cons_append]
  refine wpN_first (fun K0 hK => ?_)
  go_wp2
  rw [HW1.out]
  refine wpN_first (fun K0 hK => ?_)
  go_region_with (go_at_call 62; refine (nput_any a.bq a.bm _ x.queue k _ H1.out.queue H1.out.news hl hk).mono ?_; rintro e w2 ⟨rfl, hm2, hc2⟩)
  all_goals
    have HN2 := Lib.hid (H1.out.setNews (apart_of_chg hc2) hm2)
    have h2 := HN2.out
    have n2 : w2.heap[w.heap.size]? = some (.cells #[.int .i64 k.id, .int .i64 k.inc, .int .i64 k.st] 31 (0, 0)) := hc2.kept _ _ HX1.out (by have := H0.out.news.lt; omega)
    have c12 : w2.cell? ⟨a.b, 12, none⟩ = some (.chan (some a.bc)) := h2.blk.cell (by omega)
    have c19 : w2.cell? ⟨a.b, 19, none⟩ = some (.int .i64 x.lost) := h2.blk.cell (by omega)
    have f19 : w2.frozen? ⟨a.b, 19, none⟩ = false := h2.blk.free 19
    have e0 := cells_at n2 0
    have e1 := cells_at n2 1
    have e2 := cells_at n2 2
    simp only [List.getElem?_toArray, List.getElem?_cons_succ, List.getElem?_cons_zero] at e0 e1 e2
    obtain ⟨s, r, hch⟩ := h2.chan
    simp only at hch
    have HCH := Lib.hid hch
    have HT : Hid (Turned ov w a x w2 a { x with queue := x.queue.filter (fun u => u.k.id != k.id) ++ [⟨k, 0⟩] }) := Lib.hid ⟨h2, (chg_of_below HB1.out.drew).trans (hc2.mono fun j _ _ hj => by subst hj; exact .inr (.inr (.inr (.inl rfl)))), fun _ => .inl, rfl⟩
    clear h2 n2 hch hm2 hc2 HN2
    go_wp2
    refine wpN_first (fun K0 hK => ?_)
    go_wp2
    refine wpN_seq ?_
    by_cases hev8 : x.events.length = 8
    · have HEV := Lib.hid hev8
      refine wpN_send_full (Operand.tmp 13) (Operand.tmp 14) 31 a.bc 8 s r _ _ (.agg #[.int .i64 0, .int .i64 0, .int .i64 0]) rfl rfl rfl rfl ?_ HCH.out (by simp; omega) ?_
      · exact zero_key
      go_wp2
      refine wpN_of_wp ?_
      go_wp2
      go_end0
      have e : x.changed k = { x with queue := x.queue.filter (fun u => u.k.id != k.id) ++ [⟨k, 0⟩], lost := x.lost + 1 } := by simp [Nd.changed, full, HEV.out]
      rw [e]
      refine ⟨rfl, HT.out.trans ⟨?_, (Chg.refl _ _).setCell _ (fun _ _ => .inl rfl), fun _ => .inl, rfl⟩⟩
      refine HT.out.node.setNode (apart_of_chg ((Chg.refl _ _).setCell _ (fun _ _ => rfl))) ?_ ⟨rfl, rfl, rfl, rfl, rfl, rfl, rfl, rfl, rfl⟩
      exact (HT.out.node.blk.set (i := 19) (by omega) (.int .i64 (x.lost + 1))).congr (by (intro i hi; rcases i with _ | _ | _ | _ | _ | _ | _ | _ | _ | _ | _ | _ | _ | _ | _ | _ | _ | _ | _ | _ | _ | _ | _ | _ | _ | _ | _ | i <;> first | rfl | exact absurd hi (by omega)))
    · refine wpN_send_room (Operand.tmp 13) (Operand.tmp 14) 31 a.bc 8 s r _ _ (.agg #[.int .i64 0, .int .i64 0, .int .i64 0]) rfl rfl rfl rfl ?_ HCH.out (by simp; omega) ?_
      · exact zero_key
      go_wp2
      refine wpN_of_wp ?_
      go_wp2
      go_end0
      have hff : full x.events = false := by simp [full, hev8]
      have e : x.changed k = { x with queue := x.queue.filter (fun u => u.k.id != k.id) ++ [⟨k, 0⟩], events := x.events ++ [k] } := by simp [Nd.changed, hff]
      rw [e]
      have hap : Chg (fun j _ => j = a.bc) w2 (w2.setChan a.bc 8 (List.map K.v x.events ++ [Value.agg #[.int .i64 k.id, .int .i64 k.inc, .int .i64 k.st]]).toArray false (s + 1) r false) :=
        ⟨rfl, rfl, rfl, by rw [Conc.size_setChan]; exact Nat.le_refl _, fun j o ho hj => by rw [Conc.heap_setChan_ne _ _ _ _ _ _ _ (fun e => hj e.symm)]; exact ho⟩
      refine ⟨rfl, HT.out.trans ⟨?_, hap.mono (fun j _ _ hj => by have hj : j = a.bc := hj; subst hj; exact Or.inr (.inr (.inr (.inr (.inl rfl))))), fun _ => .inl, rfl⟩⟩
      refine HT.out.node.setChan (apart_of_chg hap) ⟨s + 1, r, ?_⟩
      rw [Conc.heap_setChan _ _ _ _ _ _ _ _ (heap_lt HCH.out)]
      simp [K.v]
end Go.Proofs.YtfngdplkcppabaaGreat
namespace Go.Proofs.YtfngdplkcppabaaGreat
open Go.RowKit

theorem Ok.changed_any {x : Nd} (ho : Ok x) {B : Int} (hb : Bd B x) (hB : B ≤ 1000000000000) (a : Ad) (ov : Value) (k : K) (hk : keyOk k) (w : World) (h : NodeAt w a ov x) :
    Calls Tryz.prog 46 #[.pointer (some ⟨a.b, 0, none⟩), .agg #[.int .i64 k.id, .int .i64 k.inc, .int .i64 k.st]] w fun e w' =>
      e = .returned (.tuple #[]) ∧ Turned ov w a x w' a (x.changed k) :=
  Go.Proofs.YtfngdplkcppabaaGreat.changed_any a ov x k w h (by have := ho.qlen; omega) (by have := hk.1; unfold fitsI; omega) (by have := hb.lost; omega) ho.evs

theorem Turned.alloc {w : World} {a : Ad} {ov : Value} {x : Nd} (h : NodeAt w a ov x) (o : Obj) : Turned ov w a x (w.alloc o) a x :=
  ⟨h.below ((Below.refl _ _).alloc (Nat.le_refl _) _), chg_of_below ((Below.refl _ _).alloc (Nat.le_refl _) _), fun _ => .inl, rfl⟩
theorem Turned.drew {w w' : World} {a a' : Ad} {ov : Value} {x x' : Nd} (h : Turned ov w a x w' a' x') : Turned ov w a x w'.drew a' x' :=
  ⟨h.node.below ((Below.refl _ _).drew), h.chg.drew, h.own, h.b⟩
theorem Turned.drewN {w w' : World} {a a' : Ad} {ov : Value} {x x' : Nd} (h : Turned ov w a x w' a' x') (n : Nat) : Turned ov w a x (w'.drewN n) a' x' := by
  induction n with
  | zero => exact h
  | succ n ih => exact ih.drew

set_option maxRecDepth 100000 in
set_option maxHeartbeats 1000000 in
theorem refute_any {x : Nd} (ho : Ok x) {B : Int} (hb : Bd B x) (hB : B ≤ 1000000000000) (a : Ad) (ov : Value) (k : K) (hk : keyOk k) (w : World) (h : NodeAt w a ov x) :
    Calls Tryz.prog 41 #[.pointer (some ⟨a.b, 0, none⟩), .agg #[.int .i64 k.id, .int .i64 k.inc, .int .i64 k.st]] w fun e w' =>
      e = .returned (.tuple #[]) ∧ Turned ov w a x w' a (x.refute k) := by
  have wl : IntKind.i64.wrap (k.inc + 1) = k.inc + 1 := IntWalk.i64_in _ (by have := hk.2.1; omega)
  have hlt := h.blk.lt
  obtain ⟨kid, kinc, kst⟩ := k
  simp only at wl ⊢
  have H := Lib.hid h
  have HK := Lib.hid hk
  clear h hk
  have c8 : ∀ o, (w.alloc o).cell? ⟨a.b, 8, none⟩ = some (.int .i64 x.self.inc) := fun o => (H.out.blk.alloc o).cell (by omega)
  have c9 : ∀ o, (w.alloc o).cell? ⟨a.b, 9, none⟩ = some (.int .i64 x.self.st) := fun o => (H.out.blk.alloc o).cell (by omega)
  have f8 : ∀ o, (w.alloc o).frozen? ⟨a.b, 8, none⟩ = false := fun o => (H.out.blk.alloc o).free 8
  have c7 : ∀ o, (w.alloc o).cell? ⟨a.b, 7, none⟩ = some (.int .i64 x.self.id) := fun o => (H.out.blk.alloc o).cell (by omega)
  by_cases h9 : x.self.st = 4 ∨ kst = 1 ∨ kinc < x.self.inc ∨ kinc = 1073741824
  · have e : x.refute ⟨kid, kinc, kst⟩ = x := by simp [Nd.refute, h9]
    rw [e]
    have h9' : ((x.self.st == 4) = true) ∨ (((x.self.st == 4) = false) ∧ ((kst == 1) = true)) ∨ (((x.self.st == 4) = false) ∧ ((kst == 1) = false) ∧ decide (kinc < x.self.inc) = true) ∨ (((x.self.st == 4) = false) ∧ ((kst == 1) = false) ∧ decide (kinc < x.self.inc) = false ∧ ((kinc == 1073741824) = true)) := by
      rcases Int.decEq x.self.st 4 with h | h <;> rcases Int.decEq kst 1 with h' | h' <;> rcases Int.decLt kinc x.self.inc with h'' | h'' <;> simp_all <;> omega
    clear h9
    rcases h9' with h9 | ⟨h9, h10⟩ | ⟨h9, h10, h11⟩ | ⟨h9, h10, h11, h12⟩
    all_goals
      go_enter Tryz.func41, Tryz.ntmps41
      go_wp2
      go_quiet (fail)
      go_wp2
      ((try simp only [Exit.inBlock, Exit.then]); first | refine bodyPost_ret (results_none rfl _ _ _) rfl ?_ | refine bodyPost_end (results_none rfl _ _ _) rfl ?_)
      exact ⟨rfl, Turned.drewN (Turned.alloc H.out _) _⟩
  · have e : x.refute ⟨kid, kinc, kst⟩ = ({ x with self := { x.self with inc := kinc + 1 } } : Nd).changed { x.self with inc := kinc + 1 } := by simp only [Nd.refute, if_neg h9]
    rw [e]
    obtain ⟨h9, h10, h11, h12⟩ : (x.self.st == 4) = false ∧ (kst == 1) = false ∧ decide (kinc < x.self.inc) = false ∧ (kinc == 1073741824) = false := by
      simp only [not_or] at h9
      simp [h9]
    go_enter Tryz.func41, Tryz.ntmps41
    go_wp2
    go_quiet (fail)
    have hT : Hid (∀ nq, Turned ov w a x (((w.alloc (.cells #[.int .i64 kid, .int .i64 kinc, .int .i64 kst] 31)).drewN nq).setCell ⟨a.b, 8, none⟩ (.int .i64 (kinc + 1))) a { x with self := { x.self with inc := kinc + 1 } }) := by
      refine Lib.hid (fun nq => ?_)
      have h1 := Turned.drewN (Turned.alloc H.out (.cells #[.int .i64 kid, .int .i64 kinc, .int .i64 kst] 31)) nq
      refine h1.trans ⟨?_, (Chg.refl _ _).setCell _ (fun _ _ => .inl rfl), fun _ => .inl, rfl⟩
      refine h1.node.setNode (apart_of_chg ((Chg.refl _ _).setCell _ (fun _ _ => rfl))) ?_ ⟨rfl, rfl, rfl, rfl, rfl, rfl, rfl, rfl, rfl⟩
      exact (h1.node.blk.set (i := 8) (by omega) (.int .i64 (kinc + 1))).congr (by (intro i hi; rcases i with _ | _ | _ | _ | _ | _ | _ | _ | _ | _ | _ | _ | _ | _ | _ | _ | _ | _ | _ | _ | _ | _ | _ | _ | _ | _ | _ | i <;> first | rfl | exact absurd hi (by omega)))
    have ho' : Ok { x with self := { x.self with inc := kinc + 1 } } := by
      have h := HK.out
      simp only [beq_eq_false_iff_ne, decide_eq_false_iff_not] at h12 h11
      refine ⟨ho.cfg, ho.selfId, ?_, ho.rise, ho.notSelf, ho.key, ho.len, ho.qnd, ho.qin, ho.qkey, ho.rnd, ho.rlen, ho.rok, ho.pin, ho.pnd, ho.prb, ho.evs, ho.ekey, ho.due⟩
      have hs := ho.self
      have := h.2.1
      simp only [keyOk] at hs ⊢
      simp only at this
      omega
    have hb' : Bd B { x with self := { x.self with inc := kinc + 1 } } := ⟨hb.clock, hb.seq, hb.dropped, hb.lost, hb.at_⟩
    have HO := Lib.hid ho'
    have HB := Lib.hid hb'
    clear ho' hb' ho hb
    go_wp2_with (go_at_call 46; refine (HO.out.changed_any HB.out hB a ov ⟨x.self.id, kinc + 1, x.self.st⟩ HO.out.self _ (hT.out _).node).mono ?_; rintro e w2 ⟨rfl, hT2⟩)
    ((try simp only [Exit.inBlock, Exit.then]); first | refine bodyPost_ret (results_none rfl _ _ _) rfl ?_ | refine bodyPost_end (results_none rfl _ _ _) rfl ?_)
    exact ⟨rfl, (hT.out _).trans hT2⟩
end Go.Proofs.YtfngdplkcppabaaGreat
namespace Go.Proofs.YtfngdplkcppabaaGreat
open Go.RowKit

def cmpI (x y : Int) : Int := if x < y then -1 else if y < x then 1 else 0
def orI (x y : Int) : Int := if x = 0 then y else x
theorem wp_tail {P : Program} {id : Nat} {Q : Exit → Act → World → Prop} {a : Act} {w : World} {l : List Oper} (n : Nat) (hm : P.follows .mixedOrders = true) (hB : Region.lexTailB .any l.toArray n = true)
    (h : wpStill P l.toArray w.drew (fun a' => wpList P l.toArray Q (l.drop n) a' w.drew) (l.take n) a) : (Code.region id l.toArray true).wp P Q a w := wp_region_still_tail n hm hB h
set_option maxHeartbeats 1000000 in
theorem compare_any (x y : Int) (w : World) : Calls Tryz.prog 50 #[.int .i64 x, .int .i64 y] w fun e w' => e = .returned (.int .i64 (cmpI x y)) ∧ w' = w := by
  rcases Int.lt_trichotomy x y with h | h | h
  · rw [show cmpI x y = -1 by simp [cmpI, h]]
    go_enter Tryz.func50, Tryz.ntmps50
    go_wp2
    go_ret
    exact ⟨rfl, rfl⟩
  · rw [show cmpI x y = 0 by unfold cmpI; rw [if_neg (by omega), if_neg (by omega)]]
    subst h
    go_enter Tryz.func50, Tryz.ntmps50
    go_wp2
    go_ret
    exact ⟨rfl, rfl⟩
  · rw [show cmpI x y = 1 by unfold cmpI; rw [if_neg (by omega), if_pos h]]
    go_enter Tryz.func50, Tryz.ntmps50
    go_wp2
    go_ret
    exact ⟨rfl, rfl⟩
set_option maxHeartbeats 1000000 in
theorem here_any (m : Nat) (st : Int) (w : World) (c : w.cell? ⟨m, 2, none⟩ = some (.int .i64 st)) :
    Calls Tryz.prog 43 #[.pointer (some ⟨m, 0, none⟩)] w fun e w' => e = .returned (.bool (decide (st ≤ 2))) ∧ w' = w := by
  go_enter Tryz.func43, Tryz.ntmps43
  go_wp2
  go_ret
  exact ⟨rfl, rfl⟩
set_option maxHeartbeats 1000000 in
theorem or_any (x y : Int) (b : Nat) (w : World) (hb : w.heap[b]? = some (.cells #[.int .i64 x, .int .i64 y] 3 (0, 0))) :
    Calls Tryz.prog 60 #[.slice (some ⟨b, 0, none⟩) 2 2] w fun e w' => e = .returned (.int .i64 (orI x y)) ∧ w' = w := by
  have c0 := cells_at hb 0
  have c1 := cells_at hb 1
  simp only [List.getElem?_toArray, List.getElem?_cons_succ, List.getElem?_cons_zero] at c0 c1
  clear hb
  go_enter Tryz.func60, Tryz.ntmps60
  go_wp2
  go_loop [8] (fun i => ∃ k : Nat, k ≤ 2 ∧ i = .int .i64 k ∧ (0 < k → x = 0) ∧ (1 < k → y = 0)) (fun i => 2 - (intOf i).toNat)
  case atStart => exact ⟨0, by omega, rfl, by omega, by omega⟩
  case round =>
    obtain ⟨k, hk, rfl, h0, h1⟩ := hrel
    rcases (show k = 0 ∨ k = 1 ∨ k = 2 by omega) with rfl | rfl | rfl
    · by_cases h : x = 0
      · subst h
        go_wp2
        exact ⟨⟨1, by omega, rfl, by simp, by simp⟩, by decide⟩
      · go_wp2
        go_ret
        exact ⟨by simp [orI, h], rfl⟩
    · have h := h0 (by omega)
      subst h
      by_cases h : y = 0
      · subst h
        go_wp2
        exact ⟨⟨2, by omega, rfl, by simp, by simp⟩, by decide⟩
      · go_wp2
        go_ret
        exact ⟨by simp [orI], rfl⟩
    · have h := h0 (by omega)
      have h' := h1 (by omega)
      subst h
      subst h'
      go_wp2
      go_ret
      exact ⟨by simp [orI], rfl⟩
set_option maxRecDepth 100000 in
set_option maxHeartbeats 1000000 in
theorem less_any (k k' : K) (w : World) : Calls Tryz.prog 42 #[.agg #[.int .i64 k.id, .int .i64 k.inc, .int .i64 k.st], .agg #[.int .i64 k'.id, .int .i64 k'.inc, .int .i64 k'.st]] w fun e w' => e = .returned (.bool (lessK k k')) ∧ Below w.heap.size w w' := by
  have hb : Below w.heap.size w (((w.alloc (.cells #[.int .i64 k.id, .int .i64 k.inc, .int .i64 k.st] 31)).alloc (.cells #[.int .i64 k'.id, .int .i64 k'.inc, .int .i64 k'.st] 31))) := ((Below.refl _ _).alloc (Nat.le_refl _) _).alloc (by simp) _
  have e : (decide (orI (cmpI k.inc k'.inc) (cmpI k.st k'.st) < 0)) = lessK k k' := by
    unfold lessK orI cmpI
    rw [decide_eq_decide]
    split <;> split <;> (try split) <;> (try split) <;> omega
  obtain ⟨kid, kinc, kst⟩ := k
  obtain ⟨kid', kinc', kst'⟩ := k'
  simp only at e ⊢
  rw [← e]
  have HB := Lib.hid hb
  have hn : ∀ o1 o2 o3, (((w.alloc o1).alloc o2).alloc o3).drew.heap[w.heap.size + 1 + 1]? = some o3 := fun o1 o2 o3 => heap_new _ _ (by simp)
  clear hb e
  go_enter Tryz.func42, Tryz.ntmps42
  go_wp2
  (refine wp_tail 10 (by kernel_rfl) (by kernel_rfl) ?_; simp only [List.take_succ_cons, List.take_zero, List.drop_succ_cons, List.drop_zero]; repeat still_step)
  still_call (compare_any _ _ _)
  repeat still_step
  still_call (compare_any _ _ _)
  refine wpStill_nil ?_
  go_wp2_with (go_at_call 60; refine (or_any (cmpI kinc kinc') (cmpI kst kst') _ _ (hn _ _ _)).mono ?_; rintro e w2 ⟨rfl, rfl⟩)
  go_ret
  exact ⟨rfl, (HB.out.alloc (by simp; omega) _).drew⟩
end Go.Proofs.YtfngdplkcppabaaGreat
namespace Go.Proofs.YtfngdplkcppabaaGreat
open Go.RowKit
section
open Go.Shelf Go.Lib Go.Sort

theorem hear1_gives (id x : Int) (B : Nat) (W : World) (hc : W.cell? ⟨B, 0, none⟩ = some (.int .i64 id)) :
    FnGives Tryz.prog 45 #[.pointer (some ⟨B, 0, none⟩)] #[.int .i64 x] (.bool (x == id)) W := by
  show Calls Tryz.prog 45 #[.int .i64 x, .pointer (some ⟨B, 0, none⟩)] W _
  go_enter Tryz.func45, Tryz.ntmps45
  go_wp2
  all_goals (go_ret; exact ⟨by simp_all, 0, rfl⟩)
theorem heap_putRow {α : Type} [Inhabited α] (enc : α → Value) {w : World} {blk : Nat} (off : Nat) (d : Array α) {cur : Array Value} {t : TypeId} {f : Nat × Nat} (h : w.heap[blk]? = some (.cells cur t f)) :
    (putRow enc w blk off d).heap[blk]? = some (.cells (putCells enc off d cur) t f) := by
  simp [putRow, mapBlock, Array.getElem?_modify, h, onCells]
theorem heap_putRow_ne {α : Type} [Inhabited α] (enc : α → Value) (w : World) {blk k : Nat} (off : Nat) (d : Array α) (h : k ≠ blk) : (putRow enc w blk off d).heap[k]? = w.heap[k]? := by
  simp [putRow, mapBlock, Array.getElem?_modify, Ne.symm h]
theorem chg_putRow {α : Type} [Inhabited α] (enc : α → Value) (w : World) (q blk off : Nat) (d : Array α) : Chg (fun j _ => j = blk) w (putRow enc (Sort.ahead w q) blk off d) :=
  ⟨rfl, rfl, rfl, by simp [putRow, mapBlock, Sort.ahead], fun k o ho hk => by rw [heap_putRow_ne enc _ off d hk]; exact ho⟩
set_option maxRecDepth 100000 in
theorem delPass_any (id : Int) (B : Nat) (pa : Option Addr) (pc : Nat) (l : List Int) (w : World) (hN : NumsAt w pa l.length pc l) (h0 : pa = none → l = [] ∧ pc = 0) (hl : l.length ≤ 1000000) (hB : B < w.heap.size)
    (hcell : w.cell? ⟨B, 0, none⟩ = some (.int .i64 id)) (hne : ∀ k, (Value.slice pa l.length pc).ownBlock = some k → B ≠ k) :
    Calls Tryz.prog 44 #[.slice pa l.length pc, .func (.func 45) #[] #[.pointer (some ⟨B, 0, none⟩)]] w fun e w' =>
      e = .returned (.slice pa (l.filter (fun n => n != id)).length pc) ∧ NumsAt w' pa (l.filter (fun n => n != id)).length pc (l.filter (fun n => n != id)) ∧ Chg (fun j _ => (Value.slice pa l.length pc).ownBlock = some j) w w' := by
  cases pa with
  | none =>
    obtain ⟨rfl, rfl⟩ := h0 rfl
    go_enter Tryz.func44, Tryz.ntmps44
    go_wp2
    go_loop [8] (fun i => i = .int .i64 0) (fun _ => 0)
    case atStart => rfl
    case round =>
      subst hrel
      go_wp2
      go_ret
      exact ⟨rfl, ⟨rfl, Nat.le_refl _, fun p hp => by cases hp⟩, Chg.refl _ _⟩
  | some p =>
    obtain ⟨blk, off, spot⟩ := p
    obtain ⟨_, hlc, hp⟩ := hN
    obtain ⟨cur, hg, hsp, hoc, hcs⟩ := hp _ rfl
    simp only at hg hsp hoc hcs
    subst hsp
    have hbB : B ≠ blk := hne blk rfl
    have eg : ∀ args w, (callFunc 45 args).run Tryz.prog w = .ok (.enter 45 args) w := enters_of Tryz.func45 (by kernel_rfl) rfl
    have hz : ∀ w, (zeroValue 3).run Tryz.prog w = .ok (.int .i64 0) w := fun w => by kernel_rfl
    have hH : Holds (Value.int .i64) w blk off l.toArray := fun j hj => by
      have hj' : j < l.length := by simpa using hj
      refine ⟨?_, unfrozen hg _⟩
      rw [cells_at hg, hcs j (l.toArray[j]!) (by rw [List.getElem?_eq_getElem hj']; simp [hj'])]
    have hcon := AnyE.slices_DeleteFunc layDel (Value.int .i64) (fun _ => rfl) (fun x => x == id) 45 #[.pointer (some ⟨B, 0, none⟩)] eg 0 hz blk off pc l.toArray w
      (fun W x hb => hear1_gives id x B W ((hb.cell (p := ⟨B, 0, none⟩) hB).trans hcell))
      (fun n os dk x _ => hear1_gives id x B _ (by
        unfold sortWorld
        rw [cell?_grow _ _ _ (by show B < (putRow _ _ _ _ _).heap.size; rw [size_putRow]; exact hB), cell?_putRow_other _ _ blk off _ _ (Or.inl hbB)]
        exact hcell)) hH (by simp; omega) (by simpa using hlc)
    change Calls Tryz.prog 44 _ _ _ at hcon
    simp only [List.size_toArray] at hcon
    have ef : (l.filter (fun n => n != id)) = l.filter fun x => !(x == id) := rfl
    rw [ef]
    have hle : (l.filter fun x => !(x == id)).length ≤ l.length := List.length_filter_le _ _
    generalize (l.filter fun x => !(x == id)) = r at hcon hle ⊢
    refine hcon.mono ?_
    rintro e w' ⟨rfl, q, rfl⟩
    refine ⟨rfl, ⟨rfl, by omega, fun p hp => ?_⟩, (chg_putRow _ _ _ _ _ _).mono (fun j _ _ hj => by subst hj; rfl)⟩
    cases hp
    refine ⟨_, heap_putRow _ _ _ hg, rfl, by simpa [putCells] using hoc, fun i v hi => ?_⟩
    have hir : i < r.length := by
      rcases Nat.lt_or_ge i r.length with h' | h'
      · exact h'
      · rw [List.getElem?_eq_none h'] at hi; cases hi
    have hcur : off + i < cur.size := by omega
    rw [List.getElem?_eq_getElem hir] at hi
    simp only [Option.some.injEq] at hi
    subst hi
    have e2 : off + i - off = i := by omega
    simp only [putCells, Array.getElem?_mapIdx, Array.getElem?_eq_getElem hcur, Option.map_some, Option.some.injEq, e2]
    rw [if_pos ⟨by omega, by simp; omega⟩]
    congr 1
    simp [List.getElem?_append_left hir, hir]
end
end Go.Proofs.YtfngdplkcppabaaGreat
namespace Go.Proofs.YtfngdplkcppabaaGreat
open Go.RowKit
theorem four_set {w : World} {b : Nat} {a0 a1 a2 a3 : Value} {t : TypeId} {f : Nat × Nat} (h : w.heap[b]? = some (.cells #[a0, a1, a2, a3] t f)) (v0 v1 v2 v3 : Value) :
    ((((w.setCell ⟨b, 0, none⟩ v0).setCell ⟨b, 1, none⟩ v1).setCell ⟨b, 2, none⟩ v2).setCell ⟨b, 3, none⟩ v3).heap[b]? = some (.cells #[v0, v1, v2, v3] t f) ∧
    Chg (fun k _ => k = b) w ((((w.setCell ⟨b, 0, none⟩ v0).setCell ⟨b, 1, none⟩ v1).setCell ⟨b, 2, none⟩ v2).setCell ⟨b, 3, none⟩ v3) :=
  ⟨heap_setCell_eq (heap_setCell_eq (heap_setCell_eq (heap_setCell_eq h))),
    ((((Chg.refl (fun k _ => k = b) w).setCell _ (fun _ _ => rfl)).setCell _ (fun _ _ => rfl)).setCell _ (fun _ _ => rfl)).setCell _ (fun _ _ => rfl)⟩
theorem mPairs_ids (a : Ad) (l : List Mem) : mPairs a l = (ids l).map (fun i => (i, .pointer (some ⟨a.mem i, 0, none⟩))) := by simp [mPairs, ids]
theorem ids_putM_in {m : Mem} {l : List Mem} (hr : Rise (ids l)) (h : m.k.id ∈ ids l) : ids (putM m l) = ids l := by
  induction l with
  | nil => simp [ids] at h
  | cons b r ih =>
    have hb : ∀ n ∈ ids r, b.k.id < n := fun n hn => (List.pairwise_cons.1 hr).1 n hn
    have h' : m.k.id = b.k.id ∨ m.k.id ∈ ids r := List.mem_cons.1 h
    unfold putM
    split
    · rename_i hlt
      show b.k.id :: ids (putM m r) = b.k.id :: ids r
      rw [ih (List.pairwise_cons.1 hr).2 (by rcases h' with e | h'; · omega
                                             · exact h')]
    · split
      · rename_i e
        show m.k.id :: ids r = b.k.id :: ids r
        rw [e]
      · rcases h' with e | h'
        · omega
        · have := hb _ h'; omega
theorem ids_putM_new {m : Mem} {l : List Mem} (h : m.k.id ∉ ids l) : (ids (putM m l)).Perm (ids l ++ [m.k.id]) := by
  induction l with
  | nil => simp [ids, putM]
  | cons b r ih =>
    have h1 : ¬ m.k.id = b.k.id := fun e => h (by simp [ids, e])
    have h2 : m.k.id ∉ ids r := fun e => h (by simp only [ids, List.map_cons, List.mem_cons]; exact .inr e)
    unfold putM
    split
    · exact List.Perm.cons _ (ih h2)
    · rw [if_neg (fun e => h1 e.symm)]
      show (m.k.id :: ids (b :: r)).Perm (ids (b :: r) ++ [m.k.id])
      exact (List.perm_append_singleton _ _).symm
theorem putM_same {m a : Mem} {l : List Mem} (hr : Rise (ids l)) (h : a ∈ putM m l) (hid : a.k.id = m.k.id) : a = m := by
  induction l with
  | nil => simpa [putM] using h
  | cons b r ih =>
    have hb : ∀ n ∈ ids r, b.k.id < n := fun n hn => (List.pairwise_cons.1 hr).1 n hn
    have hin : ∀ c ∈ r, b.k.id < c.k.id := fun c hc => hb _ (mem_ids.2 ⟨c, hc, rfl⟩)
    unfold putM at h
    split at h
    · rename_i hlt
      rcases List.mem_cons.1 h with rfl | h
      · omega
      · exact ih (List.pairwise_cons.1 hr).2 h
    · split at h
      · rename_i e
        rcases List.mem_cons.1 h with rfl | h
        · rfl
        · have := hin a h; omega
      · rename_i h1 h2
        rcases List.mem_cons.1 h with rfl | h
        · rfl
        · rcases List.mem_cons.1 h with rfl | h
          · omega
          · have := hin a h; omega
section
variable {w w' : World} {a : Ad} {ov : Value} {x : Nd}
def Ad.atMem (a : Ad) (id : Int) (nb : Nat) : Ad := { a with mem := fun i => if i = id then nb else a.mem i }
/-- A member is written; it was there, or it is new. -/
theorem NodeAt.setMem (h : NodeAt w a ov x) (hr : Rise (ids x.others)) (m : Mem) (nb : Nat) (hnb : (m.k.id ∈ ids x.others ∧ nb = a.mem m.k.id) ∨ w.heap.size ≤ nb)
    (e : Apart w w' (fun j => j = a.bo ∨ j = nb)) (hm : w'.heap[nb]? = some (.cells (memCells m) 93 (0, 0)))
    (ho : MapAt Tryz.prog 3 w' a.bo (mPairs (a.atMem m.k.id nb) (putM m x.others))) : NodeAt w' (a.atMem m.k.id nb) ov { x with others := putM m x.others } := by
  obtain ⟨es, n, hbm⟩ := h.news.isMap
  obtain ⟨es1, n1, hb1⟩ := h.others.isMap
  obtain ⟨es2, n2, hb2⟩ := h.relays.isMap
  obtain ⟨s, r, hc⟩ := h.chan
  obtain ⟨cs, h0⟩ := h.blk.block
  have nbMem : nb < w.heap.size → ∃ m0, w.heap[nb]? = some (.cells (memCells m0) 93 (0, 0)) := fun hlt => by
    rcases hnb with ⟨hin, rfl⟩ | hge
    · obtain ⟨m0, hm0, e0⟩ := mem_ids.1 hin
      exact ⟨m0, e0 ▸ h.mems m0 hm0⟩
    · omega
  have nt : ∀ {b : Nat} {cs' : Array Value} {t : TypeId} {f : Nat × Nat}, w.heap[b]? = some (.cells cs' t f) → t ≠ 93 → ¬ (b = a.bo ∨ b = nb) := by
    rintro b cs' t f h1 ht (rfl | rfl)
    · rw [h1] at hb1; cases hb1
    · obtain ⟨m0, hm0⟩ := nbMem (heap_lt h1)
      rw [h1] at hm0
      simp only [Option.some.injEq, Obj.cells.injEq] at hm0
      exact ht hm0.2.1
  have nm : ∀ {b : Nat} {o : Obj}, w.heap[b]? = some o → b ≠ a.bo → (∀ cs t f, o ≠ .cells cs t f) → ¬ (b = a.bo ∨ b = nb) := by
    rintro b o h1 hne hno (rfl | rfl)
    · exact hne rfl
    · obtain ⟨m0, hm0⟩ := nbMem (heap_lt h1)
      rw [h1] at hm0
      exact hno _ _ _ (Option.some.inj hm0)
  have hother : ∀ m1 ∈ x.others, m1.k.id ≠ m.k.id → a.mem m1.k.id ≠ nb := fun m1 h1 hne hb => by
    rcases hnb with ⟨hin, e1⟩ | hge
    · obtain ⟨m0, hm0, e0⟩ := mem_ids.1 hin
      exact hne ((h.minj m1 h1 m0 hm0 (by rw [hb, e0, e1])).trans e0)
    · have := heap_lt (h.mems m1 h1); omega
  exact
    { h with
      blk := h.blk.heap (e.at h0 (nt h0 (by decide)))
      others := ho
      mems := fun m1 hm1 => by
        by_cases hid : m1.k.id = m.k.id
        · have e1 : m1 = m := putM_same hr hm1 hid
          subst e1
          simp only [Ad.atMem, if_true]
          exact hm
        · rcases mem_putM hm1 with rfl | hm1
          · exact absurd rfl hid
          · simp only [Ad.atMem, if_neg hid]
            have h1 := h.mems m1 hm1
            exact (e.at h1 (by
              rintro (h2 | h2)
              · rw [h2, hb1] at h1; cases h1
              · exact hother m1 hm1 hid h2)).trans h1
      minj := fun m1 h1 m2 h2 he => by
        by_cases e1 : m1.k.id = m.k.id
        · by_cases e2 : m2.k.id = m.k.id
          · rw [e1, e2]
          · rcases mem_putM h2 with rfl | h2
            · exact absurd rfl e2
            · simp only [Ad.atMem, if_pos e1, if_neg e2] at he
              exact absurd he.symm (hother m2 h2 e2)
        · rcases mem_putM h1 with rfl | h1
          · exact absurd rfl e1
          · by_cases e2 : m2.k.id = m.k.id
            · simp only [Ad.atMem, if_pos e2, if_neg e1] at he
              exact absurd he (hother m1 h1 e1)
            · rcases mem_putM h2 with rfl | h2
              · exact absurd rfl e2
              · simp only [Ad.atMem, if_neg e1, if_neg e2] at he
                exact h.minj m1 h1 m2 h2 he
      queue := (e.at h.queue (nt h.queue (by decide))).trans h.queue
      news := h.news.heap (e.at hbm (nm hbm h.ne1.symm (by simp)))
      chan := ⟨s, r, (e.at hc (nm hc (fun q => by rw [q, hb1] at hc; cases hc) (by simp))).trans hc⟩
      pass := h.pass.heap (fun k hk => by obtain ⟨cur, hg⟩ := h.pass.blk hk; exact e.at hg (nt hg (by decide)))
      prb := fun p hp => (e.at (h.prb p hp) (nt (h.prb p hp) (by decide))).trans (h.prb p hp)
      relays := h.relays.heap (e.at hb2 (nm hb2 h.ne3.symm (by simp)))
      box1 := (e.at h.box1 (nt h.box1 (by decide))).trans h.box1
      box2 := (e.at h.box2 (nt h.box2 (by decide))).trans h.box2
      ds := h.ds.heap (fun k hk => by obtain ⟨cur, hg⟩ := h.ds.blk hk; exact e.at hg (nt hg (by decide))) }
def Ad.atPass (a : Ad) (pa : Option Addr) (pc : Nat) : Ad := { a with pa := pa, pc := pc }
/-- The pass is another row, or the same one cut. -/
theorem NodeAt.setPass (h : NodeAt w a ov x) (pa : Option Addr) (pc : Nat) (l : List Int)
    (hs : ∀ k, (Value.slice pa l.length pc).ownBlock = some k → (Value.slice a.pa x.pass.length a.pc).ownBlock = some k ∨ w.heap.size ≤ k)
    (e : Apart w w' (fun j => j = a.b ∨ (Value.slice a.pa x.pass.length a.pc).ownBlock = some j)) (hb : NB w' a.b (nodeF (a.atPass pa pc) ov { x with pass := l }))
    (hp : NumsAt w' pa l.length pc l) (h0 : pa = none → l = [] ∧ pc = 0) : NodeAt w' (a.atPass pa pc) ov { x with pass := l } := by
  obtain ⟨es, n, hm⟩ := h.news.isMap
  obtain ⟨es1, n1, hb1⟩ := h.others.isMap
  obtain ⟨es2, n2, hb2⟩ := h.relays.isMap
  obtain ⟨s, r, hc⟩ := h.chan
  obtain ⟨cs, h1⟩ := h.blk.block
  have nt : ∀ {b : Nat} {cs' : Array Value} {t : TypeId} {f : Nat × Nat}, w.heap[b]? = some (.cells cs' t f) → t ≠ 79 → t ≠ 3 → ¬ (b = a.b ∨ (Value.slice a.pa x.pass.length a.pc).ownBlock = some b) := by
    rintro b cs' t f h2 ht ht' (rfl | hk)
    · rw [h2] at h1; simp only [Option.some.injEq, Obj.cells.injEq] at h1; exact ht h1.2.1
    · obtain ⟨cur, hg⟩ := h.pass.blk hk
      rw [h2] at hg; simp only [Option.some.injEq, Obj.cells.injEq] at hg; exact ht' hg.2.1
  have nm : ∀ {b : Nat} {o : Obj}, w.heap[b]? = some o → (∀ cs t f, o ≠ .cells cs t f) → ¬ (b = a.b ∨ (Value.slice a.pa x.pass.length a.pc).ownBlock = some b) := by
    rintro b o h2 hno (rfl | hk)
    · rw [h2] at h1; exact hno _ _ _ (Option.some.inj h1)
    · obtain ⟨cur, hg⟩ := h.pass.blk hk
      rw [h2] at hg; exact hno _ _ _ (Option.some.inj hg)
  have ni : ∀ {b : Nat} {cs' : Array Value} {f : Nat × Nat}, w.heap[b]? = some (.cells cs' 3 f) → (Value.slice a.pa x.pass.length a.pc).ownBlock ≠ some b → ¬ (b = a.b ∨ (Value.slice a.pa x.pass.length a.pc).ownBlock = some b) := by
    rintro b cs' f h2 hne (rfl | hk)
    · rw [h2] at h1; simp only [Option.some.injEq, Obj.cells.injEq] at h1; exact absurd h1.2.1 (by decide)
    · exact hne hk
  exact
    { h with
      blk := hb
      others := h.others.heap (e.at hb1 (nm hb1 (by simp)))
      mems := fun m hm => (e.at (h.mems m hm) (nt (h.mems m hm) (by decide) (by decide))).trans (h.mems m hm)
      queue := (e.at h.queue (nt h.queue (by decide) (by decide))).trans h.queue
      news := h.news.heap (e.at hm (nm hm (by simp)))
      chan := ⟨s, r, (e.at hc (nm hc (by simp))).trans hc⟩
      pass := hp
      pass0 := h0
      prb := fun p hp => (e.at (h.prb p hp) (nt (h.prb p hp) (by decide) (by decide))).trans (h.prb p hp)
      relays := h.relays.heap (e.at hb2 (nm hb2 (by simp)))
      box1 := (e.at h.box1 (nt h.box1 (by decide) (by decide))).trans h.box1
      box2 := (e.at h.box2 (ni h.box2 h.ne4)).trans h.box2
      ds := h.ds.heap (fun k hk => by obtain ⟨cur, hg⟩ := h.ds.blk hk; exact e.at hg (ni hg (fun hk' => h.ne6 k hk' hk)))
      ne4 := fun hk => (hs _ hk).elim h.ne4 (fun hl => by have := heap_lt h.box2; have hl : w.heap.size ≤ a.w2 := hl; omega)
      ne6 := fun k hk hk' => (hs k hk).elim (fun q => h.ne6 k q hk') (fun hl => by obtain ⟨cur, hg⟩ := h.ds.blk hk'; have := heap_lt hg; omega) }
theorem Owns.mem_of {m : Mem} {nb : Nat} {k : Nat} (hk : Owns (a.atMem m.k.id nb) { x with others := putM m x.others } k) : Owns a x k ∨ k = nb := by
  unfold Owns Ad.atMem at *
  rcases hk with h | h | h | h | h | h | ⟨m1, hm, h⟩ | h | h | h | h | h
  all_goals try (left; simp only [h, true_or, or_true]; done)
  · by_cases e : m1.k.id = m.k.id
    · exact .inr (by simpa [e] using h)
    · rcases mem_putM hm with rfl | hm
      · exact absurd rfl e
      · exact .inl (.inr (.inr (.inr (.inr (.inr (.inr (.inl ⟨m1, hm, by simpa [e] using h⟩)))))))
  · exact .inl (.inr (.inr (.inr (.inr (.inr (.inr (.inr (.inr (.inl h)))))))))
end
end Go.Proofs.YtfngdplkcppabaaGreat
