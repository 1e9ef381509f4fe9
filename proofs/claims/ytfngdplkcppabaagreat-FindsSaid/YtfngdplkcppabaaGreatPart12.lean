/-
  node.send: the message's bytes go behind what is to come out.
  node.send of a Join, a Table.
  node.next, node.pinged, node.asked: what a Ping, an Ask does.
  node.asked: what an Ask does.
-/
import Derived.Test.YtfngdplkcppabaaGreatPart09
import Derived.Test.YtfngdplkcppabaaGreatPart10
import Derived.Test.YtfngdplkcppabaaGreatPart11
import Derived.Deep.RegionLaw
set_option linter.all false
namespace Go.Proofs.YtfngdplkcppabaaGreat
open Go.RowKit

/-- A packet's cells. -/
def pkCells (p : Pk) : List Value := [.int .i64 p.1, .string (strOfNums (msgBytes p.2))]
/-- What is to come out. -/
def OutRow (w : World) (B : Nat) (ov : Value) (ps : List Pk) : Prop := w.ownsRow B 42 2 ov ps.length (ps.flatMap pkCells)
theorem OutRow.nil (w : World) (B : Nat) : OutRow w B (.slice none 0 0) [] := ⟨rfl, .inl ⟨rfl, rfl⟩⟩
/-- No block of the node's own holds packets. -/
theorem NodeAt.notPk {w : World} {a : Ad} {ov : Value} {x : Nd} (h : NodeAt w a ov x) {k : Nat} {c : Array Value} {f : Nat × Nat} (hk : w.heap[k]? = some (.cells c 42 f)) : ¬ Owns a x k := by
  have nc : ∀ {b : Nat} {cs : Array Value} {t : TypeId} {g : Nat × Nat}, w.heap[b]? = some (.cells cs t g) → t ≠ 42 → k ≠ b := by
    rintro b cs t g h1 ht rfl; rw [hk] at h1; simp only [Option.some.injEq, Obj.cells.injEq] at h1; exact ht h1.2.1.symm
  have nm : ∀ {b : Nat} {o : Obj}, w.heap[b]? = some o → (∀ cs t f, o ≠ .cells cs t f) → k ≠ b := by
    rintro b o h1 hno rfl; rw [hk] at h1; exact hno _ _ _ (Option.some.inj h1).symm
  obtain ⟨es, n, hm⟩ := h.news.isMap
  obtain ⟨es1, n1, hb1⟩ := h.others.isMap
  obtain ⟨es2, n2, hb2⟩ := h.relays.isMap
  obtain ⟨s, r, hc⟩ := h.chan
  obtain ⟨cs, h0⟩ := h.blk.block
  intro ho
  rcases ho with e | e | e | e | e | e | ⟨m, hmm, e⟩ | e | ⟨hp, e⟩ | e | e | e
  · exact nc h0 (by decide) e
  · exact nm hb1 (by simp) e
  · exact nc h.queue (by decide) e
  · exact nm hm (by simp) e
  · exact nm hc (by simp) e
  · exact nm hb2 (by simp) e
  · exact nc (h.mems m hmm) (by decide) e
  · obtain ⟨cur, hg⟩ := h.pass.blk e; exact nc hg (by decide) rfl
  · obtain ⟨p, hp⟩ := Option.isSome_iff_exists.1 hp
    exact nc (h.prb p hp) (by decide) e
  · exact nc h.box1 (by decide) e
  · exact nc h.box2 (by decide) e
  · obtain ⟨cur, hg⟩ := h.ds.blk e; exact nc hg (by decide) rfl
/-- A row of packets. -/
def isPk (o : Obj) : Prop := ∃ c f, o = .cells c 42 f
/-- The node has become another, and what is to come out, too: B: rows of packets that were made since then may have turned. -/
structure St (B : Nat) (w : World) (a : Ad) (x : Nd) (w' : World) (a' : Ad) (x' : Nd) (ov' : Value) (ps' : List Pk) : Prop where
  node : NodeAt w' a' ov' x'
  out : OutRow w' B ov' ps'
  chg : Chg (fun j o => Owns a x j ∨ (B ≤ j ∧ isPk o)) w w'
  own : ∀ k, Owns a' x' k → Owns a x k ∨ w.heap.size ≤ k
  b : a'.b = a.b
theorem St.refl {B : Nat} {w : World} {a : Ad} {x : Nd} {ov : Value} {ps : List Pk} (h : NodeAt w a ov x) (ho : OutRow w B ov ps) : St B w a x w a x ov ps := ⟨h, ho, Chg.refl _ w, fun _ => .inl, rfl⟩
theorem St.trans {B : Nat} {w w' w'' : World} {a a' a'' : Ad} {x x' x'' : Nd} {ov ov' : Value} {ps ps' : List Pk} (h : St B w a x w' a' x' ov ps) (k : St B w' a' x' w'' a'' x'' ov' ps') : St B w a x w'' a'' x'' ov' ps' :=
  ⟨k.node, k.out, ⟨k.chg.os.trans h.chg.os, k.chg.tape.trans h.chg.tape, k.chg.output.trans h.chg.output, Nat.le_trans h.chg.size k.chg.size, fun i o ho hs => k.chg.kept i o (h.chg.kept i o ho hs) (fun hk => hk.elim (fun hk => (h.own i hk).elim (fun hk => hs (.inl hk)) (fun hl => absurd (heap_lt ho) (by omega))) (fun hk => hs (.inr hk)))⟩,
    fun j hj => (k.own j hj).elim (h.own j) (fun hl => .inr (Nat.le_trans h.chg.size hl)), k.b.trans h.b⟩
/-- A step of the node's that sends nothing. -/
theorem St.turned {B : Nat} {w w' : World} {a a' : Ad} {x x' : Nd} {ov : Value} {ps : List Pk} (h0 : NodeAt w a ov x) (ho : OutRow w B ov ps) (h : Turned ov w a x w' a' x') : St B w a x w' a' x' ov ps :=
  ⟨h.node, own_chg ho h.chg (fun g o hg hk => by
    obtain ⟨_, c, hc⟩ := ownsRow_blk ho hg
    exact h0.notPk hc hk), h.chg.mono (fun _ _ _ => .inl), h.own, h.b⟩
theorem info_pk : (Tryz.prog.info? 42).map (fun i => (i.zero, i.size, i.bytes)) = some (some (.agg #[.int .i64 0, .string ⟨#[]⟩]), 2, 24) := by kernel_rfl

theorem St.sent {B : Nat} {w w4 w5 w7 : World} {a : Ad} {x x' : Nd} {ov : Value} {ps : List Pk} {p : Pk} {gg gc : Nat} {o : Obj} (hc : Chg (fun j o => Owns a x j ∨ (B ≤ j ∧ isPk o)) w w4) (hO4 : OutRow w4 B ov ps) (h5 : Below w4.heap.size w4 w5) (hT : AppTo (w5.alloc o) w7 ov gg)
    (hL : w7.ownsRow B 42 2 (.slice (some ⟨gg, 0, none⟩) (ps.length + 1) gc) (ps.length + 1) (ps.flatMap pkCells ++ pkCells p)) (hN : NodeAt w7 a ov x') (ho : ∀ k, Owns a x' k → Owns a x k) :
    St B w a x (w7.setCell ⟨a.b, 20, none⟩ (.slice (some ⟨gg, 0, none⟩) (ps.length + 1) gc)) a x' (.slice (some ⟨gg, 0, none⟩) (ps.length + 1) gc) (ps ++ [p]) := by
  obtain ⟨cs, hb⟩ := hN.blk.block
  refine ⟨?_, ?_, ?_, fun k hk => .inl (ho k hk), rfl⟩
  · refine hN.setNode (apart_of_chg ((Chg.refl _ _).setCell _ (fun _ _ => rfl))) ?_ ⟨rfl, rfl, rfl, rfl, rfl, rfl, rfl, rfl, rfl⟩
    exact (hN.blk.set (i := 20) (by omega) _).congr (by (intro i hi; rcases i with _ | _ | _ | _ | _ | _ | _ | _ | _ | _ | _ | _ | _ | _ | _ | _ | _ | _ | _ | _ | _ | _ | _ | _ | _ | _ | _ | i <;> first | rfl | exact absurd hi (by omega)))
  · have h1 : (w7.setCell ⟨a.b, 20, none⟩ (.slice (some ⟨gg, 0, none⟩) (ps.length + 1) gc)).ownsRow B 42 2 (.slice (some ⟨gg, 0, none⟩) (ps.length + 1) gc) (ps.length + 1) (ps.flatMap pkCells ++ pkCells p) :=
      own_heap hL (fun j hj => by
        obtain ⟨_, cu, hcu⟩ := ownsRow_blk hL hj
        exact heap_setCell_ne _ _ _ _ _ (cells_ne hcu hb (by decide)))
    unfold OutRow
    rw [List.flatMap_append, List.length_append]
    simpa using h1
  · have c5 := (hc.trans (chg_of_below h5)).alloc o
    have c7 := c5.grown hT.grown (fun k o' e ho' => by
      obtain ⟨hb, cu, hcu⟩ := ownsRow_blk hO4 e
      have h1 : (w5.alloc o).heap[k]? = some (.cells cu 42 (0, 0)) := (Below.heap_alloc _ _ _ (Nat.lt_of_lt_of_le (heap_lt hcu) h5.size)).trans ((h5.block _ (heap_lt hcu)).trans hcu)
      rw [h1] at ho'
      exact .inr ⟨hb, cu, (0, 0), (Option.some.inj ho').symm⟩)
    exact c7.setCell _ (fun _ _ => .inl (ho _ (.inl rfl)))

set_option maxRecDepth 100000 in
set_option maxHeartbeats 2000000 in
theorem send_low {x : Nd} (ho : Ok x) (a : Ad) (ov : Value) (B : Nat) (ps : List Pk) (w : World) (h : NodeAt w a ov x) (hout : OutRow w B ov ps) (hB : B ≤ w.heap.size) (hps : ps.length < 1000) (to kind f i seq tgt : Int) (hk : kind < 4) :
    Calls Tryz.prog 35 #[.pointer (some ⟨a.b, 0, none⟩), .int .i64 to, .agg #[.int .i64 kind, .int .i64 f, .int .i64 i, .int .i64 seq, .int .i64 tgt, .slice none 0 0]] w fun e w' =>
      e = .returned (.tuple #[]) ∧ ∃ ov', St B w a x w' a (x.sent ⟨kind, f, i, seq, tgt, []⟩) ov' (ps ++ [(to, x.msg ⟨kind, f, i, seq, tgt, []⟩)]) := by
  obtain ⟨w1, hw1⟩ : ∃ w1, w.alloc (.cells #[.int .i64 kind, .int .i64 f, .int .i64 i, .int .i64 seq, .int .i64 tgt, .slice none 0 0] 29) = w1 := ⟨_, rfl⟩
  have hs1 : w1.heap.size = w.heap.size + 1 := by rw [← hw1]; simp
  have hb1 : Below w.heap.size w w1 := by rw [← hw1]; exact (Below.refl _ _).alloc (Nat.le_refl _) _
  have hx1 : w1.heap[w.heap.size]? = some (.cells #[.int .i64 kind, .int .i64 f, .int .i64 i, .int .i64 seq, .int .i64 tgt, .slice none 0 0] 29 (0, 0)) := by rw [← hw1]; exact heap_alloc_eq w _
  have h1 : NodeAt w1 a ov x := h.below hb1
  have c7 : w1.cell? ⟨a.b, 7, none⟩ = some (.int .i64 x.self.id) := h1.blk.cell (by omega)
  have c8 : w1.cell? ⟨a.b, 8, none⟩ = some (.int .i64 x.self.inc) := h1.blk.cell (by omega)
  have d0 := cells_at hx1 0
  have d1 := cells_at hx1 1
  have d2 := cells_at hx1 2
  have fx := unfrozen hx1
  simp only [List.getElem?_toArray, List.getElem?_cons_succ, List.getElem?_cons_zero] at d0 d1 d2
  have HW1 := Lib.hid hw1
  have H := Lib.hid h
  have H1 := Lib.hid h1
  have HX1 := Lib.hid hx1
  have HO := Lib.hid ho
  have HOUT := Lib.hid hout
  have HB1 := Lib.hid hb1
  have hkb : decide (kind < 4) = true := by simpa using hk
  obtain ⟨w2, hw2⟩ : ∃ w2, ((w1.setCell ⟨w.heap.size, 1, none⟩ (.int .i64 x.self.id)).setCell ⟨w.heap.size, 2, none⟩ (.int .i64 x.self.inc)).drew = w2 := ⟨_, rfl⟩
  have hc2 : Chg (fun j _ => j = w.heap.size) w1 w2 := by rw [← hw2]; exact (((Chg.refl _ _).setCell _ (fun _ _ => rfl)).setCell _ (fun _ _ => rfl)).drew
  have hx2 : w2.heap[w.heap.size]? = some (.cells #[.int .i64 kind, .int .i64 x.self.id, .int .i64 x.self.inc, .int .i64 seq, .int .i64 tgt, .slice none 0 0] 29 (0, 0)) := by rw [← hw2]; exact heap_setCell_eq (heap_setCell_eq hx1)
  have hs2 : w2.heap.size = w.heap.size + 1 := by rw [← hw2]; simpa using hs1
  have hb2 : Below w.heap.size w w2 := hb1.trans (hc2.below (by omega) (fun k _ e => by omega))
  have h2 : NodeAt w2 a ov x := h.below hb2
  have hout2 : OutRow w2 B ov ps := own_under hout hb2
  have c11 : w2.cell? ⟨a.b, 11, none⟩ = some (.pointer (some ⟨a.bq, 0, none⟩)) := h2.blk.cell (by omega)
  have e0 := cells_at hx2 0
  simp only [List.getElem?_toArray, List.getElem?_cons_zero] at e0
  have hql : x.queue.length < 900000 := by have := ho.qlen; omega
  have hqf : Hid (∀ u ∈ x.queue, fitsI u.k.id ∧ 0 ≤ u.sent ∧ u.sent < 1000000) := Lib.hid (fun u hu => by
    obtain ⟨k1, k2, k3⟩ := ho.qkey u hu
    have hc := cfg_bounds ho.cfg
    have := k1.1
    unfold fitsI
    omega)
  have HX2 := Lib.hid hx2
  have HB2 := Lib.hid hb2
  have H2 := Lib.hid h2
  have HOUT2 := Lib.hid hout2
  have HW2 := Lib.hid hw2
  clear hw1 h h1 hx1 ho hout hb1 hw2 hc2 hx2 hb2 h2 hout2
  go_enter Tryz.func35, Tryz.ntmps35
  go_wp2
  rw [HW1.out]
  go_region
  all_goals
    rw [HW2.out]
    go_wp2_with (first
      | (go_at_call 59; refine (take_news a.bq a.bm x.c.sends x.queue w2 H2.out.queue H2.out.news HO.out.qnd hql hqf.out).mono ?_; rintro e w3 ⟨v, rfl, hrow3, hm3, hc3⟩
         obtain ⟨ra, rc, rfl⟩ := ownsRow_sl hrow3
         have hx3 : w3.heap[w.heap.size]? = _ := hc3.kept _ _ HX2.out (by have := H.out.news.lt; omega)
         have f3 := unfrozen hx3
         have e35 := cells_at hx3 5
         simp only [List.getElem?_toArray, List.getElem?_cons_succ, List.getElem?_cons_zero] at e35
         have HX3 := Lib.hid hx3
         have HR3 := Lib.hid hrow3
         have HM3 := Lib.hid hm3
         have HC3 := Lib.hid hc3
         clear hx3 hrow3 hm3 hc3))
    obtain ⟨w4, hw4⟩ : ∃ w4, w3.setCell ⟨w.heap.size, 5, none⟩ (.slice ra (firstL x.queue).length rc) = w4 := ⟨_, rfl⟩
    go_upto_region 4 with (fail)
    rw [hw4]
    have hx4 : w4.heap[w.heap.size]? = some (.cells #[.int .i64 kind, .int .i64 x.self.id, .int .i64 x.self.inc, .int .i64 seq, .int .i64 tgt, .slice ra (firstL x.queue).length rc] 29 (0, 0)) := by rw [← hw4]; exact heap_setCell_eq HX3.out
    have hC34 : Chg (fun j _ => j = w.heap.size) w3 w4 := by rw [← hw4]; exact (Chg.refl _ _).setCell _ (fun _ _ => rfl)
    have hs3 := HC3.out.size
    have hs34 := hC34.size
    have hN4 : NodeAt w4 a ov { x with queue := takeL x.c.sends x.queue } := NodeAt.keep (H2.out.setNews (apart_of_chg HC3.out) HM3.out) (fun j hj => by
      have hlt := H.out.owns_lt hj
      rw [← hw4]; exact heap_setCell_ne _ _ _ _ _ (by omega))
    have hR4 : w4.ownsRow w2.heap.size 31 3 (.slice ra (firstL x.queue).length rc) (firstL x.queue).length (keyCells ((firstL x.queue).map (·.k))) := own_chg HR3.out hC34 (fun g o hg e => by have := (HR3.out.lt g hg).1; omega)
    have hO4 : OutRow w4 B ov ps := own_chg (own_chg HOUT2.out HC3.out (fun g o hg e => by
        obtain ⟨_, cu, hc⟩ := ownsRow_blk HOUT2.out hg
        obtain ⟨es, n, hmm⟩ := H2.out.news.isMap
        exact cells_ne_map hc hmm e)) hC34 (fun g o hg e => by
        obtain ⟨_, cu, hc⟩ := ownsRow_blk HOUT2.out hg
        exact cells_ne hc HX2.out (by decide) e)
    obtain ⟨hll, hka⟩ := keysAt_row hR4
    obtain ⟨oa, oc, rfl⟩ := ownsRow_sl hO4
    have c20 : w4.cell? ⟨a.b, 20, none⟩ = some (.slice oa ps.length oc) := hN4.blk.cell (by omega)
    have g0 := cells_at hx4 0
    have g1 := cells_at hx4 1
    have g2 := cells_at hx4 2
    have g3 := cells_at hx4 3
    have g4 := cells_at hx4 4
    have g5 := cells_at hx4 5
    simp only [List.getElem?_toArray, List.getElem?_cons_succ, List.getElem?_cons_zero] at g0 g1 g2 g3 g4 g5
    have hby := bytes_any kind x.self.id x.self.inc seq tgt ((firstL x.queue).map (·.k)) ra rc w4.drew (by rw [List.length_map, firstL_len]; omega) (hka.below (Below.refl _ _).drew)
    rw [List.length_map] at hby
    have HBY := Lib.hid hby
    have hltb := hN4.blk.lt
    have HN4 := Lib.hid hN4
    have HO4 := Lib.hid hO4
    have HW4 := Lib.hid hw4
    have HC34 := Lib.hid hC34
    clear hby hN4 hO4 hw4 hC34 hll hka hR4 hx4
    obtain ⟨i0, hi, hz0, hz1, hz2⟩ := info_parts info_pk
    have K3 := Lib.hid (show ps.length + 1 ≤ maxLen by unfold maxLen; omega)
    go_region_law (first
      | (refine step_append_to rfl _ _ _ rfl B 42 i0 _ 2 24 Tryz.underlying36 hi hz0 hz1 hz2 rfl (by decide) (.slice oa ps.length oc) ps.length _ rfl HO5.out ⟨w5.heap.size, 0, none⟩ 1 1 _ rfl rfl HNEW.out (by simp [Value.oneCell']) (by omega) K3.out (by omega) (by have := HSZ.out; simp; omega) ?_; intro gg gc w7 hl7 hto7
         have hk7 : ∀ j, j < w4.heap.size → (Value.slice oa ps.length oc).ownBlock ≠ some j → w7.heap[j]? = w4.heap[j]? := fun j hj hne => (hto7.block (by simp; have := HSZ.out; omega) hne).trans ((Below.heap_alloc _ _ _ (by have := HSZ.out; omega)).trans (HB5.out.block j hj))
         have HN7 := Lib.hid (HN4.out.keep (w' := w7) (fun j hj => hk7 j (HN4.out.owns_lt hj) (fun e => by
           obtain ⟨_, cu, hc⟩ := ownsRow_blk HO4.out e
           exact HN4.out.notPk hc hj)))
         have c207 : w7.cell? ⟨a.b, 20, none⟩ = some (.slice oa ps.length oc) := HN7.out.blk.cell (by omega)
         have f207 : w7.frozen? ⟨a.b, 20, none⟩ = false := HN7.out.blk.free 20
         have HK7 := Lib.hid hk7
         have HL7 := Lib.hid hl7
         have HT7 := Lib.hid hto7
         clear hk7 hl7 hto7)
      | (go_simp; go_at_call 22; refine HBY.out.mono ?_; rintro e w5 ⟨rfl, hb5d⟩
         have hb5 : Below w4.heap.size w4 w5 := ((Below.refl w4.heap.size w4).drew).trans hb5d
         have c205 : w5.cell? ⟨a.b, 20, none⟩ = some (.slice oa ps.length oc) := (hb5.cell (p := ⟨a.b, 20, none⟩) hltb).trans c20
         have c205a : ∀ o, (w5.alloc o).cell? ⟨a.b, 20, none⟩ = some (.slice oa ps.length oc) := fun o => by rw [World.cell?_alloc_lt _ _ _ (Nat.lt_of_lt_of_le hltb hb5.size)]; exact c205
         have HSZ := Lib.hid hb5.size
         have HB5 := Lib.hid hb5
         have HNEW := Lib.hid (cells_new w5 [.int .i64 to, .string (strOfNums (msgBytes ⟨kind, x.self.id, x.self.inc, seq, tgt, (firstL x.queue).map (·.k)⟩))] 42 (n := w5.heap.size) rfl)
         have HO5 := Lib.hid (World.ownsRow.alloc (own_under HO4.out hb5) (.cells #[.int .i64 to, .string (strOfNums (msgBytes ⟨kind, x.self.id, x.self.inc, seq, tgt, (firstL x.queue).map (·.k)⟩))] 42))
         clear hb5 hb5d))
    all_goals
      go_end0
      refine ⟨rfl, .slice (some ⟨gg, 0, none⟩) (ps.length + 1) gc, ?_⟩
      have e1 : x.sent ⟨kind, f, i, seq, tgt, []⟩ = { x with queue := takeL x.c.sends x.queue } := by unfold Nd.sent; rw [if_pos hk]; rfl
      have e2 : x.msg ⟨kind, f, i, seq, tgt, []⟩ = ⟨kind, x.self.id, x.self.inc, seq, tgt, (firstL x.queue).map (·.k)⟩ := by unfold Nd.msg; simp only; rw [if_pos hk]; rfl
      rw [e1, e2]
      refine St.sent (w4 := w4) ?_ HO4.out HB5.out HT7.out HL7.out HN7.out (fun _ h => h)
      have q1 : Chg (fun j o => Owns a x j ∨ (B ≤ j ∧ isPk o)) w w2 := chg_of_below HB2.out
      have q2 : Chg (fun j o => Owns a x j ∨ (B ≤ j ∧ isPk o)) w2 w3 := HC3.out.mono (fun _ _ _ e => .inl (.inr (.inr (.inr (.inl e)))))
      exact (q1.trans q2).andThen HC34.out (fun j o ho e => absurd (heap_lt ho) (by omega))
end Go.Proofs.YtfngdplkcppabaaGreat
namespace Go.Proofs.YtfngdplkcppabaaGreat
open Go.RowKit
set_option maxRecDepth 100000 in
set_option maxHeartbeats 2000000 in
theorem send_high {x : Nd} (a : Ad) (ov : Value) (B : Nat) (ps : List Pk) (w : World) (h : NodeAt w a ov x) (hout : OutRow w B ov ps) (hB : B ≤ w.heap.size) (hps : ps.length < 1000) (to kind f i seq tgt : Int) (hk : 4 ≤ kind) (us : List K) (ra : Option Addr) (rc : Nat) (hus : KeysAt w ra us) (hul : us.length ≤ 8) :
    Calls Tryz.prog 35 #[.pointer (some ⟨a.b, 0, none⟩), .int .i64 to, .agg #[.int .i64 kind, .int .i64 f, .int .i64 i, .int .i64 seq, .int .i64 tgt, .slice ra us.length rc]] w fun e w' =>
      e = .returned (.tuple #[]) ∧ ∃ ov', St B w a x w' a (x.sent ⟨kind, f, i, seq, tgt, us⟩) ov' (ps ++ [(to, x.msg ⟨kind, f, i, seq, tgt, us⟩)]) := by
  obtain ⟨w1, hw1⟩ : ∃ w1, w.alloc (.cells #[.int .i64 kind, .int .i64 f, .int .i64 i, .int .i64 seq, .int .i64 tgt, .slice ra us.length rc] 29) = w1 := ⟨_, rfl⟩
  have hs1 : w1.heap.size = w.heap.size + 1 := by rw [← hw1]; simp
  have hb1 : Below w.heap.size w w1 := by rw [← hw1]; exact (Below.refl _ _).alloc (Nat.le_refl _) _
  have hx1 : w1.heap[w.heap.size]? = some (.cells #[.int .i64 kind, .int .i64 f, .int .i64 i, .int .i64 seq, .int .i64 tgt, .slice ra us.length rc] 29 (0, 0)) := by rw [← hw1]; exact heap_alloc_eq w _
  have h1 : NodeAt w1 a ov x := h.below hb1
  have c7 : w1.cell? ⟨a.b, 7, none⟩ = some (.int .i64 x.self.id) := h1.blk.cell (by omega)
  have c8 : w1.cell? ⟨a.b, 8, none⟩ = some (.int .i64 x.self.inc) := h1.blk.cell (by omega)
  have d0 := cells_at hx1 0
  have d1 := cells_at hx1 1
  have d2 := cells_at hx1 2
  have fx := unfrozen hx1
  simp only [List.getElem?_toArray, List.getElem?_cons_succ, List.getElem?_cons_zero] at d0 d1 d2
  have HW1 := Lib.hid hw1
  have H := Lib.hid h
  have H1 := Lib.hid h1
  have HX1 := Lib.hid hx1
  have HOUT := Lib.hid hout
  have HB1 := Lib.hid hb1
  have hkb : decide (kind < 4) = false := by simpa using hk
  have HUS := Lib.hid hus
  clear hus
  obtain ⟨w2, hw2⟩ : ∃ w2, ((w1.setCell ⟨w.heap.size, 1, none⟩ (.int .i64 x.self.id)).setCell ⟨w.heap.size, 2, none⟩ (.int .i64 x.self.inc)).drew = w2 := ⟨_, rfl⟩
  have hc2 : Chg (fun j _ => j = w.heap.size) w1 w2 := by rw [← hw2]; exact (((Chg.refl _ _).setCell _ (fun _ _ => rfl)).setCell _ (fun _ _ => rfl)).drew
  have hx2 : w2.heap[w.heap.size]? = some (.cells #[.int .i64 kind, .int .i64 x.self.id, .int .i64 x.self.inc, .int .i64 seq, .int .i64 tgt, .slice ra us.length rc] 29 (0, 0)) := by rw [← hw2]; exact heap_setCell_eq (heap_setCell_eq hx1)
  have hs2 : w2.heap.size = w.heap.size + 1 := by rw [← hw2]; simpa using hs1
  have hb2 : Below w.heap.size w w2 := hb1.trans (hc2.below (by omega) (fun k _ e => by omega))
  have h2 : NodeAt w2 a ov x := h.below hb2
  have hout2 : OutRow w2 B ov ps := own_under hout hb2
  have c11 : w2.cell? ⟨a.b, 11, none⟩ = some (.pointer (some ⟨a.bq, 0, none⟩)) := h2.blk.cell (by omega)
  have e0 := cells_at hx2 0
  simp only [List.getElem?_toArray, List.getElem?_cons_zero] at e0
  have HX2 := Lib.hid hx2
  have HB2 := Lib.hid hb2
  have H2 := Lib.hid h2
  have HOUT2 := Lib.hid hout2
  have HW2 := Lib.hid hw2
  clear hw1 h h1 hx1 hout hb1 hw2 hc2 hx2 hb2 h2 hout2
  go_enter Tryz.func35, Tryz.ntmps35
  go_wp2
  rw [HW1.out]
  go_region
  all_goals
    rw [HW2.out]
    go_upto_region 4 with (fail)
    obtain ⟨w4, hw4⟩ : ∃ w4, w2 = w4 := ⟨_, rfl⟩
    rw [hw4]
    rw [hw4] at HX2 HB2 H2 HOUT2 hs2
    clear c11 e0
    have hx4 := HX2.out
    have hN4 := H2.out
    have hO4 := HOUT2.out
    have hka := HUS.out.below HB2.out
    obtain ⟨oa, oc, rfl⟩ := ownsRow_sl hO4
    have c20 : w4.cell? ⟨a.b, 20, none⟩ = some (.slice oa ps.length oc) := hN4.blk.cell (by omega)
    have g0 := cells_at hx4 0
    have g1 := cells_at hx4 1
    have g2 := cells_at hx4 2
    have g3 := cells_at hx4 3
    have g4 := cells_at hx4 4
    have g5 := cells_at hx4 5
    simp only [List.getElem?_toArray, List.getElem?_cons_succ, List.getElem?_cons_zero] at g0 g1 g2 g3 g4 g5
    have hby := bytes_any kind x.self.id x.self.inc seq tgt us ra rc w4.drew hul (hka.below (Below.refl _ _).drew)
    have HBY := Lib.hid hby
    have hltb := hN4.blk.lt
    have HN4 := Lib.hid hN4
    have HO4 := Lib.hid hO4
    have HW4 := Lib.hid hw4
    clear hby hN4 hO4 hw4 hka hx4
    obtain ⟨i0, hi, hz0, hz1, hz2⟩ := info_parts info_pk
    have K3 := Lib.hid (show ps.length + 1 ≤ maxLen by unfold maxLen; omega)
    go_region_law (first
      | (refine step_append_to rfl _ _ _ rfl B 42 i0 _ 2 24 Tryz.underlying36 hi hz0 hz1 hz2 rfl (by decide) (.slice oa ps.length oc) ps.length _ rfl HO5.out ⟨w5.heap.size, 0, none⟩ 1 1 _ rfl rfl HNEW.out (by simp [Value.oneCell']) (by omega) K3.out (by omega) (by have := HSZ.out; simp; omega) ?_; intro gg gc w7 hl7 hto7
         have hk7 : ∀ j, j < w4.heap.size → (Value.slice oa ps.length oc).ownBlock ≠ some j → w7.heap[j]? = w4.heap[j]? := fun j hj hne => (hto7.block (by simp; have := HSZ.out; omega) hne).trans ((Below.heap_alloc _ _ _ (by have := HSZ.out; omega)).trans (HB5.out.block j hj))
         have HN7 := Lib.hid (HN4.out.keep (w' := w7) (fun j hj => hk7 j (HN4.out.owns_lt hj) (fun e => by
           obtain ⟨_, cu, hc⟩ := ownsRow_blk HO4.out e
           exact HN4.out.notPk hc hj)))
         have c207 : w7.cell? ⟨a.b, 20, none⟩ = some (.slice oa ps.length oc) := HN7.out.blk.cell (by omega)
         have f207 : w7.frozen? ⟨a.b, 20, none⟩ = false := HN7.out.blk.free 20
         have HK7 := Lib.hid hk7
         have HL7 := Lib.hid hl7
         have HT7 := Lib.hid hto7
         clear hk7 hl7 hto7)
      | (go_simp; go_at_call 22; refine HBY.out.mono ?_; rintro e w5 ⟨rfl, hb5d⟩
         have hb5 : Below w4.heap.size w4 w5 := ((Below.refl w4.heap.size w4).drew).trans hb5d
         have c205 : w5.cell? ⟨a.b, 20, none⟩ = some (.slice oa ps.length oc) := (hb5.cell (p := ⟨a.b, 20, none⟩) hltb).trans c20
         have c205a : ∀ o, (w5.alloc o).cell? ⟨a.b, 20, none⟩ = some (.slice oa ps.length oc) := fun o => by rw [World.cell?_alloc_lt _ _ _ (Nat.lt_of_lt_of_le hltb hb5.size)]; exact c205
         have HSZ := Lib.hid hb5.size
         have HB5 := Lib.hid hb5
         have HNEW := Lib.hid (cells_new w5 [.int .i64 to, .string (strOfNums (msgBytes ⟨kind, x.self.id, x.self.inc, seq, tgt, us⟩))] 42 (n := w5.heap.size) rfl)
         have HO5 := Lib.hid (World.ownsRow.alloc (own_under HO4.out hb5) (.cells #[.int .i64 to, .string (strOfNums (msgBytes ⟨kind, x.self.id, x.self.inc, seq, tgt, us⟩))] 42))
         clear hb5 hb5d))
    all_goals
      go_end0
      refine ⟨rfl, .slice (some ⟨gg, 0, none⟩) (ps.length + 1) gc, ?_⟩
      have e1 : x.sent ⟨kind, f, i, seq, tgt, us⟩ = x := by unfold Nd.sent; rw [if_neg (by show ¬ kind < 4; omega)]
      have e2 : x.msg ⟨kind, f, i, seq, tgt, us⟩ = ⟨kind, x.self.id, x.self.inc, seq, tgt, us⟩ := by unfold Nd.msg; simp only; rw [if_neg (by omega)]
      rw [e1, e2]
      refine St.sent (w4 := w4) ?_ HO4.out HB5.out HT7.out HL7.out HN7.out (fun _ h => h)
      exact chg_of_below HB2.out
end Go.Proofs.YtfngdplkcppabaaGreat
namespace Go.Proofs.YtfngdplkcppabaaGreat
open Go.RowKit

theorem St.alloc {B : Nat} {w w' : World} {a a' : Ad} {x x' : Nd} {ov : Value} {ps : List Pk} (h : St B w a x w' a' x' ov ps) (o : Obj) : St B w a x (w'.alloc o) a' x' ov ps :=
  ⟨h.node.below ((Below.refl _ _).alloc (Nat.le_refl _) _), World.ownsRow.alloc h.out o, h.chg.alloc o, h.own, h.b⟩
theorem St.drewN {B : Nat} {w w' : World} {a a' : Ad} {x x' : Nd} {ov : Value} {ps : List Pk} (h : St B w a x w' a' x' ov ps) (n : Nat) : St B w a x (w'.drewN n) a' x' ov ps :=
  ⟨h.node.keep (fun _ _ => rfl), own_heap h.out (fun _ _ => rfl), ⟨h.chg.os, h.chg.tape, h.chg.output, h.chg.size, h.chg.kept⟩, h.own, h.b⟩
/-- What came of a step. -/
def Does (B : Nat) (w : World) (a : Ad) (x : Nd) (ps : List Pk) (r : List Pk × Nd) (e : Ending) (w' : World) : Prop :=
  e = .returned (.tuple #[]) ∧ ∃ a' ov', St B w a x w' a' r.2 ov' (ps ++ r.1)
theorem Does.of {B : Nat} {w w' : World} {a a' : Ad} {x x' : Nd} {ov : Value} {ps : List Pk} {r : List Pk} (h : St B w a x w' a' x' ov (ps ++ r)) : Does B w a x ps (r, x') (.returned (.tuple #[])) w' := ⟨rfl, _, _, h⟩

set_option maxRecDepth 100000 in
set_option maxHeartbeats 1000000 in
theorem next_any {x : Nd} (hs : -9223372036854775808 ≤ x.seq ∧ x.seq < 9223372036854775807) (a : Ad) (ov : Value) (w : World) (h : NodeAt w a ov x) :
    Calls Tryz.prog 36 #[.pointer (some ⟨a.b, 0, none⟩)] w fun e w' => e = .returned (.int .i64 (x.seq + 1)) ∧ Turned ov w a x w' a x.next := by
  have c14 : w.cell? ⟨a.b, 14, none⟩ = some (.int .i64 x.seq) := h.blk.cell (by omega)
  have f14 : w.frozen? ⟨a.b, 14, none⟩ = false := h.blk.free 14
  have wl : IntKind.i64.wrap (x.seq + 1) = x.seq + 1 := IntWalk.i64_in _ (by omega)
  have H := Lib.hid h
  clear h
  go_enter Tryz.func36, Tryz.ntmps36
  go_wp2
  go_ret
  refine ⟨rfl, ?_, (Chg.refl _ _).setCell _ (fun _ _ => .inl rfl), fun _ => .inl, rfl⟩
  refine H.out.setNode (apart_of_chg ((Chg.refl _ _).setCell _ (fun _ _ => rfl))) ?_ ⟨rfl, rfl, rfl, rfl, rfl, rfl, rfl, rfl, rfl⟩
  exact (H.out.blk.set (i := 14) (by omega) (.int .i64 (x.seq + 1))).congr (by (intro i hi; rcases i with _ | _ | _ | _ | _ | _ | _ | _ | _ | _ | _ | _ | _ | _ | _ | _ | _ | _ | _ | _ | _ | _ | _ | _ | _ | _ | _ | i <;> first | rfl | exact absurd hi (by omega)))

set_option maxRecDepth 100000 in
set_option maxHeartbeats 1000000 in
theorem pinged_any {x : Nd} (ho : Ok x) (a : Ad) (ov : Value) (B : Nat) (ps : List Pk) (w : World) (h : NodeAt w a ov x) (hout : OutRow w B ov ps) (hB : B ≤ w.heap.size) (hps : ps.length < 1000) (m : M) (ma : Option Addr) (mn mc : Nat) :
    Calls Tryz.prog 69 #[.pointer (some ⟨a.b, 0, none⟩), m.agg (.slice ma mn mc)] w (Does B w a x ps (x.pinged m)) := by
  obtain ⟨kind, frm, inc, seq, tgt, ups⟩ := m
  obtain ⟨w1, hw1⟩ : ∃ w1, w.alloc (.cells #[.int .i64 kind, .int .i64 frm, .int .i64 inc, .int .i64 seq, .int .i64 tgt, .slice ma mn mc] 29) = w1 := ⟨_, rfl⟩
  have T := (St.refl h hout).alloc (.cells #[.int .i64 kind, .int .i64 frm, .int .i64 inc, .int .i64 seq, .int .i64 tgt, .slice ma mn mc] 29)
  rw [hw1] at T
  have hs1 : w.heap.size ≤ w1.heap.size := by rw [← hw1]; simp
  have hx1 : w1.heap[w.heap.size]? = some (.cells #[.int .i64 kind, .int .i64 frm, .int .i64 inc, .int .i64 seq, .int .i64 tgt, .slice ma mn mc] 29 (0, 0)) := by rw [← hw1]; exact heap_alloc_eq w _
  have d1 := cells_at hx1 1
  have d3 := cells_at hx1 3
  have d4 := cells_at hx1 4
  simp only [List.getElem?_toArray, List.getElem?_cons_succ, List.getElem?_cons_zero] at d1 d3 d4
  have c7 : w1.cell? ⟨a.b, 7, none⟩ = some (.int .i64 x.self.id) := T.node.blk.cell (by omega)
  have HT := Lib.hid T
  have HW1 := Lib.hid hw1
  clear T hw1 hx1 h hout
  unfold M.agg
  by_cases ht : tgt = x.self.id
  · have e : x.pinged ⟨kind, frm, inc, seq, tgt, ups⟩ = ([(frm, x.msg ⟨2, 0, 0, seq, tgt, []⟩)], x.sent ⟨2, 0, 0, seq, tgt, []⟩) := by unfold Nd.pinged; rw [if_pos ht]
    rw [e]
    have htb : (tgt == x.self.id) = true := by simpa using ht
    clear ht e
    go_enter Tryz.func69, Tryz.ntmps69
    go_wp2
    rw [HW1.out]
    go_quiet (fail)
    go_wp2_with (go_at_call 35; refine (send_low ho a ov B ps _ (HT.out.drewN nq).node (HT.out.drewN nq).out (by show B ≤ w1.heap.size; omega) hps frm 2 0 0 seq tgt (by omega)).mono ?_; rintro e w2 ⟨rfl, ov', hT2⟩)
    ((try simp only [Exit.inBlock, Exit.then]); first | refine bodyPost_ret (results_none rfl _ _ _) rfl ?_ | refine bodyPost_end (results_none rfl _ _ _) rfl ?_)
    exact Does.of ((HT.out.drewN nq).trans hT2)
  · have e : x.pinged ⟨kind, frm, inc, seq, tgt, ups⟩ = ([], x) := by unfold Nd.pinged; rw [if_neg ht]
    rw [e]
    have htb : (tgt == x.self.id) = false := by simpa using ht
    clear ht e
    go_enter Tryz.func69, Tryz.ntmps69
    go_wp2
    rw [HW1.out]
    go_quiet (fail)
    go_wp2
    ((try simp only [Exit.inBlock, Exit.then]); first | refine bodyPost_ret (results_none rfl _ _ _) rfl ?_ | refine bodyPost_end (results_none rfl _ _ _) rfl ?_)
    exact Does.of (by rw [List.append_nil]; exact HT.out.drewN nq)
end Go.Proofs.YtfngdplkcppabaaGreat
namespace Go.Proofs.YtfngdplkcppabaaGreat
open Go.RowKit

theorem rPairs_len (l : List Rel) : (rPairs l).length = l.length := by simp [rPairs]
theorem rPairs_put {l : List Rel} {r : Rel} (h : ∀ q ∈ l, q.seq ≠ r.seq) : (rPairs l).filter (fun p => p.1 != r.seq) ++ [(r.seq, r.v)] = rPairs (l ++ [r]) := by
  have : (rPairs l).filter (fun p => p.1 != r.seq) = rPairs l := List.filter_eq_self.2 (fun p hp => by
    obtain ⟨q, hq, rfl⟩ := List.mem_map.1 hp
    simpa using h q hq)
  rw [this]
  simp [rPairs]
section
variable {w w' : World} {a : Ad} {ov : Value} {x : Nd}
/-- The relays' map has turned. -/
theorem NodeAt.setRelays (h : NodeAt w a ov x) (e : Apart w w' (fun j => j = a.br)) {l : List Rel} (hm : MapAt Tryz.prog 3 w' a.br (rPairs l)) : NodeAt w' a ov { x with relays := l } := by
  obtain ⟨es, n, hb⟩ := h.relays.isMap
  obtain ⟨es1, n1, hb1⟩ := h.others.isMap
  obtain ⟨es2, n2, hb2⟩ := h.news.isMap
  obtain ⟨s, r, hc⟩ := h.chan
  obtain ⟨cs, h0⟩ := h.blk.block
  exact
    { h with
      blk := h.blk.heap (e.at h0 (cells_ne_map h0 hb))
      others := h.others.heap (e.at hb1 h.ne3)
      mems := fun m hm => (e.at (h.mems m hm) (cells_ne_map (h.mems m hm) hb)).trans (h.mems m hm)
      queue := (e.at h.queue (cells_ne_map h.queue hb)).trans h.queue
      news := h.news.heap (e.at hb2 h.ne2)
      chan := ⟨s, r, (e.at hc (fun q => by rw [q, hb] at hc; cases hc)).trans hc⟩
      pass := h.pass.heap (fun k hk => by obtain ⟨cur, hg⟩ := h.pass.blk hk; exact e.at hg (cells_ne_map hg hb))
      prb := fun p hp => (e.at (h.prb p hp) (cells_ne_map (h.prb p hp) hb)).trans (h.prb p hp)
      relays := hm
      box1 := (e.at h.box1 (cells_ne_map h.box1 hb)).trans h.box1
      box2 := (e.at h.box2 (cells_ne_map h.box2 hb)).trans h.box2
      ds := h.ds.heap (fun k hk => by obtain ⟨cur, hg⟩ := h.ds.blk hk; exact e.at hg (cells_ne_map hg hb)) }
theorem len_rel (h : NodeAt w a ov x) (ty : TypeId) : (Builtin.len_ #[75] ty #[.map (some a.br)]).run Tryz.prog w = .ok (.int .i64 (x.relays.length : Nat)) w := by
  have := h.relays.len Tryz.underlying75 ty
  rwa [rPairs_len] at this
end
theorem ok_newRelay {x : Nd} (h : Ok x) (h0 : 0 ≤ x.seq) (hcl : 0 ≤ x.clock) {m : M} (hm : MOk m) (hk : m.kind = 3) (hl : x.relays.length ≠ 4) :
    Ok { x.next with relays := x.relays ++ [⟨x.seq + 1, m.tgt, m.frm, m.seq, x.clock + x.c.period⟩] } := by
  have hc := cfg_bounds h.cfg
  exact { h.next with
    rnd := by
      show (rids (x.relays ++ [_])).Nodup
      simp only [rids, List.map_append, List.map_cons, List.map_nil]
      rw [List.nodup_append]
      refine ⟨h.rnd, by simp, fun a ha b hb' hab => ?_⟩
      obtain ⟨r, hr, rfl⟩ := List.mem_map.1 ha
      have := (h.rok r hr).1
      simp only [List.mem_singleton] at hb'
      omega
    rlen := by
      show (x.relays ++ [_]).length ≤ 4
      have := h.rlen
      rw [List.length_append, List.length_singleton]; omega
    rok := fun r hr => by
      have hr : r ∈ x.relays ++ [⟨x.seq + 1, m.tgt, m.frm, m.seq, x.clock + x.c.period⟩] := hr
      rcases List.mem_append.1 hr with hr | hr
      · exact h.next.rok r hr
      · rw [List.mem_singleton] at hr
        subst hr
        exact ⟨⟨by show 1 ≤ x.seq + 1; omega, Int.le_refl _⟩, hm.tgt (.inr (.inr hk)), hm.frm, hm.seq, by show 0 ≤ x.clock + x.c.period; omega, by show x.clock + x.c.period ≤ x.clock + 50; omega⟩ }

set_option maxRecDepth 100000 in
set_option maxHeartbeats 2000000 in
theorem asked_any {x : Nd} (ho : Ok x) {C : Int} (hbd : Bd C x) (hC : C ≤ 1000000000000) (a : Ad) (ov : Value) (B : Nat) (ps : List Pk) (w : World) (h : NodeAt w a ov x) (hout : OutRow w B ov ps) (hB : B ≤ w.heap.size) (hps : ps.length < 1000) (m : M) (hm : MOk m) (hk : m.kind = 3) (ma : Option Addr) (mn mc : Nat) :
    Calls Tryz.prog 71 #[.pointer (some ⟨a.b, 0, none⟩), m.agg (.slice ma mn mc)] w (Does B w a x ps (x.asked m)) := by
  obtain ⟨kind, frm, inc, seq, tgt, ups⟩ := m
  simp only at hk
  subst hk
  have HL : Hid (∀ k, Owns a x k → k < w.heap.size) := Lib.hid (fun k hk => h.owns_lt hk)
  obtain ⟨w1, hw1⟩ : ∃ w1, w.alloc (.cells #[.int .i64 3, .int .i64 frm, .int .i64 inc, .int .i64 seq, .int .i64 tgt, .slice ma mn mc] 29) = w1 := ⟨_, rfl⟩
  have T := (St.refl h hout).alloc (.cells #[.int .i64 3, .int .i64 frm, .int .i64 inc, .int .i64 seq, .int .i64 tgt, .slice ma mn mc] 29)
  rw [hw1] at T
  have hs1 : w.heap.size ≤ w1.heap.size := by rw [← hw1]; simp
  have hx1 : w1.heap[w.heap.size]? = some (.cells #[.int .i64 3, .int .i64 frm, .int .i64 inc, .int .i64 seq, .int .i64 tgt, .slice ma mn mc] 29 (0, 0)) := by rw [← hw1]; exact heap_alloc_eq w _
  have d0 := cells_at hx1 0
  have d1 := cells_at hx1 1
  have d2 := cells_at hx1 2
  have d3 := cells_at hx1 3
  have d4 := cells_at hx1 4
  have d5 := cells_at hx1 5
  simp only [List.getElem?_toArray, List.getElem?_cons_succ, List.getElem?_cons_zero] at d0 d1 d2 d3 d4 d5
  have c7 : w1.cell? ⟨a.b, 7, none⟩ = some (.int .i64 x.self.id) := T.node.blk.cell (by omega)
  have c17 : w1.cell? ⟨a.b, 17, none⟩ = some (.map (some a.br)) := T.node.blk.cell (by omega)
  have HT := Lib.hid T
  have HW1 := Lib.hid hw1
  have HX1 := Lib.hid hx1
  have hlt := heap_lt hx1
  have hab := h.blk.lt
  have hbr := h.relays.lt
  clear T hw1 hx1 h hout
  unfold M.agg
  by_cases ht : tgt = x.self.id
  · have e : x.asked ⟨3, frm, inc, seq, tgt, ups⟩ = x.pinged ⟨3, frm, inc, seq, tgt, ups⟩ := by unfold Nd.asked; rw [if_pos ht]
    rw [e]
    have htb : (tgt == x.self.id) = true := by simpa using ht
    clear ht e
    go_enter Tryz.func71, Tryz.ntmps71
    go_wp2
    rw [HW1.out]
    go_quiet (fail)
    go_wp2_with (go_at_call 69; refine (pinged_any ho a ov B ps _ (HT.out.drewN nq).node (HT.out.drewN nq).out (by show B ≤ w1.heap.size; omega) hps ⟨3, frm, inc, seq, tgt, ups⟩ ma mn mc).mono ?_; rintro e w2 ⟨rfl, a', ov', hT2⟩)
    ((try simp only [Exit.inBlock, Exit.then]); first | refine bodyPost_ret (results_none rfl _ _ _) rfl ?_ | refine bodyPost_end (results_none rfl _ _ _) rfl ?_)
    exact Does.of ((HT.out.drewN nq).trans hT2)
  · have htb : (tgt == x.self.id) = false := by simpa using ht
    by_cases hl : x.relays.length = 4
    · have e : x.asked ⟨3, frm, inc, seq, tgt, ups⟩ = ([], x) := by unfold Nd.asked; rw [if_neg ht, if_pos hl]
      rw [e]
      have hln : ∀ n ty, (Builtin.len_ #[75] ty #[.map (some a.br)]).run Tryz.prog (w1.drewN n) = .ok (.int .i64 4) (w1.drewN n) := fun n ty => by rw [len_rel (HT.out.drewN n).node ty, hl]; rfl
      clear ht e hl
      go_enter Tryz.func71, Tryz.ntmps71
      go_wp2
      rw [HW1.out]
      go_quiet (fail)
      go_wp2
      ((try simp only [Exit.inBlock, Exit.then]); first | refine bodyPost_ret (results_none rfl _ _ _) rfl ?_ | refine bodyPost_end (results_none rfl _ _ _) rfl ?_)
      exact Does.of (by rw [List.append_nil]; exact HT.out.drewN nq)
    · have e : x.asked ⟨3, frm, inc, seq, tgt, ups⟩ = ([(tgt, Nd.msg { x.next with relays := x.relays ++ [⟨x.seq + 1, tgt, frm, seq, x.clock + x.c.period⟩] } ⟨1, 0, 0, x.seq + 1, tgt, []⟩)], Nd.sent { x.next with relays := x.relays ++ [⟨x.seq + 1, tgt, frm, seq, x.clock + x.c.period⟩] } ⟨1, 0, 0, x.seq + 1, tgt, []⟩) := by
        unfold Nd.asked; rw [if_neg ht, if_neg hl]
      rw [e]
      have hln : ∀ n ty, (Builtin.len_ #[75] ty #[.map (some a.br)]).run Tryz.prog (w1.drewN n) = .ok (.int .i64 (x.relays.length : Nat)) (w1.drewN n) := fun n ty => len_rel (HT.out.drewN n).node ty
      have hlb : ((x.relays.length : Int) == 4) = false := by simp; omega
      have hoky := ok_newRelay ho hbd.seq.1 hbd.clock.1 hm rfl hl
      simp only at hoky
      have hrl := ho.rlen
      have hcf := cfg_bounds ho.cfg
      have hcl := hbd.clock
      have hsq := hbd.seq
      have hne : Hid (∀ q ∈ x.relays, q.seq ≠ x.seq + 1) := Lib.hid (fun q hq => by have := (ho.rok q hq).1; omega)
      have wl : IntKind.i64.wrap (x.clock + x.c.period) = x.clock + x.c.period := IntWalk.i64_in _ (by omega)
      have HOY := Lib.hid hoky
      clear ht e hl hoky ho hbd hm
      go_enter Tryz.func71, Tryz.ntmps71
      go_wp2
      rw [HW1.out]
      go_quiet (fail)
      go_wp2_with (go_at_call 36; refine (next_any (by omega) a ov _ (HT.out.drewN nq).node).mono ?_; rintro e w2 ⟨rfl, hT2⟩)
      have hT3 := (HT.out.drewN nq).trans (St.turned (HT.out.drewN nq).node (HT.out.drewN nq).out hT2)
      have hx2 : w2.heap[w.heap.size]? = some (.cells #[.int .i64 3, .int .i64 frm, .int .i64 inc, .int .i64 seq, .int .i64 tgt, .slice ma mn mc] 29 (0, 0)) := hT2.chg.kept _ _ HX1.out (fun hk => by have := HL.out _ hk; omega)
      have hs2 := hT2.chg.size
      have n2 := hT3.node
      have e17 : w2.cell? ⟨a.b, 17, none⟩ = some (.map (some a.br)) := n2.blk.cell (by omega)
      have e13 : w2.cell? ⟨a.b, 13, none⟩ = some (.int .i64 x.clock) := n2.blk.cell (by omega)
      have e1 : w2.cell? ⟨a.b, 1, none⟩ = some (.int .i64 x.c.period) := n2.blk.cell (by omega)
      have b1 := cells_at hx2 1
      have b3 := cells_at hx2 3
      have b4 := cells_at hx2 4
      simp only [List.getElem?_toArray, List.getElem?_cons_succ, List.getElem?_cons_zero] at b1 b3 b4
      have hm2 : MapAt Tryz.prog 3 w2.drew a.br (rPairs x.relays) := n2.relays
      obtain ⟨w3, hr3, hm3, hg3, hs3⟩ := hm2.store Tryz.underlying3 Tryz.underlying75 (by rw [rPairs_len]; omega) (x.seq + 1) (wf_of_fits (by unfold fitsI; omega)) (.agg #[.int .i64 tgt, .int .i64 frm, .int .i64 seq, .int .i64 (x.clock + x.c.period)])
      have hm3' : MapAt Tryz.prog 3 w3 a.br (rPairs (x.relays ++ [⟨x.seq + 1, tgt, frm, seq, x.clock + x.c.period⟩])) := by
        have e := rPairs_put (l := x.relays) (r := ⟨x.seq + 1, tgt, frm, seq, x.clock + x.c.period⟩) hne.out
        rw [← e]; exact hm3
      have hc3 : Chg (fun j _ => j = a.br) w2 w3 := ((Chg.refl _ w2).drew).grown hg3 (fun k o e _ => by cases e; rfl)
      have hx3 : w3.heap[w.heap.size]? = _ := hc3.kept _ _ hx2 (by omega)
      have g1 := cells_at hx3 1
      have g3 := cells_at hx3 3
      have g4 := cells_at hx3 4
      simp only [List.getElem?_toArray, List.getElem?_cons_succ, List.getElem?_cons_zero] at g1 g3 g4
      have HT4 : Hid (Turned ov w2 a x.next w3 a { x.next with relays := x.relays ++ [⟨x.seq + 1, tgt, frm, seq, x.clock + x.c.period⟩] }) := Lib.hid ⟨n2.setRelays (apart_of_chg hc3) hm3', hc3.mono (fun j _ _ e => by have e : j = a.br := e; subst e; exact .inr (.inr (.inr (.inr (.inr (.inl rfl)))))), fun _ => .inl, rfl⟩
      have HT3 := Lib.hid hT3
      have hBw : B ≤ w3.heap.size := by
        have e1 : w3.heap.size = w2.heap.size := hs3
        have e2 : w1.heap.size ≤ w2.heap.size := hs2
        omega
      clear hs2 hs3 hm2 hm3 hm3' hg3 hc3 hx2 hx3 n2 hT2 hT3
      go_upto_region 5 with (fail)
      go_region
      all_goals
        have hT5 := HT3.out.trans (St.turned HT3.out.node HT3.out.out HT4.out)
        have HT5 := Lib.hid hT5
        clear hT5
        go_wp2_with (go_at_call 35; refine (send_low HOY.out a ov B ps _ HT5.out.node HT5.out.out hBw hps tgt 1 0 0 (x.seq + 1) tgt (by omega)).mono ?_; rintro e w4 ⟨rfl, ov', hT6⟩)
        ((try simp only [Exit.inBlock, Exit.then]); first | refine bodyPost_ret (results_none rfl _ _ _) rfl ?_ | refine bodyPost_end (results_none rfl _ _ _) rfl ?_)
        exact Does.of (HT5.out.trans hT6)
end Go.Proofs.YtfngdplkcppabaaGreat
