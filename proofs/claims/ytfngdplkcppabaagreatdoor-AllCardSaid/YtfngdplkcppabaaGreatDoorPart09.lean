/-
  Texts of the proof: MapIs, Nd, NdOk, PutNews, NodeAt, WpN. No condition.
-/
import Derived.Test.YtfngdplkcppabaaGreatDoorPart01
import Derived.Test.YtfngdplkcppabaaGreatDoorPart03
import Derived.Maps.OwnSet
import Derived.Maps.OwnOps
import Derived.Test.YtfngdplkcppabaaGreatDoorPart04
import Derived.Test.YtfngdplkcppabaaGreatDoorPart02
import Derived.Carry
import Derived.Conc.LoneSelect
import Derived.Conc.LoneCalls
set_option linter.all false
set_option maxRecDepth 100000
set_option maxHeartbeats 4000000
namespace Go.Proofs.YtfngdplkcppabaaGreatDoor
open Go.RowKit Go.Maps
structure MapIs (D : DataW Value) (L : List (Int × Value)) : Prop where
 tidy : Tidy D
 size : size D = L.length
 nd : (L.map (·.1)).Nodup
 mem : ∀ k v, (k, v) ∈ L -> ∀ z, D.atKey (.int .i64 k) z = .held v
 has : ∀ k, Maps.has D (.int .i64 k) = true ↔ k ∈ L.map (·.1)
theorem MapIs.empty : MapIs (.map []) [] := ⟨tidy_empty, rfl, by simp, fun k v h => by simp at h, fun k => by simp [Maps.has]⟩
theorem MapIs.perm {D : DataW Value} {L L' : List (Int × Value)} (h : MapIs D L) (hp : L'.Perm L) : MapIs D L' :=
 ⟨h.tidy, h.size.trans hp.length_eq.symm, (hp.map _).nodup_iff.2 h.nd, fun k v hv => h.mem k v (hp.mem_iff.1 hv), fun k => (h.has k).trans ((hp.map _).mem_iff).symm⟩
theorem MapIs.miss {D : DataW Value} {L : List (Int × Value)} (h : MapIs D L) {k : Int} (hk : k ∉ L.map (·.1)) (z : DataW Value) : D.atKey (.int .i64 k) z = z :=
 atKey_of_not_has (by cases hh : Maps.has D (.int .i64 k); · rfl
                      · exact absurd ((h.has k).1 hh) hk) z
theorem MapIs.put {D : DataW Value} {L : List (Int × Value)} (h : MapIs D L) (k : Int) (v : Value) : MapIs (D.put (.int .i64 k) (.held v)) (L.filter (fun p => p.1 != k) ++ [(k, v)]) := by
 have hk : WideAt.IsKeyLit (.int .i64 k) := trivial
 have hlen : (L.filter (fun p => p.1 != k)).length + (if k ∈ L.map (·.1) then 1 else 0) = L.length := by
  have := h.nd; clear h
  induction L with
  | nil => rfl
  | cons a r ih =>
   simp only [List.map_cons, List.nodup_cons] at this; have ih' := ih this.2; by_cases e : a.1 = k
   · subst e
     have hn : ¬ a.1 ∈ r.map (·.1) := this.1; rw [if_neg hn] at ih'; have hf : (a :: r).filter (fun p => p.1 != a.1) = r.filter (fun p => p.1 != a.1) := by simp
     rw [hf, if_pos (by simp), List.length_cons]
     omega
   · have hf : (a :: r).filter (fun p => p.1 != k) = a :: r.filter (fun p => p.1 != k) := by simp [e]
     rw [hf, List.length_cons, List.length_cons]
     have hiff : (k ∈ (a :: r).map (·.1)) ↔ k ∈ r.map (·.1) := by
      rw [List.map_cons, List.mem_cons]; exact ⟨fun h => h.elim (fun h => absurd h.symm e) id, .inr⟩
     by_cases hm : k ∈ r.map (·.1)
     · rw [if_pos hm] at ih'
       rw [if_pos (hiff.2 hm)]; omega
     · rw [if_neg hm] at ih'
       rw [if_neg (fun h => hm (hiff.1 h))]
       omega
 refine ⟨h.tidy.put hk _, ?_, ?_, ?_, ?_⟩
 · rw [size_put h.tidy, h.size, List.length_append, List.length_singleton]
   by_cases hm : k ∈ L.map (·.1)
   · rw [if_pos ((h.has k).2 hm)]
     rw [if_pos hm] at hlen; omega
   · have hf : Maps.has D (.int .i64 k) = false := by cases hh : Maps.has D (.int .i64 k); · rfl
                                                      · exact absurd ((h.has k).1 hh) hm
     rw [hf]; rw [if_neg hm] at hlen; simp only [Bool.false_eq_true, if_false]; omega
 · rw [List.map_append, List.nodup_append]
   refine ⟨?_, by simp, ?_⟩
   · exact h.nd.sublist (List.Sublist.map _ List.filter_sublist)
   · intro a ha b hb hab
     simp only [List.mem_map, List.mem_filter, bne_iff_ne, ne_eq, List.map_cons, List.map_nil, List.mem_cons, List.not_mem_nil, or_false] at ha hb; obtain ⟨p, ⟨_, hp⟩, rfl⟩ := ha; exact hp (hab.trans hb)
 · intro k' v' hv z
   simp only [List.mem_append, List.mem_filter, bne_iff_ne, ne_eq, List.mem_cons, List.not_mem_nil, or_false, Prod.mk.injEq] at hv; rcases hv with ⟨hv, hne⟩ | ⟨rfl, rfl⟩
   · rw [atKey_put_other (fun e => hne (by injection e))]
     exact h.mem k' v' hv z
   · exact atKey_put_same h.tidy.isMap hk _ z
 · intro k'
   by_cases e : k' = k
   · subst e
     rw [has_put_same h.tidy.isMap hk]
     simp
   · rw [has_put_other (fun e' => e (by injection e')), h.has k']
     simp only [List.map_append, List.mem_append, List.mem_map, List.mem_filter, bne_iff_ne, ne_eq, List.map_cons, List.map_nil, List.mem_cons, List.not_mem_nil, or_false]
     constructor
     · rintro ⟨p, hp, rfl⟩; exact .inl ⟨p, ⟨hp, e⟩, rfl⟩
     · rintro (⟨p, ⟨hp, _⟩, rfl⟩ | rfl)
       · exact ⟨p, hp, rfl⟩
       · exact absurd rfl e
theorem MapIs.del {D : DataW Value} {L : List (Int × Value)} (h : MapIs D L) (k : Int) : MapIs (D.del (.int .i64 k)) (L.filter (fun p => p.1 != k)) := by
 have hp := h.put k (.int .i64 0)
 have hlen : (L.filter (fun p => p.1 != k)).length + (if k ∈ L.map (·.1) then 1 else 0) = L.length := by
  have h1 := hp.size; rw [size_put h.tidy, h.size, List.length_append, List.length_singleton] at h1; by_cases hm : k ∈ L.map (·.1)
  · rw [if_pos ((h.has k).2 hm)] at h1
    rw [if_pos hm]; omega
  · have hf : Maps.has D (.int .i64 k) = false := by cases hh : Maps.has D (.int .i64 k); · rfl
                                                     · exact absurd ((h.has k).1 hh) hm
    rw [hf] at h1; simp only [Bool.false_eq_true, if_false] at h1; rw [if_neg hm]; omega
 refine ⟨h.tidy.del _, ?_, h.nd.sublist (List.Sublist.map _ List.filter_sublist), ?_, ?_⟩
 · have h1 := size_del (k := .int .i64 k) h.tidy
   rw [h.size] at h1; by_cases hm : k ∈ L.map (·.1)
   · rw [if_pos ((h.has k).2 hm)] at h1
     rw [if_pos hm] at hlen; omega
   · have hf : Maps.has D (.int .i64 k) = false := by cases hh : Maps.has D (.int .i64 k); · rfl
                                                      · exact absurd ((h.has k).1 hh) hm
     rw [hf] at h1; simp only [Bool.false_eq_true, if_false] at h1; rw [if_neg hm] at hlen; omega
 · intro k' v' hv z
   simp only [List.mem_filter, bne_iff_ne, ne_eq] at hv; rw [atKey_del_other (fun e => hv.2 (by injection e))]
   exact h.mem k' v' hv.1 z
 · intro k'
   by_cases e : k' = k
   · subst e
     rw [has_del_same]
     simp
   · rw [has_del_other (fun e' => e (by injection e')), h.has k']
     simp only [List.mem_map, List.mem_filter, bne_iff_ne, ne_eq]
     constructor
     · rintro ⟨p, hp, rfl⟩; exact ⟨p, ⟨hp, e⟩, rfl⟩
     · rintro ⟨p, ⟨hp, _⟩, rfl⟩; exact ⟨p, hp, rfl⟩
def RV (v : Value) : Option (DataW Value × List MemPlace) := some (.held v, [])
def Kw (P : Program) (kT : TypeId) (w : World) (b : Nat) (L : List (Int × Value)) : Prop := ∃ D, w.ownsMap P kT RV b L.length D /\ MapIs D L
section
variable {P : Program} {kT t e : TypeId} {w w' : World} {b : Nat} {L : List (Int × Value)}
theorem ownsMap_tight {n : Nat} {D : DataW Value} (h : w.ownsMap P kT RV b n D) : w.ownsMap P kT RV b (Maps.size D) D := by
 obtain ⟨es, clock, hb, F, hs, rfl⟩ := h; exact ⟨es, clock, hb, F, by simp [Maps.size, length_sorted], rfl⟩
theorem Kw.of {n : Nat} {D : DataW Value} (h : w.ownsMap P kT RV b n D) (hD : MapIs D L) : Kw P kT w b L := ⟨D, by rw [<- hD.size]; exact ownsMap_tight h, hD⟩
theorem Kw.lt (h : Kw P kT w b L) : b < w.heap.size := by obtain ⟨D, h, _⟩ := h; exact h.lt
theorem Kw.heap (h : Kw P kT w b L) (e : w'.heap[b]? = w.heap[b]?) : Kw P kT w' b L := by
 obtain ⟨D, ⟨es, clock, hb, r⟩, hD⟩ := h; exact ⟨D, ⟨es, clock, e.trans hb, r⟩, hD⟩
theorem Kw.perm {L' : List (Int × Value)} (h : Kw P kT w b L) (hp : L'.Perm L) : Kw P kT w b L' := by
 obtain ⟨D, h1, h2⟩ := h; exact ⟨D, by rw [hp.length_eq]; exact h1, h2.perm hp⟩
theorem Kw.isMap (h : Kw P kT w b L) : ∃ es clock, w.heap[b]? = some (.map es clock) := by obtain ⟨D, ⟨es, clock, hb, _⟩, _⟩ := h; exact ⟨es, clock, hb⟩
theorem Kw.made (w : World) : Kw P kT (w.alloc (.map #[] 0)) w.heap.size [] := ⟨_, World.ownsMap_made w P kT RV, MapIs.empty⟩
theorem Kw.nd (h : Kw P kT w b L) : (L.map (·.1)).Nodup := by obtain ⟨D, _, h⟩ := h; exact h.nd
variable (hk : P.underlying kT = some (.int .i64)) (ht : P.underlying t = some (.map kT e))
include hk ht
theorem Kw.store (h : Kw P kT w b L) (hL : L.length < 1000000) (k : Int) (hf : (Lit.int .i64 k).wf = true) (v : Value) :
  ∃ w', (Instr.mapUpdate t (.map (some b)) (.int .i64 k) v).run P w = .ok () w' /\ Kw P kT w' b (L.filter (fun p => p.1 != k) ++ [(k, v)]) /\ w.grownBy w' (some b) /\ w'.heap.size = w.heap.size := by
 obtain ⟨D, h1, h2⟩ := h; obtain ⟨w', hr, h3, h4⟩ := h1.store (int_keyed hk) ht (by unfold maxLen; omega) (keyOf_int_mk hk hf) (d := .held v) (ps := []) (val := v) rfl
 refine ⟨w', hr, Kw.of h3 (h2.put k v), h4.grown, ?_⟩; obtain ⟨es, clock, es', clock', hb, rfl⟩ := h4
 simp [Go.ChangeMaps.setBlock]
theorem Kw.drop (h : Kw P kT w b L) (k : Int) (hf : (Lit.int .i64 k).wf = true) (ty : TypeId) :
  ∃ w', (Builtin.delete_ #[t, kT] ty #[.map (some b), .int .i64 k]).run P w = .ok (.tuple #[]) w' /\ Kw P kT w' b (L.filter (fun p => p.1 != k)) /\ w.grownBy w' (some b) /\ w'.heap.size = w.heap.size := by
 obtain ⟨D, h1, h2⟩ := h; obtain ⟨w', hr, h3, h4⟩ := h1.drop (int_keyed hk) ht (keyOf_int_mk hk hf) ty; refine ⟨w', hr, Kw.of h3 (h2.del k), h4.grown, ?_⟩; obtain ⟨es, clock, es', clock', hb, rfl⟩ := h4
 simp [Go.ChangeMaps.setBlock]
omit hk in
theorem Kw.len (h : Kw P kT w b L) (ty : TypeId) : (Builtin.len_ #[t] ty #[.map (some b)]).run P w = .ok (.int .i64 (L.length : Nat)) w := by
 obtain ⟨D, h1, h2⟩ := h; rw [h1.len ht ty, h2.size]
theorem Kw.look (h : Kw P kT w b L) {z : Value} (hz : ∀ w, (zeroValue e).run P w = .ok z w) (k : Int) (hf : (Lit.int .i64 k).wf = true) :
  (∀ v, (k, v) ∈ L -> (Instr.lookup t (.map (some b)) (.int .i64 k) false).run P w = .ok v w /\ (Instr.lookup t (.map (some b)) (.int .i64 k) true).run P w = .ok (.tuple #[v, .bool true]) w) /\
  (k ∉ L.map (·.1) -> (Instr.lookup t (.map (some b)) (.int .i64 k) false).run P w = .ok z w /\ (Instr.lookup t (.map (some b)) (.int .i64 k) true).run P w = .ok (.tuple #[z, .bool false]) w) := by
 obtain ⟨D, h1, h2⟩ := h; obtain ⟨v1, ps1, hr1, hv1⟩ := h1.lookup (int_keyed hk) ht (hz w) (zd := .held z) (zp := []) rfl (keyOf_int_mk hk hf); obtain ⟨v2, ps2, hr2, hv2⟩ := h1.look_ok (int_keyed hk) ht (hz w) (zd := .held z) (zp := []) rfl (keyOf_int_mk hk hf); refine ⟨fun v hv => ?_, fun hn => ?_⟩
 · have e := h2.mem k v hv (.held z)
   rw [e] at hv1 hv2; simp only [RV, Option.some.injEq, Prod.mk.injEq, DataW.held.injEq] at hv1 hv2; have hh : Maps.has D (.int .i64 k) = true := (h2.has k).2 (List.mem_map.2 ⟨_, hv, rfl⟩); rw [hh] at hr2; rw [hv1.1] at hr1; rw [hv2.1] at hr2; exact ⟨hr1, hr2⟩
 · have e := h2.miss hn (.held z)
   rw [e] at hv1 hv2; simp only [RV, Option.some.injEq, Prod.mk.injEq, DataW.held.injEq] at hv1 hv2
   have hh : Maps.has D (.int .i64 k) = false := by cases hh : Maps.has D (.int .i64 k); · rfl
                                                    · exact absurd ((h2.has k).1 hh) hn
   rw [hh] at hr2; rw [hv1.1] at hr1; rw [hv2.1] at hr2; exact ⟨hr1, hr2⟩
end
end Go.Proofs.YtfngdplkcppabaaGreatDoor
namespace Go.Proofs.YtfngdplkcppabaaGreatDoor
open Go.RowKit
structure Cfg where
 self : Int
 period : Int
 wait : Int
 susp : Int
 prox : Int
 sends : Int
structure Mem where
 k : K
 due : Int
structure Upd where
 k : K
 sent : Int
 deriving DecidableEq
structure Rel where
 seq : Int
 tgt : Int
 orig : Int
 oseq : Int
 ends : Int
structure Prb where
 tgt : Int
 seq : Int
 start : Int
 acked : Bool
abbrev Pk := Int × M
structure Nd where
 c : Cfg
 ds : List Int
 at_ : Nat
 clock : Int
 seq : Int
 self : K
 others : List Mem
 pass : List Int
 probe : Option Prb
 queue : List Upd
 relays : List Rel
 dropped : Int
 lost : Int
 events : List K
def lessK (a b : K) : Bool := decide (a.inc < b.inc \/ a.inc = b.inc /\ a.st < b.st)
def rawDraw (ds : List Int) (at_ : Nat) (n : Int) : Int :=
 let k := ds.getD (at_ % ds.length) 0
 (if k < 0 then -(k + 1) else k) % n
def Nd.draw (x : Nd) (n : Int) : Int × Nd := if x.ds = [] then (0, x) else (rawDraw x.ds x.at_ n, { x with at_ := x.at_ + 1 })
def full (l : List K) : Bool := l.length == 8
def Nd.changed (x : Nd) (k : K) : Nd :=
 { x with
   events := if full x.events then x.events else x.events ++ [k]
   lost := if full x.events then x.lost + 1 else x.lost
   queue := x.queue.filter (fun u => u.k.id != k.id) ++ [⟨k, 0⟩] }
def Nd.refute (x : Nd) (k : K) : Nd :=
 if x.self.st = 4 \/ k.st = 1 \/ k.inc < x.self.inc \/ k.inc = 1073741824 then x
 else { x with self := { x.self with inc := k.inc + 1 } }.changed { x.self with inc := k.inc + 1 }
def Js (m : Mem) : List Mem -> List Mem
 | [] => [m]
 | a :: r => if a.k.id < m.k.id then a :: Js m r else if a.k.id = m.k.id then m :: r else m :: a :: r
def Jo (l : List Mem) (id : Int) : Option Mem := l.find? (fun m => m.k.id == id)
def Nd.taken (x : Nd) (k : K) : Nd :=
 { x with others := Js ⟨k, x.clock + x.c.susp⟩ x.others, pass := if k.st <= 2 then x.pass else x.pass.filter (fun n => n != k.id) }.changed k
def Nd.hear (x : Nd) (k : K) : Nd :=
 if k.id = x.self.id then x.refute k
 else match Jo x.others k.id with
  | none => if x.others.length = 7 then x else x.taken k
  | some m => if lessK m.k k then x.taken k else x
def Kv (a b : Upd) : Bool := decide (a.sent < b.sent \/ a.sent = b.sent /\ a.k.id <= b.k.id)
def Nd.first (x : Nd) : List Upd := (x.queue.mergeSort Kv).take 4
def Nd.take (x : Nd) : Nd :=
 { x with queue := x.queue.filter (fun u => !(x.first.any fun v => v.k.id == u.k.id)) ++ (x.first.map fun u => ⟨u.k, u.sent + 1⟩).filter (fun u => u.sent != x.c.sends) }
def Nd.msg (x : Nd) (m : M) : M := { m with frm := x.self.id, inc := x.self.inc, ups := if m.kind < 4 then x.first.map (·.k) else m.ups }
def Nd.sent (x : Nd) (m : M) : Nd := if m.kind < 4 then x.take else x
def Nd.next (x : Nd) : Nd := { x with seq := x.seq + 1 }
def Nd.pinged (x : Nd) (m : M) : List Pk × Nd :=
 if m.tgt = x.self.id then ([(m.frm, x.msg ⟨2, 0, 0, m.seq, m.tgt, []⟩)], x.sent ⟨2, 0, 0, m.seq, m.tgt, []⟩) else ([], x)
def ackProbe (p : Option Prb) (m : M) : Option Prb := p.map fun p => if p.seq = m.seq /\ p.tgt = m.tgt then { p with acked := true } else p
def Nd.acked (x : Nd) (m : M) : List Pk × Nd :=
 let x : Nd := { x with probe := ackProbe x.probe m }
 match x.relays.find? (fun r => r.seq == m.seq && r.tgt == m.tgt) with
 | none => ([], x)
 | some r =>
  let x : Nd := { x with relays := x.relays.filter (fun r => !(r.seq == m.seq)) }
  ([(r.orig, x.msg ⟨2, 0, 0, r.oseq, r.tgt, []⟩)], x.sent ⟨2, 0, 0, r.oseq, r.tgt, []⟩)
def Nd.asked (x : Nd) (m : M) : List Pk × Nd :=
 if m.tgt = x.self.id then x.pinged m
 else if x.relays.length = 4 then ([], x)
 else
  let y : Nd := { x.next with relays := x.relays ++ [⟨x.seq + 1, m.tgt, m.frm, m.seq, x.clock + x.c.period⟩] }
  ([(m.tgt, y.msg ⟨1, 0, 0, x.seq + 1, m.tgt, []⟩)], y.sent ⟨1, 0, 0, x.seq + 1, m.tgt, []⟩)
def putK (k : K) : List K -> List K
 | [] => [k]
 | a :: r => if a.id < k.id then a :: putK k r else k :: a :: r
def Nd.joined (x : Nd) (m : M) : List Pk × Nd := ([(m.frm, x.msg ⟨5, 0, 0, m.seq, 0, putK x.self (x.others.map (·.k))⟩)], x)
def Nd.answer (x : Nd) (m : M) : List Pk × Nd :=
 if m.kind = 1 then x.pinged m else if m.kind = 2 then x.acked m else if m.kind = 3 then x.asked m else if m.kind = 4 then x.joined m else ([], x)
def Nd.heardAll (x : Nd) (m : M) : Nd := m.ups.foldl Nd.hear (x.hear ⟨m.frm, m.inc, 1⟩)
def Nd.receive (x : Nd) : Option M -> List Pk × Nd
 | none => ([], { x with dropped := x.dropped + 1 })
 | some m => if m.frm = x.self.id then ([], { x with dropped := x.dropped + 1 }) else (x.heardAll m).answer m
def Nd.join (x : Nd) (n : Int) : List Pk × Int × Nd :=
 if x.self.st = 4 then ([], 4, x)
 else if n < 1 \/ n > 250 \/ n = x.self.id then ([], 3, x)
 else ([(n, x.next.msg ⟨4, 0, 0, x.seq + 1, 0, []⟩)], 0, x.next)
def Nd.leave (x : Nd) : Int × Nd :=
 if x.self.st = 4 then (4, x) else (0, { x with self := { x.self with st := 4 } }.changed { x.self with st := 4 })
def Nd.askAll (p : Prb) : Nat -> List Int -> Nd -> List Pk × Nd
 | 0, _, x => ([], x)
 | n + 1, l, x =>
  if l = [] then ([], x)
  else
   let d := (x.draw l.length).1
   let y := (x.draw l.length).2
   let r := Nd.askAll p n (l.eraseIdx d.toNat) (y.sent ⟨3, 0, 0, p.seq, p.tgt, []⟩)
   ((l.getD d.toNat 0, y.msg ⟨3, 0, 0, p.seq, p.tgt, []⟩) :: r.1, r.2)
def here (m : Mem) : Bool := decide (m.k.st <= 2)
def Nd.helpers (x : Nd) (p : Prb) : List Int := (x.others.filter (fun m => here m && m.k.id != p.tgt)).map (·.k.id)
def Nd.endProbe (x : Nd) (p : Prb) : Nd :=
 if x.clock - p.start < x.c.period then x
 else
  let y : Nd := { x with probe := none }
  match Jo x.others p.tgt with
  | none => y
  | some m => if p.acked = false /\ m.k.st = 1 then y.hear ⟨m.k.id, m.k.inc, 2⟩ else y
def Nd.waits (x : Nd) : List Pk × Nd :=
 match x.probe with
 | none => ([], x)
 | some p =>
  let r := if x.clock - p.start = x.c.wait /\ p.acked = false then Nd.askAll p x.c.prox.toNat (x.helpers p) x else ([], x)
  (r.1, r.2.endProbe p)
def swapL (l : List Int) (i j : Nat) : List Int := (l.set i (l.getD j 0)).set j (l.getD i 0)
def Nd.mix : Nat -> List Int -> Nd -> List Int × Nd
 | 0, l, x => (l, x)
 | i + 1, l, x => Nd.mix i (swapL l (i + 1) (x.draw (i + 2)).1.toNat) (x.draw (i + 2)).2
def Nd.newPass (x : Nd) : Nd :=
 if x.pass = [] then
  let l := (x.others.filter here).map (·.k.id)
  let r := Nd.mix (l.length - 1) l x
  { r.2 with pass := r.1 }
 else x
def Nd.begins (x : Nd) : List Pk × Nd :=
 let y := x.newPass
 match y.pass with
 | [] => ([], y)
 | t :: rest =>
  let z : Nd := { y.next with pass := rest, probe := some ⟨t, y.seq + 1, y.clock, false⟩ }
  ([(t, z.msg ⟨1, 0, 0, y.seq + 1, t, []⟩)], z.sent ⟨1, 0, 0, y.seq + 1, t, []⟩)
def Nd.due (x : Nd) : List Mem := x.others.filter (fun m => m.k.st == 2 && decide (m.due <= x.clock))
def Nd.clocked (x : Nd) : Nd :=
 let y : Nd := { x with clock := x.clock + 1, relays := x.relays.filter (fun r => decide (x.clock + 1 < r.ends)) }
 y.due.foldl (fun y m => y.hear ⟨m.k.id, m.k.inc, 3⟩) y
def Nd.tick (x : Nd) : List Pk × Nd :=
 let r := x.clocked.waits
 if r.2.probe.isNone /\ r.2.self.st ≠ 4 then (r.1 ++ r.2.begins.1, r.2.begins.2) else r
def Nd.new (c : Cfg) (ds : List Int) : Nd :=
 { c, ds, at_ := 0, clock := 0, seq := 0, self := ⟨c.self, 1, 1⟩, others := [], pass := [], probe := none, queue := [], relays := [], dropped := 0, lost := 0, events := [] }
def cfgB (c : Cfg) : Bool :=
 Kl c.self 1 250 && Kl c.period 4 50 && Kl c.wait 1 (c.period - 2) && Kl c.susp 1 500 && Kl c.prox 0 3 && Kl c.sends 1 8
def Jp (k : K) : Prop := (1 <= k.id /\ k.id <= 250) /\ (1 <= k.inc /\ k.inc <= 1073741824) /\ (1 <= k.st /\ k.st <= 4)
def idOk (n : Int) : Prop := 1 <= n /\ n <= 250
def Zf (l : List Mem) : List Int := l.map (fun m => m.k.id)
def uids (l : List Upd) : List Int := l.map (fun u => u.k.id)
def rids (l : List Rel) : List Int := l.map (fun r => r.seq)
def Rise (l : List Int) : Prop := l.Pairwise (· < ·)
structure Ok (x : Nd) : Prop where
 cfg : cfgB x.c = true
 selfId : x.self.id = x.c.self
 self : Jp x.self
 rise : Rise (Zf x.others)
 notSelf : ∀ m ∈ x.others, m.k.id ≠ x.self.id
 key : ∀ m ∈ x.others, Jp m.k
 len : x.others.length <= 7
 qnd : (uids x.queue).Nodup
 qin : ∀ u ∈ x.queue, u.k.id = x.self.id \/ u.k.id ∈ Zf x.others
 qkey : ∀ u ∈ x.queue, Jp u.k /\ 0 <= u.sent /\ u.sent < x.c.sends
 rnd : (rids x.relays).Nodup
 rlen : x.relays.length <= 4
 rok : ∀ r ∈ x.relays, (1 <= r.seq /\ r.seq <= x.seq) /\ idOk r.tgt /\ idOk r.orig /\ (0 <= r.oseq /\ r.oseq <= 4294967295) /\ (0 <= r.ends /\ r.ends <= x.clock + 50)
 pin : ∀ n ∈ x.pass, n ∈ Zf x.others
 pnd : x.pass.length <= 7
 prb : ∀ p, x.probe = some p -> idOk p.tgt /\ (1 <= p.seq /\ p.seq <= x.seq) /\ (0 <= p.start /\ p.start <= x.clock)
 evs : x.events.length <= 8
 ekey : ∀ k ∈ x.events, Jp k
 due : ∀ m ∈ x.others, 0 <= m.due /\ m.due <= x.clock + 500
structure Bd (B : Int) (x : Nd) : Prop where
 clock : 0 <= x.clock /\ x.clock <= B
 seq : 0 <= x.seq /\ x.seq <= B
 dropped : 0 <= x.dropped /\ x.dropped <= B
 lost : 0 <= x.lost /\ x.lost <= B
 at_ : (x.at_ : Int) <= B
theorem Bd.mono {B C : Int} {x : Nd} (h : Bd B x) (hc : B <= C) : Bd C x :=
 ⟨⟨h.clock.1, Int.le_trans h.clock.2 hc⟩, ⟨h.seq.1, Int.le_trans h.seq.2 hc⟩, ⟨h.dropped.1, Int.le_trans h.dropped.2 hc⟩, ⟨h.lost.1, Int.le_trans h.lost.2 hc⟩, Int.le_trans h.at_ hc⟩
/-! ### lists -/
theorem Jk {l : List Mem} {n : Int} : n ∈ Zf l ↔ ∃ m ∈ l, m.k.id = n := by simp [Zf]
theorem mem_putM {m : Mem} {l : List Mem} {a : Mem} (h : a ∈ Js m l) : a = m \/ a ∈ l := by
 induction l with
 | nil => simp [Js] at h; exact .inl h
 | cons b r ih =>
  unfold Js at h
  split at h
  · simp only [List.mem_cons] at h ⊢
    rcases h with h | h
    · exact .inr (.inl h)
    · rcases ih h with h | h
      · exact .inl h
      · exact .inr (.inr h)
  · split at h
    · simp only [List.mem_cons] at h ⊢
      rcases h with h | h
      · exact .inl h
      · exact .inr (.inr h)
    · simp only [List.mem_cons] at h ⊢
      exact h
theorem putM_mem (m : Mem) (l : List Mem) : m ∈ Js m l := by
 induction l with
 | nil => simp [Js]
 | cons b r ih => unfold Js; split; · exact List.mem_cons_of_mem _ ih
                  split <;> simp
theorem putM_keep {m : Mem} {l : List Mem} {a : Mem} (h : a ∈ l) (hn : a.k.id ≠ m.k.id) : a ∈ Js m l := by
 induction l with
 | nil => simp at h
 | cons b r ih =>
  unfold Js; simp only [List.mem_cons] at h
  split
  · rcases h with rfl | h
    · simp
    · exact List.mem_cons_of_mem _ (ih h)
  · split
    · rename_i e
      rcases h with rfl | h
      · exact absurd e hn
      · simp [h]
    · rcases h with rfl | h <;> simp [*]
theorem ids_putM (m : Mem) (l : List Mem) (n : Int) : n ∈ Zf (Js m l) ↔ n = m.k.id \/ n ∈ Zf l := by
 constructor
 · intro h
   obtain ⟨a, ha, rfl⟩ := Jk.1 h; rcases mem_putM ha with rfl | ha
   · exact .inl rfl
   · exact .inr (Jk.2 ⟨a, ha, rfl⟩)
 · rintro (rfl | h)
   · exact Jk.2 ⟨m, putM_mem m l, rfl⟩
   · obtain ⟨a, ha, rfl⟩ := Jk.1 h
     by_cases e : a.k.id = m.k.id
     · rw [e]; exact Jk.2 ⟨m, putM_mem m l, rfl⟩
     · exact Jk.2 ⟨a, putM_keep ha e, rfl⟩
theorem rise_putM (m : Mem) {l : List Mem} (h : Rise (Zf l)) : Rise (Zf (Js m l)) := by
 induction l with
 | nil => simp [Js, Zf, Rise]
 | cons b r ih =>
  have hb : ∀ n ∈ Zf r, b.k.id < n := by
   intro n hn; have := (List.pairwise_cons.1 h).1; exact this n hn
  have hr : Rise (Zf r) := (List.pairwise_cons.1 h).2; unfold Js
  split
  · rename_i hlt
    refine List.pairwise_cons.2 ⟨fun n hn => ?_, ih hr⟩
    rcases (ids_putM m r n).1 hn with rfl | hn
    · exact hlt
    · exact hb n hn
  · split
    · rename_i e
      exact List.pairwise_cons.2 ⟨fun n hn => by have := hb n hn; show m.k.id < n; omega, hr⟩
    · rename_i h1 h2
      have hlt : m.k.id < b.k.id := by omega
      refine List.pairwise_cons.2 ⟨fun n hn => ?_, h⟩
      rcases List.mem_cons.1 hn with rfl | hn
      · exact hlt
      · exact Int.lt_trans hlt (hb n hn)
theorem len_putM (m : Mem) (l : List Mem) : (Js m l).length <= l.length + 1 := by
 induction l with
 | nil => simp [Js]
 | cons b r ih => unfold Js; split; · simpa using ih
                  split <;> simp
theorem len_putM_in {m : Mem} {l : List Mem} (hr : Rise (Zf l)) (h : m.k.id ∈ Zf l) : (Js m l).length = l.length := by
 induction l with
 | nil => simp [Zf] at h
 | cons b r ih =>
  have hb : ∀ n ∈ Zf r, b.k.id < n := fun n hn => (List.pairwise_cons.1 hr).1 n hn
  have h' : m.k.id = b.k.id \/ m.k.id ∈ Zf r := List.mem_cons.1 h; unfold Js
  split
  · rename_i hlt
    rw [List.length_cons, ih (List.pairwise_cons.1 hr).2 (by rcases h' with e | h'; · omega
                                                             · exact h'), List.length_cons]
  · split
    · simp
    · rename_i h1 h2
      rcases h' with e | h'
      · omega
      · have := hb _ h'; omega
theorem Zd {l : List Mem} {n : Int} {m : Mem} (h : Jo l n = some m) : m ∈ l /\ m.k.id = n := by
 unfold Jo at h; exact ⟨List.mem_of_find?_eq_some h, by simpa using List.find?_some h⟩
theorem findM_none {l : List Mem} {n : Int} (h : Jo l n = none) : n ∉ Zf l := by
 unfold Jo at h; rw [List.find?_eq_none] at h; intro hn; obtain ⟨m, hm, e⟩ := Jk.1 hn; exact h m hm (by simpa using e)
/-! ### each step keeps it -/
theorem Ok.changed {x : Nd} (h : Ok x) {k : K} (hk : Jp k) (hi : k.id = x.self.id \/ k.id ∈ Zf x.others) : Ok (x.changed k) := by
 have hs : 1 <= x.c.sends := by
  have := h.cfg; simp only [cfgB, Kl, Bool.and_eq_true, decide_eq_true_eq] at this; omega
 refine { h with qnd := ?_, qin := ?_, qkey := ?_, evs := ?_, ekey := ?_ }
 · have hf : ((uids x.queue).filter (fun n => n != k.id)).Nodup := h.qnd.filter _
   have e : uids (x.changed k).queue = (uids x.queue).filter (fun n => n != k.id) ++ [k.id] := by
    simp only [Nd.changed, uids, List.map_append, List.map_cons, List.map_nil, List.filter_map]; rfl
   rw [e, List.nodup_append]; refine ⟨hf, by simp, ?_⟩
   intro a ha b hb hab; simp only [List.mem_filter, bne_iff_ne, ne_eq, List.mem_cons, List.not_mem_nil, or_false] at ha hb; exact ha.2 (hab.trans hb)
 · intro u hu
   simp only [Nd.changed, List.mem_append, List.mem_filter, List.mem_cons, List.not_mem_nil, or_false] at hu; rcases hu with ⟨hu, _⟩ | rfl
   · exact h.qin u hu
   · exact hi
 · intro u hu
   simp only [Nd.changed, List.mem_append, List.mem_filter, List.mem_cons, List.not_mem_nil, or_false] at hu; rcases hu with ⟨hu, _⟩ | rfl
   · exact h.qkey u hu
   · exact ⟨hk, Int.le_refl _, by show (0 : Int) < x.c.sends; omega⟩
 · have := h.evs
   show (if full x.events = true then x.events else x.events ++ [k]).length <= 8
   by_cases hf : full x.events = true
   · rw [if_pos hf]; exact this
   · rw [if_neg hf, List.length_append, List.length_singleton]
     simp only [full, beq_iff_eq] at hf; omega
 · intro k' hk'
   have hk2 : k' ∈ (if full x.events = true then x.events else x.events ++ [k]) := hk'; by_cases hf : full x.events = true
   · rw [if_pos hf] at hk2; exact h.ekey k' hk2
   · rw [if_neg hf] at hk2
     simp only [List.mem_append, List.mem_cons, List.not_mem_nil, or_false] at hk2; rcases hk2 with hk2 | rfl
     · exact h.ekey _ hk2
     · exact hk
theorem Ok.refute {x : Nd} (h : Ok x) {k : K} (hk : Jp k) : Ok (x.refute k) := by
 unfold Nd.refute
 split
 · exact h
 · rename_i hc
   have hinc : k.inc ≠ 1073741824 := fun e => hc (.inr (.inr (.inr e)))
   have hs : Jp { x.self with inc := k.inc + 1 } := ⟨h.self.1, ⟨by have := hk.2.1; show 1 <= k.inc + 1; omega, by have := hk.2.1; show k.inc + 1 <= _; omega⟩, h.self.2.2⟩
   have h' : Ok { x with self := { x.self with inc := k.inc + 1 } } := { h with self := hs }; exact h'.changed hs (.inl rfl)
theorem Ok.taken {x : Nd} (h : Ok x) (hb : 0 <= x.clock) {k : K} (hk : Jp k) (hne : k.id ≠ x.self.id) (hl : k.id ∈ Zf x.others \/ x.others.length < 7) : Ok (x.taken k) := by
 have hsu : 1 <= x.c.susp /\ x.c.susp <= 500 := by
  have := h.cfg; simp only [cfgB, Kl, Bool.and_eq_true, decide_eq_true_eq] at this; omega
 have hp : ∀ n ∈ (if k.st <= 2 then x.pass else x.pass.filter (fun n => n != k.id)), n ∈ x.pass := by
  intro n hn
  split at hn
  · exact hn
  · exact (List.mem_filter.1 hn).1
 have h' : Ok { x with others := Js ⟨k, x.clock + x.c.susp⟩ x.others, pass := if k.st <= 2 then x.pass else x.pass.filter (fun n => n != k.id) } :=
  { h with
    rise := rise_putM _ h.rise
    notSelf := fun m hm => by rcases mem_putM hm with rfl | hm; · exact hne
                              · exact h.notSelf m hm
    key := fun m hm => by rcases mem_putM hm with rfl | hm; · exact hk
                          · exact h.key m hm
    len := by
     rcases hl with hl | hl
     · show (Js _ _).length <= 7
       rw [len_putM_in h.rise hl]; exact h.len
     · exact Nat.le_trans (len_putM _ _) (by omega)
    qin := fun u hu => (h.qin u hu).imp id (fun hi => (ids_putM _ _ _).2 (.inr hi))
    pin := fun n hn => (ids_putM _ _ _).2 (.inr (h.pin n (hp n hn)))
    pnd := by
     show (if k.st <= 2 then x.pass else x.pass.filter (fun n => n != k.id)).length <= 7
     split
     · exact h.pnd
     · exact Nat.le_trans (List.length_filter_le _ _) h.pnd
    due := fun m hm => by rcases mem_putM hm with rfl | hm; · exact ⟨by show 0 <= x.clock + x.c.susp; omega, by show x.clock + x.c.susp <= x.clock + 500; omega⟩
                          · exact h.due m hm }
 exact h'.changed hk (.inr ((ids_putM _ _ _).2 (.inl rfl)))
theorem Ok.hear {x : Nd} (h : Ok x) (hb : 0 <= x.clock) {k : K} (hk : Jp k) : Ok (x.hear k) := by
 unfold Nd.hear
 split
 · exact h.refute hk
 · rename_i hne
   split
   · split
     · exact h
     · rename_i hf hl
       exact h.taken hb hk hne (.inr (by have := h.len; omega))
   · rename_i m hf
     split
     · obtain ⟨hm, e⟩ := Zd hf
       exact h.taken hb hk hne (.inl (Jk.2 ⟨m, hm, e⟩))
     · exact h
/-! ### what a call to hear leaves as it is -/
structure Same (x y : Nd) : Prop where
 c : y.c = x.c
 ds : y.ds = x.ds
 at_ : y.at_ = x.at_
 clock : y.clock = x.clock
 seq : y.seq = x.seq
 probe : y.probe = x.probe
 relays : y.relays = x.relays
 dropped : y.dropped = x.dropped
 id : y.self.id = x.self.id
theorem Same.refl (x : Nd) : Same x x := ⟨rfl, rfl, rfl, rfl, rfl, rfl, rfl, rfl, rfl⟩
theorem Same.trans {x y z : Nd} (h : Same x y) (k : Same y z) : Same x z :=
 ⟨k.c.trans h.c, k.ds.trans h.ds, k.at_.trans h.at_, k.clock.trans h.clock, k.seq.trans h.seq, k.probe.trans h.probe, k.relays.trans h.relays, k.dropped.trans h.dropped, k.id.trans h.id⟩
theorem same_refute (x : Nd) (k : K) : Same x (x.refute k) := by
 unfold Nd.refute; split
 · exact Same.refl x
 · exact ⟨rfl, rfl, rfl, rfl, rfl, rfl, rfl, rfl, rfl⟩
theorem same_taken (x : Nd) (k : K) : Same x (x.taken k) := ⟨rfl, rfl, rfl, rfl, rfl, rfl, rfl, rfl, rfl⟩
theorem same_hear (x : Nd) (k : K) : Same x (x.hear k) := by
 unfold Nd.hear; split
 · exact same_refute x k
 · split
   · split
     · exact Same.refl x
     · exact same_taken x k
   · split
     · exact same_taken x k
     · exact Same.refl x
theorem Ok.hears {x : Nd} (h : Ok x) (hb : 0 <= x.clock) (l : List K) (hl : ∀ k ∈ l, Jp k) : Ok (l.foldl Nd.hear x) := by
 induction l generalizing x with
 | nil => exact h
 | cons k l ih =>
  exact ih (h.hear hb (hl k (List.mem_cons_self ..))) (by rw [(same_hear x k).clock]; exact hb) (fun k' hk' => hl k' (List.mem_cons_of_mem _ hk'))
theorem lost_changed (x : Nd) (k : K) : x.lost <= (x.changed k).lost /\ (x.changed k).lost <= x.lost + 1 := by
 show x.lost <= (if full x.events = true then x.lost + 1 else x.lost) /\ (if full x.events = true then x.lost + 1 else x.lost) <= x.lost + 1
 by_cases hf : full x.events = true
 · rw [if_pos hf]; omega
 · rw [if_neg hf]; omega
theorem lost_hear (x : Nd) (k : K) : x.lost <= (x.hear k).lost /\ (x.hear k).lost <= x.lost + 1 := by
 unfold Nd.hear; split
 · unfold Nd.refute; split
   · omega
   · exact lost_changed { x with self := { x.self with inc := k.inc + 1 } } _
 · split
   · split
     · omega
     · exact lost_changed { x with others := _, pass := _ } k
   · split
     · exact lost_changed { x with others := _, pass := _ } k
     · omega
theorem Bd.hear {B : Int} {x : Nd} (h : Bd B x) (k : K) : Bd (B + 1) (x.hear k) := by
 have s := same_hear x k; have hl := lost_hear x k; have h1 := h.clock; have h2 := h.seq; have h3 := h.dropped; have h4 := h.lost; have h5 := h.at_; refine ⟨?_, ?_, ?_, ?_, ?_⟩
 · rw [s.clock]; omega
 · rw [s.seq]; omega
 · rw [s.dropped]; omega
 · omega
 · rw [s.at_]; omega
theorem Bd.hears (l : List K) : ∀ {B : Int} {x : Nd}, Bd B x -> Bd (B + l.length) (l.foldl Nd.hear x) := by
 induction l with
 | nil => intro B x h; simpa using h
 | cons k l ih =>
  intro B x h; have := ih (h.hear k); have e : B + 1 + (l.length : Int) = B + ((k :: l).length : Nat) := by simp; omega
  rw [e] at this; exact this
/-! ### what rides along -/
theorem first_mem {x : Nd} {u : Upd} (h : u ∈ x.first) : u ∈ x.queue := by
 unfold Nd.first at h; exact (List.mergeSort_perm x.queue Kv).mem_iff.1 (List.mem_of_mem_take h)
theorem first_len (x : Nd) : x.first.length <= 4 := by unfold Nd.first; rw [List.length_take]; omega
theorem first_nd {x : Nd} (h : (uids x.queue).Nodup) : (uids x.first).Nodup := by
 have hp : (uids (x.queue.mergeSort Kv)).Perm (uids x.queue) := (List.mergeSort_perm x.queue Kv).map _; have := hp.nodup_iff.2 h; unfold Nd.first uids at *; rw [List.map_take]; exact this.sublist (List.take_sublist _ _)
theorem Ok.take {x : Nd} (h : Ok x) : Ok x.take := by
 have hm : ∀ u ∈ x.take.queue, ∃ v ∈ x.queue, v.k = u.k /\ (u.sent = v.sent \/ u.sent = v.sent + 1 /\ u.sent ≠ x.c.sends) := by
  intro u hu; simp only [Nd.take, List.mem_append, List.mem_filter, List.mem_map, bne_iff_ne, ne_eq] at hu; rcases hu with ⟨hu, _⟩ | ⟨⟨v, hv, rfl⟩, hs⟩
  · exact ⟨u, hu, rfl, .inl rfl⟩
  · exact ⟨v, first_mem hv, rfl, .inr ⟨rfl, hs⟩⟩
 refine { h with qnd := ?_, qin := ?_, qkey := ?_ }
 · have e : uids x.take.queue = (uids x.queue).filter (fun n => !(x.first.any fun v => v.k.id == n)) ++ uids ((x.first.map fun u => (⟨u.k, u.sent + 1⟩ : Upd)).filter (fun u => u.sent != x.c.sends)) := by
    simp only [Nd.take, uids, List.map_append, List.filter_map]; rfl
   rw [e, List.nodup_append]
   have hsub : ∀ n ∈ uids ((x.first.map fun u => (⟨u.k, u.sent + 1⟩ : Upd)).filter (fun u => u.sent != x.c.sends)), n ∈ uids x.first := by
    intro n hn; simp only [uids, List.mem_map, List.mem_filter] at hn ⊢; obtain ⟨u, ⟨⟨v, hv, rfl⟩, _⟩, rfl⟩ := hn; exact ⟨v, hv, rfl⟩
   refine ⟨h.qnd.filter _, ?_, ?_⟩
   · have h1 : (uids (x.first.map fun u => (⟨u.k, u.sent + 1⟩ : Upd))).Nodup := by
      have : uids (x.first.map fun u => (⟨u.k, u.sent + 1⟩ : Upd)) = uids x.first := by simp [uids, Function.comp_def]
      rw [this]; exact first_nd h.qnd
     exact List.Nodup.sublist (List.Sublist.map (fun u : Upd => u.k.id) (List.filter_sublist (p := fun u : Upd => u.sent != x.c.sends))) h1
   · intro a ha b hb hab
     subst hab; obtain ⟨v, hv, e⟩ := List.mem_map.1 (hsub a hb); simp only [List.mem_filter, Bool.not_eq_true', List.any_eq_false, beq_iff_eq] at ha; exact ha.2 v hv e
 · intro u hu
   obtain ⟨v, hv, e, _⟩ := hm u hu; rw [<- e]; exact h.qin v hv
 · intro u hu
   obtain ⟨v, hv, e, hs⟩ := hm u hu; obtain ⟨h1, h2, h3⟩ := h.qkey v hv; rw [<- e]; refine ⟨h1, ?_, ?_⟩
   · rcases hs with hs | ⟨hs, _⟩ <;> omega
   · show u.sent < x.c.sends
     rcases hs with hs | ⟨hs, hn⟩ <;> omega
theorem Ok.sent {x : Nd} (h : Ok x) (m : M) : Ok (x.sent m) := by
 unfold Nd.sent; split
 · exact h.take
 · exact h
structure SameQ (x y : Nd) : Prop extends Same x y where
 self : y.self = x.self
 others : y.others = x.others
 pass : y.pass = x.pass
 lost : y.lost = x.lost
 events : y.events = x.events
theorem sameQ_sent (x : Nd) (m : M) : SameQ x (x.sent m) := by
 unfold Nd.sent; split <;> exact ⟨⟨rfl, rfl, rfl, rfl, rfl, rfl, rfl, rfl, rfl⟩, rfl, rfl, rfl, rfl, rfl⟩
theorem Bd.sent {B : Int} {x : Nd} (h : Bd B x) (m : M) : Bd B (x.sent m) := by
 have s := sameQ_sent x m; exact ⟨by rw [s.clock]; exact h.clock, by rw [s.seq]; exact h.seq, by rw [s.dropped]; exact h.dropped, by rw [s.lost]; exact h.lost, by rw [s.at_]; exact h.at_⟩
theorem nodup_le {l l' : List Int} (h : l.Nodup) (hs : ∀ n ∈ l, n ∈ l') : l.length <= l'.length := by
 induction l generalizing l' with
 | nil => simp
 | cons a r ih =>
  have ha := hs a (by simp)
  have h1 := List.nodup_cons.1 h; have := ih (l' := l'.erase a) h1.2 (fun n hn => (List.mem_erase_of_ne (fun e => h1.1 (by rw [<- e]; exact hn))).2 (hs n (by simp [hn])))
  rw [List.length_erase_of_mem ha] at this; have : 0 < l'.length := List.length_pos_of_mem ha; simp only [List.length_cons]; omega
theorem Ok.qlen {x : Nd} (h : Ok x) : x.queue.length <= 8 := by
 have := nodup_le (l' := x.self.id :: Zf x.others) h.qnd (fun n hn => by
  obtain ⟨u, hu, rfl⟩ := List.mem_map.1 hn; rcases h.qin u hu with e | e
  · simp [e]
  · simp [e])
 simp only [uids, Zf, List.length_map, List.length_cons] at this; have := h.len; omega
def fitsI (n : Int) : Prop := -9223372036854775808 <= n /\ n <= 9223372036854775807
theorem wf_of_fits {n : Int} (h : fitsI n) : (Lit.int .i64 n).wf = true := by
 simpa [fitsI, Lit.wf, IntKind.min, IntKind.max, IntKind.signed, IntKind.bits] using h
def Upd.v (u : Upd) : Value := .agg #[.int .i64 u.k.id, .int .i64 u.k.inc, .int .i64 u.k.st, .int .i64 u.sent]
def Jz (l : List Upd) : List (Int × Value) := l.map (fun u => (u.k.id, u.v))
theorem qPairs_len (l : List Upd) : (Jz l).length = l.length := by simp [Jz]
theorem qPairs_put (l : List Upd) (k : K) : (Jz l).filter (fun p => p.1 != k.id) ++ [(k.id, (⟨k, 0⟩ : Upd).v)] = Jz (l.filter (fun u => u.k.id != k.id) ++ [⟨k, 0⟩]) := by
 simp only [Jz, List.map_append, List.map_cons, List.map_nil, List.filter_map]
 rfl
theorem nput_any (bq bm : Nat) (c0 : Value) (l : List Upd) (k : K) (w : World) (hq : w.heap[bq]? = some (.cells #[c0, .map (some bm)] 211 (0, 0))) (hm : Kw Tryz.prog 3 w bm (Jz l)) (hl : l.length < 1000000) (hk : fitsI k.id) :
  Calls Tryz.prog 89 #[.pointer (some ⟨bq, 0, none⟩), .agg #[.int .i64 k.id, .int .i64 k.inc, .int .i64 k.st]] w fun e w' =>
   e = .returned (.tuple #[]) /\ Kw Tryz.prog 3 w' bm (Jz (l.filter (fun u => u.k.id != k.id) ++ [⟨k, 0⟩])) /\ Chg (fun x _ => x = bm) w w' := by
 obtain ⟨kid, kinc, kst⟩ := k; simp only at hk ⊢; have hc := Ka hq 1; simp only [List.getElem?_toArray, List.getElem?_cons_succ, List.getElem?_cons_zero] at hc; have hbq := Kb hq; obtain ⟨w1, hw1⟩ : ∃ w1, w.alloc (.cells #[.int .i64 kid, .int .i64 kinc, .int .i64 kst] 76) = w1 := ⟨_, rfl⟩; have hm1 : Kw Tryz.prog 3 w1.drew bm (Jz l) := by rw [<- hw1]; exact hm.heap (Below.heap_alloc _ _ _ hm.lt)
 obtain ⟨w2, hr, hm2, hg2, hs2⟩ := hm1.store Tryz.underlying3 Tryz.underlying209 (by rw [qPairs_len]; exact hl) kid (wf_of_fits hk) (.agg #[.int .i64 kid, .int .i64 kinc, .int .i64 kst, .int .i64 0])
 have hc1 : w1.cell? ⟨bq, 1, none⟩ = some (.map (some bm)) := by rw [<- hw1, World.cell?_alloc_lt _ _ _ hbq]; exact hc
 have hx1 : w1.heap[w.heap.size]? = some (.cells #[.int .i64 kid, .int .i64 kinc, .int .i64 kst] 76 (0, 0)) := by rw [<- hw1]; exact Kc w _
 have d0 := Ka hx1 0; have d1 := Ka hx1 1; have d2 := Ka hx1 2; simp only [List.getElem?_toArray, List.getElem?_cons_succ, List.getElem?_cons_zero] at d0 d1 d2; have hC : Chg (fun x _ => x = bm) w w2 := ((Chg.refl _ w).alloc (.cells #[.int .i64 kid, .int .i64 kinc, .int .i64 kst] 76)).trans (by rw [hw1]; exact ((Chg.refl _ w1).drew).grown hg2 (fun k o e _ => by cases e; rfl))
 have HM2 := Hd hm2; have HC := Hd hC; have HW1 := Hd hw1; clear hm hq hm1 hm2 hg2 hx1 hC hw1 hc; go_enter Tryz.func89, Tryz.ntmps89; go_wp2_with fail
 rw [HW1.out]; go_region
 all_goals
  go_wp2; go_end0
  have e := qPairs_put l ⟨kid, kinc, kst⟩; exact ⟨rfl, e ▸ HM2.out, HC.out⟩
structure Ad where
 b : Nat          -- the node
 bo : Nat         -- the table's map
 bq : Nat         -- the queue
 bm : Nat         -- the queue's map
 bc : Nat         -- the channel
 br : Nat         -- the relays' map
 mem : Int -> Nat  -- each member's block
 pa : Option Addr -- the pass
 pc : Nat
 pb : Nat         -- the probe's block
 w1 : Nat         -- the draws' list, its box
 w2 : Nat         -- how many were drawn, its box
 da : Option Addr -- the draws' list
 dc : Nat
def K.v (k : K) : Value := .agg #[.int .i64 k.id, .int .i64 k.inc, .int .i64 k.st]
def drawV (a : Ad) : Value := .func (.func 82) #[] #[.pointer (some ⟨a.w1, 0, none⟩), .pointer (some ⟨a.w2, 0, none⟩)]
def boundV (b : Nat) (g : Nat) : Value := .func (.func g) #[.pointer (some ⟨b, 0, none⟩)] #[]
def prbV (a : Ad) : Option Prb -> Value
 | none => .pointer none
 | some _ => .pointer (some ⟨a.pb, 0, none⟩)
def mPairs (a : Ad) (l : List Mem) : List (Int × Value) := l.map (fun m => (m.k.id, .pointer (some ⟨a.mem m.k.id, 0, none⟩)))
def Rel.v (r : Rel) : Value := .agg #[.int .i64 r.tgt, .int .i64 r.orig, .int .i64 r.oseq, .int .i64 r.ends]
def rPairs (l : List Rel) : List (Int × Value) := l.map (fun r => (r.seq, r.v))
def nodeF (a : Ad) (ov : Value) (x : Nd) : Nat -> Value
 | 0 => .int .i64 x.c.self
 | 1 => .int .i64 x.c.period
 | 2 => .int .i64 x.c.wait
 | 3 => .int .i64 x.c.susp
 | 4 => .int .i64 x.c.prox
 | 5 => .int .i64 x.c.sends
 | 6 => drawV a
 | 7 => .int .i64 x.self.id
 | 8 => .int .i64 x.self.inc
 | 9 => .int .i64 x.self.st
 | 10 => .map (some a.bo)
 | 11 => .pointer (some ⟨a.bq, 0, none⟩)
 | 12 => .chan (some a.bc)
 | 13 => .int .i64 x.clock
 | 14 => .int .i64 x.seq
 | 15 => .slice a.pa x.pass.length a.pc
 | 16 => prbV a x.probe
 | 17 => .map (some a.br)
 | 18 => .int .i64 x.dropped
 | 19 => .int .i64 x.lost
 | 20 => ov
 | 21 => .nilFunc
 | 22 => boundV a.b 120
 | 23 => boundV a.b 121
 | 24 => boundV a.b 122
 | 25 => boundV a.b 123
 | _ => .func (.func 124) #[] #[]
abbrev NB (w : World) (b : Nat) (f : Nat -> Value) : Prop := SB 131 27 w b f
def Ky (m : Mem) : Array Value := #[.int .i64 m.k.id, .int .i64 m.k.inc, .int .i64 m.k.st, .int .i64 m.due]
def prbCells (p : Prb) : Array Value := #[.int .i64 p.tgt, .int .i64 p.seq, .int .i64 p.start, .bool p.acked]
def NumsAt (w : World) (a : Option Addr) (n c : Nat) (l : List Int) : Prop :=
 l.length = n /\ n <= c /\ ∀ p, a = some p -> ∃ cur : Array Value, w.heap[p.block]? = some (.cells cur 3 (0, 0)) /\ p.spot = none /\ p.off + c <= cur.size /\ ∀ (i : Nat) v, l[i]? = some v -> cur[p.off + i]? = some (.int .i64 v)
structure NodeAt (w : World) (a : Ad) (ov : Value) (x : Nd) : Prop where
 blk : NB w a.b (nodeF a ov x)
 others : Kw Tryz.prog 3 w a.bo (mPairs a x.others)
 mems : ∀ m ∈ x.others, w.heap[a.mem m.k.id]? = some (.cells (Ky m) 144 (0, 0))
 minj : ∀ m ∈ x.others, ∀ m' ∈ x.others, a.mem m.k.id = a.mem m'.k.id -> m.k.id = m'.k.id
 queue : w.heap[a.bq]? = some (.cells #[.int .i64 x.c.sends, .map (some a.bm)] 211 (0, 0))
 news : Kw Tryz.prog 3 w a.bm (Jz x.queue)
 chan : ∃ s r, w.heap[a.bc]? = some (.chan 8 (x.events.map K.v).toArray false s r false)
 pass : NumsAt w a.pa x.pass.length a.pc x.pass
 pass0 : a.pa = none -> x.pass = [] /\ a.pc = 0
 prb : ∀ p, x.probe = some p -> w.heap[a.pb]? = some (.cells (prbCells p) 176 (0, 0))
 relays : Kw Tryz.prog 3 w a.br (rPairs x.relays)
 box1 : w.heap[a.w1]? = some (.cells #[.slice a.da x.ds.length a.dc] 24 (0, 0))
 box2 : w.heap[a.w2]? = some (.cells #[.int .i64 (x.at_ : Int)] 3 (0, 0))
 ds : NumsAt w a.da x.ds.length a.dc x.ds
 ds0 : a.da = none -> x.ds = [] /\ a.dc = 0
 dfit : ∀ v ∈ x.ds, fitsI v
 ne1 : a.bo ≠ a.bm
 ne2 : a.bm ≠ a.br
 ne3 : a.bo ≠ a.br
 ne4 : (Value.slice a.pa x.pass.length a.pc).ownBlock ≠ some a.w2
 ne5 : (Value.slice a.da x.ds.length a.dc).ownBlock ≠ some a.w2
 ne6 : ∀ k, (Value.slice a.pa x.pass.length a.pc).ownBlock = some k -> (Value.slice a.da x.ds.length a.dc).ownBlock ≠ some k
def Zh (a : Ad) (x : Nd) (k : Nat) : Prop :=
 k = a.b \/ k = a.bo \/ k = a.bq \/ k = a.bm \/ k = a.bc \/ k = a.br \/ (∃ m ∈ x.others, k = a.mem m.k.id) \/ (Value.slice a.pa x.pass.length a.pc).ownBlock = some k \/ (x.probe.isSome = true /\ k = a.pb) \/ k = a.w1 \/ k = a.w2 \/ (Value.slice a.da x.ds.length a.dc).ownBlock = some k
theorem NumsAt.heap {w w' : World} {a : Option Addr} {n c : Nat} {l : List Int} (h : NumsAt w a n c l) (e : ∀ k, (Value.slice a n c).ownBlock = some k -> w'.heap[k]? = w.heap[k]?) : NumsAt w' a n c l := by
 refine ⟨h.1, h.2.1, fun p hp => ?_⟩
 obtain ⟨cur, hg, r⟩ := h.2.2 p hp; exact ⟨cur, (e p.block (by rw [hp]; rfl)).trans hg, r⟩
theorem NodeAt.keep {w w' : World} {a : Ad} {ov : Value} {x : Nd} (h : NodeAt w a ov x) (e : ∀ k, Zh a x k -> w'.heap[k]? = w.heap[k]?) : NodeAt w' a ov x :=
 { h with
   blk := h.blk.heap (e _ (.inl rfl))
   others := h.others.heap (e _ (.inr (.inl rfl)))
   mems := fun m hm => (e _ (.inr (.inr (.inr (.inr (.inr (.inr (.inl ⟨m, hm, rfl⟩)))))))).trans (h.mems m hm)
   queue := (e _ (.inr (.inr (.inl rfl)))).trans h.queue
   news := h.news.heap (e _ (.inr (.inr (.inr (.inl rfl)))))
   chan := by obtain ⟨s, r, hc⟩ := h.chan; exact ⟨s, r, (e _ (.inr (.inr (.inr (.inr (.inl rfl)))))).trans hc⟩
   pass := h.pass.heap (fun k hk => e k (.inr (.inr (.inr (.inr (.inr (.inr (.inr (.inl hk)))))))))
   prb := fun p hp => (e _ (.inr (.inr (.inr (.inr (.inr (.inr (.inr (.inr (.inl ⟨by rw [hp]; rfl, rfl⟩)))))))))).trans (h.prb p hp)
   relays := h.relays.heap (e _ (.inr (.inr (.inr (.inr (.inr (.inl rfl)))))))
   box1 := (e _ (.inr (.inr (.inr (.inr (.inr (.inr (.inr (.inr (.inr (.inl rfl))))))))))).trans h.box1
   box2 := (e _ (.inr (.inr (.inr (.inr (.inr (.inr (.inr (.inr (.inr (.inr (.inl rfl)))))))))))).trans h.box2
   ds := h.ds.heap (fun k hk => e k (.inr (.inr (.inr (.inr (.inr (.inr (.inr (.inr (.inr (.inr (.inr hk)))))))))))) }
theorem NodeAt.owns_lt {w : World} {a : Ad} {ov : Value} {x : Nd} (h : NodeAt w a ov x) {k : Nat} (hk : Zh a x k) : k < w.heap.size := by
 rcases hk with rfl | rfl | rfl | rfl | rfl | rfl | ⟨m, hm, rfl⟩ | hk | ⟨hp, rfl⟩ | rfl | rfl | hk
 · exact h.blk.lt
 · exact h.others.lt
 · exact Kb h.queue
 · exact h.news.lt
 · obtain ⟨s, r, hc⟩ := h.chan; exact Kb hc
 · exact h.relays.lt
 · exact Kb (h.mems m hm)
 · cases hpa : a.pa with
   | none => rw [hpa] at hk; simp [Value.ownBlock] at hk
   | some p =>
    rw [hpa] at hk; simp only [Value.ownBlock, Option.some.injEq] at hk; obtain ⟨cur, hg, _⟩ := h.pass.2.2 p hpa; rw [<- hk]; exact Kb hg
 · obtain ⟨p, hp⟩ := Option.isSome_iff_exists.1 hp
   exact Kb (h.prb p hp)
 · exact Kb h.box1
 · exact Kb h.box2
 · cases hpa : a.da with
   | none => rw [hpa] at hk; simp [Value.ownBlock] at hk
   | some p =>
    rw [hpa] at hk; simp only [Value.ownBlock, Option.some.injEq] at hk; obtain ⟨cur, hg, _⟩ := h.ds.2.2 p hpa; rw [<- hk]; exact Kb hg
theorem NodeAt.below {w w' : World} {a : Ad} {ov : Value} {x : Nd} (h : NodeAt w a ov x) (hb : Below w.heap.size w w') : NodeAt w' a ov x :=
 h.keep (fun k hk => hb.block k (h.owns_lt hk))
end Go.Proofs.YtfngdplkcppabaaGreatDoor
namespace Go.Proofs.YtfngdplkcppabaaGreatDoor
open Go.RowKit Go.Conc
def WpN (P : Program) (c : Code) (Q : Exit -> Act -> World -> Prop) (a : Act) (w : World) : Prop :=
 ∀ (b : Frame) (k : List Item) (cs : List Frame), b.kind = .normal -> ∃ e a' w', Q e a' w' /\ Arrives P (lone (b.at a (.code c :: k)) cs w) b k cs e a' w'
section
variable {P : Program} {Q : Exit -> Act -> World -> Prop} {a : Act} {w : World}
theorem wpN_of_wp {c : Code} (h : c.wp P Q a w) : WpN P c Q a w := fun b k cs _ => h b k cs
theorem wpN_seq {x y : Code} (h : WpN P x (Exit.then (WpN P y Q) Q) a w) : WpN P (Code.seq x y) Q a w := by
 intro b k cs hk; obtain ⟨e, a₁, w₁, hq, harr⟩ := h b (.code y :: k) cs hk; cases e with
 | normal =>
  obtain ⟨e₂, a₂, w₂, hq₂, harr₂⟩ := hq b k cs hk; exact ⟨e₂, a₂, w₂, hq₂, .of_steps (.head step_seq harr) harr₂⟩
 | exit id => exact ⟨_, a₁, w₁, hq, .of_steps (.one step_seq) (.pass (x := .code y) rfl (fun _ _ => .inl (by simp)) harr)⟩
 | goto l => exact ⟨_, a₁, w₁, hq, .of_steps (.one step_seq) (.pass (x := .code y) rfl (fun _ _ => .inl (by simp)) harr)⟩
 | ret => exact ⟨_, a₁, w₁, hq, .of_steps (.one step_seq) (.pass (x := .code y) rfl (fun _ _ => .inl (by simp)) harr)⟩
 | panic ch => exact ⟨_, a₁, w₁, hq, .of_steps (.one step_seq) (.pass (x := .code y) rfl (fun _ _ => .inl (by simp)) harr)⟩
 | outgrown => exact ⟨_, a₁, w₁, hq, .of_steps (.one step_seq) (.pass (x := .code y) rfl (fun _ _ => .inl (by simp)) harr)⟩
theorem wpN_first {x y : Code} (h : ∀ K : Act -> World -> Prop, (∀ a w, WpN P y Q a w -> K a w) -> x.wp P (Exit.then K Q) a w) : WpN P (Code.seq x y) Q a w :=
 wpN_seq (wpN_of_wp (h _ fun _ _ h => h))
theorem calls_of_wpN {f : FuncId} {fn : Func} {c : Code} {args : Array Value} {R : Ending -> World -> Prop}
  (hf : P.funcs[f]? = some fn) (hb : fn.body = some c)
  (h : WpN P c (bodyPost P fn R) { tmps := args ++ Array.replicate (fn.ntmps - args.size) undef, defers := [] } w) : Calls P f args w R := by
 intro cs
 let b : Frame := { (default : Frame) with fn := f, kind := .normal }
 have henter : Frame.enter P f args .normal = b.at { tmps := args ++ Array.replicate (fn.ntmps - args.size) undef, defers := [] } [.code c] := by
  simp [Frame.enter, Frame.at, hf, hb, b]
 obtain ⟨e, a', w', hq, harr⟩ := h b [] cs rfl; rw [<- henter] at harr; cases e with
 | normal =>
  obtain ⟨hd, v, hr, hR⟩ := hq; exact ⟨.returned v, w', _, hR, Steps.trans harr (.one step_end), rfl, rfl, hd, rfl, fn, hf, hr⟩
 | ret =>
  obtain ⟨hd, v, hr, hR⟩ := hq; obtain ⟨todo, hs⟩ := harr; exact ⟨.returned v, w', _, hR, hs, rfl, rfl, hd, rfl, fn, hf, hr⟩
 | panic chain =>
  obtain ⟨hd, hR⟩ := hq; obtain ⟨todo, hs⟩ := harr; exact ⟨.panicked chain, w', _, hR, hs, rfl, rfl, hd, fn, hf⟩
 | exit id => exact hq.elim
 | goto l => exact hq.elim
 | outgrown => exact ⟨.outgrown, w', b, hq, harr.resolve_left (by simp [b]), rfl, trivial⟩
theorem wpN_step_first {id : Nat} {o o1 o2 : Oper} {v : Value} {w' : World}
  (hstep : ∀ (b : Frame) (k : List Item) (cs : List Frame), b.kind = .normal -> step P (lone (b.at a (.inRegion #[o, o1, o2] [0, 1, 2] :: k)) cs w) = .next (lone (b.at (a.put o.dst v) (.inRegion #[o, o1, o2] [1, 2] :: k)) cs w'))
  (h : wpList P #[o, o1, o2] Q [o1, o2] (a.put o.dst v) w') : WpN P (.region id #[o, o1, o2] false) Q a w := by
 intro b k cs hk; have e : wpOps P #[o, o1, o2] Q [1, 2] = wpList P #[o, o1, o2] Q [o1, o2] := wpOps_eq_wpList [o1, o2] 1 (fun j => by rcases j with _ | _ | j <;> simp <;> omega)
 rw [<- e] at h; obtain ⟨ex, a', w'', hq, harr⟩ := wp_ops [1, 2] _ w' h b k cs; exact ⟨ex, a', w'', hq, .of_steps (.head step_region (.one (hstep b k cs hk))) harr⟩
theorem wpN_send_room {id : Nat} {o o1 o2 : Oper} (cop sop : Operand) (T : TypeId) (c cap s r : Nat) (buf : Array Value) (v z : Value)
  (hop : o.op = Op.select #[{ chan := cop, send := some sop, elem := T }] false) (hg : o.guard = none) (hc : a.eval cop = .chan (some c)) (hv : a.eval sop = v) (hz : ∀ w, (zeroValue T).run P w = .ok z w)
  (hw : w.heap[c]? = some (.chan cap buf false s r false)) (hroom : buf.size < cap)
  (h : wpList P #[o, o1, o2] Q [o1, o2] (a.put o.dst (.tuple #[goInt 0, .bool false])) (w.setChan c cap (buf.push v) false (s + 1) r false)) :
  WpN P (.region id #[o, o1, o2] false) Q a w := by
 refine wpN_step_first (fun b k cs hk => ?_) h
 rw [lone_eq_solo, step_lone_select_send_room (stepG_comm (o := o) (cases := #[scase c v z]) (blocking := false) (shape := .select) (w' := w) rfl (by simp [Region.wanted, hg]) (by rw [hk]; decide) (by
  simp [execOp, hop, hc, hv, hz, scase])) hw hroom, Frame.finish_at]
 rfl
theorem wpN_send_full {id : Nat} {o o1 o2 : Oper} (cop sop : Operand) (T : TypeId) (c cap s r : Nat) (buf : Array Value) (v z : Value)
  (hop : o.op = Op.select #[{ chan := cop, send := some sop, elem := T }] false) (hg : o.guard = none) (hc : a.eval cop = .chan (some c)) (hv : a.eval sop = v) (hz : ∀ w, (zeroValue T).run P w = .ok z w)
  (hw : w.heap[c]? = some (.chan cap buf false s r false)) (hfull : cap <= buf.size)
  (h : wpList P #[o, o1, o2] Q [o1, o2] (a.put o.dst (.tuple #[goInt (-1), .bool false])) w) :
  WpN P (.region id #[o, o1, o2] false) Q a w := by
 refine wpN_step_first (fun b k cs hk => ?_) h
 rw [lone_eq_solo, step_lone_select_send_full (stepG_comm (o := o) (cases := #[scase c v z]) (blocking := false) (shape := .select) (w' := w) rfl (by simp [Region.wanted, hg]) (by rw [hk]; decide) (by
  simp [execOp, hop, hc, hv, hz, scase])) hw hfull, Frame.finish_at]
 rfl
end
