/-
  Texts of the proof: Ens, RfFind, RfChg, RfOwn, RfMem, RfHeard. No condition.
-/
import Derived.Test.YtfngdplkcppabaaGreatDoorPart01
import Derived.Test.YtfngdplkcppabaaGreatDoorPart16
import Derived.Test.YtfngdplkcppabaaGreatDoorPart17
import Derived.Test.YtfngdplkcppabaaGreatDoorPart07
import Derived.Deep.RegionLaw
import Derived.Test.YtfngdplkcppabaaGreatDoorPart10
set_option linter.all false
set_option maxRecDepth 100000
set_option maxHeartbeats 4000000
namespace Go.Proofs.YtfngdplkcppabaaGreatDoor
open Go.RowKit
structure En where
 nb : Nat
 p : Bx
 q : Bx
 b : Nat
 f : Nat -> Value
 r : Nd
def En.v (e : En) : Value := .pointer (some ⟨e.nb, 0, none⟩)
def Pc (e : En) : Nat -> Nat -> Prop
 | 0, k => Foot e.p k
 | 1, k => Foot e.q k
 | _, k => RFoot e.b e.f k
structure EnAt (w : World) (B0 : Nat) (e : En) : Prop where
 blk : w.heap[e.nb]? = some (.cells #[.pointer (some ⟨e.p.g, 0, none⟩), .pointer (some ⟨e.q.g, 0, none⟩), .pointer (some ⟨e.b, 0, none⟩)] 88 (0, 0))
 low : B0 <= e.nb
 p : BxAt w B0 e.p
 q : BxAt w B0 e.q
 r : RfAt w B0 e.b e.f e.r
def Jv : List TypeId := [131, 211, 144, 176, 24, 99, 93, 149, 3, 166, 147, 58]
theorem NodeAt.owns_type {w : World} {a : Ad} {ov : Value} {x : Nd} (h : NodeAt w a ov x) {k : Nat} (hk : Zh a x k) {cs : Array Value} {t : TypeId} {fr : Nat × Nat} (ho : w.heap[k]? = some (.cells cs t fr)) : t ∈ Jv := by
 have hc : ∀ {cs' : Array Value} {t' : TypeId} {fr' : Nat × Nat}, w.heap[k]? = some (.cells cs' t' fr') -> t' ∈ Jv -> t ∈ Jv := fun h1 h2 => by
  rw [ho] at h1; simp only [Option.some.injEq, Obj.cells.injEq] at h1; rw [h1.2.1]; exact h2
 have hm : ∀ {es : Array MapEntry} {n : Nat}, w.heap[k]? = some (.map es n) -> t ∈ Jv := fun h1 => by rw [ho] at h1; cases h1
 rcases hk with rfl | rfl | rfl | rfl | rfl | rfl | ⟨m, hm', rfl⟩ | hk | ⟨hp, rfl⟩ | rfl | rfl | hk
 · obtain ⟨c, h1⟩ := h.blk.block; exact hc h1 (by decide)
 · obtain ⟨es, n, h1⟩ := h.others.isMap; exact hm h1
 · exact hc h.queue (by decide)
 · obtain ⟨es, n, h1⟩ := h.news.isMap; exact hm h1
 · obtain ⟨s, r, h1⟩ := h.chan; rw [ho] at h1; cases h1
 · obtain ⟨es, n, h1⟩ := h.relays.isMap; exact hm h1
 · exact hc (h.mems m hm') (by decide)
 · obtain ⟨c, h1⟩ := h.pass.blk hk; exact hc h1 (by decide)
 · obtain ⟨p, hp⟩ := Option.isSome_iff_exists.1 hp; exact hc (h.prb p hp) (by decide)
 · exact hc h.box1 (by decide)
 · exact hc h.box2 (by decide)
 · obtain ⟨c, h1⟩ := h.ds.blk hk; exact hc h1 (by decide)
section
variable {w w' : World} {B0 : Nat} {e : En}
theorem BxAt.foot_type {q : Bx} (h : BxAt w B0 q) {k : Nat} (hk : Foot q k) {cs : Array Value} {t : TypeId} {fr : Nat × Nat} (ho : w.heap[k]? = some (.cells cs t fr)) : t ∈ Jv := by
 rcases hk with rfl | hk
 · have := h.box; rw [ho] at this; simp only [Option.some.injEq, Obj.cells.injEq] at this; rw [this.2.1]; decide
 · obtain ⟨ov, hn⟩ := h.node; exact hn.owns_type hk ho
theorem EnAt.lt (h : EnAt w B0 e) {c k : Nat} (hk : Pc e c k) : B0 <= k /\ k < w.heap.size := by
 rcases c with _ | _ | c
 · exact ⟨h.p.low k hk, h.p.lt hk⟩
 · exact ⟨h.q.low k hk, h.q.lt hk⟩
 · exact h.r.foot_lt hk
theorem EnAt.type (h : EnAt w B0 e) {c k : Nat} (hk : Pc e c k) {cs : Array Value} {t : TypeId} {fr : Nat × Nat} (ho : w.heap[k]? = some (.cells cs t fr)) : t ∈ Jv := by
 rcases c with _ | _ | c
 · exact h.p.foot_type hk ho
 · exact h.q.foot_type hk ho
 · obtain ⟨cs', t', h1, h2⟩ := h.r.foot_type hk
   rw [ho] at h1; simp only [Option.some.injEq, Obj.cells.injEq] at h1; rw [h1.2.1]; simp only [List.mem_cons, List.not_mem_nil, or_false] at h2; rcases h2 with rfl | rfl | rfl | rfl | rfl | rfl <;> decide
theorem EnAt.nbNot (h : EnAt w B0 e) {e' : En} (h' : EnAt w B0 e') {c k : Nat} (hk : Pc e' c k) : k ≠ e.nb := by
 rintro rfl; exact absurd (h'.type hk h.blk) (by decide)
theorem EnAt.keep (h : EnAt w B0 e) (e0 : w'.heap[e.nb]? = w.heap[e.nb]?) (e1 : ∀ c k, c < 3 -> Pc e c k -> w'.heap[k]? = w.heap[k]?) (e6 : ∀ k, (e.f 6).ownBlock = some k -> w'.heap[k]? = w.heap[k]?) : EnAt w' B0 e :=
 ⟨e0.trans h.blk, h.low, h.p.keep (fun k hk => e1 0 k (by omega) hk), h.q.keep (fun k hk => e1 1 k (by omega) hk), h.r.keep (fun k hk => hk.elim (fun hk => e1 2 k (by omega) hk) (e6 k))⟩
end
structure Ens (w : World) (B0 : Nat) (F : Nat -> Prop) (l : List En) : Prop where
 at_ : ∀ e ∈ l, EnAt w B0 e
 apart : ∀ (i j c d : Nat) (e e' : En), l[i]? = some e -> l[j]? = some e' -> (i ≠ j \/ c ≠ d) -> c < 3 -> d < 3 -> ∀ k, Pc e c k -> ¬ Pc e' d k
 rd : ∀ e ∈ l, ∀ k, (e.f 6).ownBlock = some k -> F k
 fx : ∀ k, F k -> ∃ cs t fr, w.heap[k]? = some (.cells cs t fr) /\ t ∈ Jv
 off : ∀ k, F k -> ∀ e ∈ l, ∀ c, c < 3 -> ¬ Pc e c k
section
variable {w w' : World} {B0 : Nat} {F : Nat -> Prop} {l : List En}
theorem Ens.keep (h : Ens w B0 F l) (en : ∀ e ∈ l, w'.heap[e.nb]? = w.heap[e.nb]?) (ep : ∀ e ∈ l, ∀ c k, c < 3 -> Pc e c k -> w'.heap[k]? = w.heap[k]?) (ef : ∀ k, F k -> w'.heap[k]? = w.heap[k]?) : Ens w' B0 F l :=
 ⟨fun e he => (h.at_ e he).keep (en e he) (ep e he) (fun k hk => ef k (h.rd e he k hk)), h.apart, h.rd, fun k hk => by
  obtain ⟨cs, t, fr, h1, h2⟩ := h.fx k hk; exact ⟨cs, t, fr, (ef k hk).trans h1, h2⟩, h.off⟩
theorem Ens.below (h : Ens w B0 F l) (hb : Below w.heap.size w w') : Ens w' B0 F l :=
 h.keep (fun e he => hb.block _ (Kb (h.at_ e he).blk)) (fun e he c k _ hk => hb.block k ((h.at_ e he).lt hk).2) (fun k hk => by obtain ⟨cs, t, fr, h1, _⟩ := h.fx k hk; exact hb.block k (Kb h1))
theorem Ens.drewN (h : Ens w B0 F l) (n : Nat) : Ens (w.drewN n) B0 F l := h.keep (fun _ _ => rfl) (fun _ _ _ _ _ _ => rfl) (fun _ _ => rfl)
theorem Ens.chg {S : Nat -> Obj -> Prop} (h : Ens w B0 F l) (hc : Chg S w w') (hS : ∀ k o, w.heap[k]? = some o -> S k o -> ∃ cs t fr, o = .cells cs t fr /\ t ∉ Jv /\ t ≠ 88) : Ens w' B0 F l := by
 have hk : ∀ (k : Nat) (o : Obj), w.heap[k]? = some o -> (∀ cs t fr, o = Obj.cells cs t fr -> t ∈ Jv \/ t = 88) -> w'.heap[k]? = w.heap[k]? := fun k o ho ht => by
  rw [ho]; refine hc.kept k o ho (fun hs => ?_)
  obtain ⟨cs, t, fr, e, h1, h2⟩ := hS k o ho hs; rcases ht cs t fr e with h3 | h3
  · exact h1 h3
  · exact h2 h3
 refine h.keep (fun e he => hk _ _ (h.at_ e he).blk (fun cs t fr e => by simp only [Obj.cells.injEq] at e; exact .inr e.2.1.symm)) (fun e he c k _ hp => ?_) (fun k hf => ?_)
 · obtain ⟨o, ho⟩ : ∃ o, w.heap[k]? = some o := ⟨_, Array.getElem?_eq_getElem ((h.at_ e he).lt hp).2⟩
   exact hk k o ho (fun cs t fr e' => .inl ((h.at_ e he).type hp (e' ▸ ho)))
 · obtain ⟨cs, t, fr, h1, h2⟩ := h.fx k hf
   exact hk k _ h1 (fun cs' t' fr' e => by simp only [Obj.cells.injEq] at e; exact .inl (e.2.1 ▸ h2))
theorem Ens.sq {b : Nat} (h : Ens w B0 F l) {f : Nat -> Value} (hb : WB w b f) (hc : Chg (SQ B0 b) w w') : Ens w' B0 F l := h.chg hc (fun k o ho hs => by
 obtain ⟨_, rfl | ⟨cs, t, fr, e, ht⟩⟩ := hs
 · obtain ⟨cs, h1⟩ := hb.block
   rw [ho] at h1; cases h1; exact ⟨_, _, _, rfl, by decide, by decide⟩
 · refine ⟨cs, t, fr, e, ?_⟩
   simp only [Zb, List.mem_cons, List.not_mem_nil, or_false] at ht; rcases ht with rfl | rfl | rfl | rfl | rfl <;> exact ⟨by decide, by decide⟩)
theorem Ens.more {G : Nat -> Prop} (h : Ens w B0 F l) (hG : ∀ k, G k -> ∃ cs t fr, w.heap[k]? = some (.cells cs t fr) /\ t ∈ Jv) (ho : ∀ k, G k -> F k \/ ∀ e ∈ l, ∀ c, c < 3 -> ¬ Pc e c k) : Ens w B0 (fun k => F k \/ G k) l :=
 ⟨h.at_, h.apart, fun e he k hk => .inl (h.rd e he k hk), fun k hk => hk.elim (h.fx k) (hG k), fun k hk e he c hc => hk.elim (fun hk => h.off k hk e he c hc) (fun hk => (ho k hk).elim (fun hk => h.off k hk e he c hc) (fun hn => hn e he c hc))⟩
theorem Ens.turn (h : Ens w B0 F l) {i c : Nat} {e e' : En} (hi : l[i]? = some e) (hc3 : c < 3) (hk : ∀ k, k < w.heap.size -> ¬ Pc e c k -> w'.heap[k]? = w.heap[k]?) (hat : EnAt w' B0 e')
  (hoth : ∀ d k, d < 3 -> d ≠ c -> Pc e' d k -> Pc e d k) (hown : ∀ k, Pc e' c k -> Pc e c k \/ w.heap.size <= k) (h6 : e'.f 6 = e.f 6) : Ens w' B0 F (l.set i e') := by
 have hm := List.mem_of_getElem? hi; have hil := (List.getElem?_eq_some_iff.1 hi).1
 have hold : ∀ j e2, (l.set i e')[j]? = some e2 -> (j = i /\ e2 = e') \/ (j ≠ i /\ l[j]? = some e2) := fun j e2 hj => by
  by_cases hij : i = j
  · subst hij; rw [List.getElem?_set_self hil] at hj; cases hj; exact .inl ⟨rfl, rfl⟩
  · rw [List.getElem?_set_ne hij] at hj; exact .inr ⟨fun e => hij e.symm, hj⟩
 have hnew : ∀ d k, d < 3 -> Pc e' d k -> Pc e d k \/ (d = c /\ w.heap.size <= k) := fun d k hd hp => by
  by_cases hdc : d = c
  · subst hdc; exact (hown k hp).imp id (fun h => ⟨rfl, h⟩)
  · exact .inl (hoth d k hd hdc hp)
 have hf : ∀ k, F k -> w'.heap[k]? = w.heap[k]? := fun k hk' => by
  obtain ⟨cs, t, fr, h1, _⟩ := h.fx k hk'; exact hk k (Kb h1) (h.off k hk' e hm c hc3)
 refine ⟨fun e2 he2 => ?_, fun j1 j2 c1 c2 e1 e2 h1 h2 hne hc1 hc2 k hp1 hp2 => ?_, fun e2 he2 k hk6 => ?_, fun k hk' => ?_, fun k hk' e2 he2 d hd hp => ?_⟩
 · obtain ⟨j, hj⟩ := List.mem_iff_getElem?.1 he2
   rcases hold j e2 hj with ⟨rfl, rfl⟩ | ⟨hne, hj⟩
   · exact hat
   · have hm2 := List.mem_of_getElem? hj
     refine (h.at_ e2 hm2).keep (hk _ (Kb (h.at_ e2 hm2).blk) (fun hp => (h.at_ e2 hm2).nbNot (h.at_ e hm) hp rfl)) (fun d k hd hp => hk k ((h.at_ e2 hm2).lt hp).2 (h.apart j i d c e2 e hj hi (.inl hne) hd hc3 k hp)) (fun k hk6 => hf k (h.rd e2 hm2 k hk6))
 · rcases hold j1 e1 h1 with ⟨rfl, rfl⟩ | ⟨n1, g1⟩
   · rcases hold j2 e2 h2 with ⟨rfl, rfl⟩ | ⟨n2, g2⟩
     · have hcd : c1 ≠ c2 := hne.elim (fun e => absurd rfl e) id
       rcases hnew c1 k hc1 hp1 with q1 | ⟨q1, q1'⟩
       · rcases hnew c2 k hc2 hp2 with q2 | ⟨q2, q2'⟩
         · exact h.apart _ _ c1 c2 e e hi hi (.inr hcd) hc1 hc2 k q1 q2
         · have := ((h.at_ e hm).lt q1).2; omega
       · rcases hnew c2 k hc2 hp2 with q2 | ⟨q2, q2'⟩
         · have := ((h.at_ e hm).lt q2).2; omega
         · omega
     · rcases hnew c1 k hc1 hp1 with q1 | ⟨q1, q1'⟩
       · exact h.apart _ _ c1 c2 e e2 hi g2 (.inl (fun e => n2 e.symm)) hc1 hc2 k q1 hp2
       · have := ((h.at_ e2 (List.mem_of_getElem? g2)).lt hp2).2; omega
   · rcases hold j2 e2 h2 with ⟨rfl, rfl⟩ | ⟨n2, g2⟩
     · rcases hnew c2 k hc2 hp2 with q2 | ⟨q2, q2'⟩
       · exact h.apart _ _ c1 c2 e1 e g1 hi (.inl n1) hc1 hc2 k hp1 q2
       · have := ((h.at_ e1 (List.mem_of_getElem? g1)).lt hp1).2; omega
     · exact h.apart _ _ c1 c2 e1 e2 g1 g2 hne hc1 hc2 k hp1 hp2
 · obtain ⟨j, hj⟩ := List.mem_iff_getElem?.1 he2
   rcases hold j e2 hj with ⟨rfl, rfl⟩ | ⟨hne, hj⟩
   · exact h.rd e hm k (h6 ▸ hk6)
   · exact h.rd e2 (List.mem_of_getElem? hj) k hk6
 · obtain ⟨cs, t, fr, h1, h2⟩ := h.fx k hk'
   exact ⟨cs, t, fr, (hf k hk').trans h1, h2⟩
 · obtain ⟨j, hj⟩ := List.mem_iff_getElem?.1 he2
   rcases hold j e2 hj with ⟨rfl, rfl⟩ | ⟨hne, hj⟩
   · rcases hnew d k hd hp with q1 | ⟨_, q1⟩
     · exact h.off k hk' e hm d hd q1
     · obtain ⟨cs, t, fr, h1, _⟩ := h.fx k hk'
       have := Kb h1; omega
   · exact h.off k hk' e2 (List.mem_of_getElem? hj) d hd hp
theorem BxAt.turn {q : Bx} (h : BxAt w B0 q) (hB : B0 <= w.heap.size) {v : Value} {a' : Ad} {x' : Nd} (ht : Turned v w q.a q.x w' a' x') : BxAt w' B0 ⟨q.g, a', x'⟩ /\ ∀ k, Foot ⟨q.g, a', x'⟩ k -> Foot q k \/ w.heap.size <= k := by
 have hft : ∀ k, Foot ⟨q.g, a', x'⟩ k -> Foot q k \/ w.heap.size <= k := fun k hk => by
  rcases hk with hk | hk
  · exact .inl (.inl hk)
  · exact (ht.own k hk).imp .inr id
 refine ⟨⟨⟨v, ht.node⟩, ?_, ?_, fun k hk => ?_⟩, hft⟩
 · show w'.heap[q.g]? = some (.cells #[.pointer (some ⟨a'.b, 0, none⟩)] _ _)
   rw [ht.b, Kn ht.chg _ h.free (Kb h.box)]; exact h.box
 · intro ho
   rcases ht.own _ ho with e | e
   · exact h.free e
   · have := Kb h.box; simp only at e; omega
 · rcases hft k hk with e | e
   · exact h.low k e
   · omega
theorem Ens.turnP (h : Ens w B0 F l) (hB : B0 <= w.heap.size) {i : Nat} {e : En} (hi : l[i]? = some e) {v : Value} {a' : Ad} {x' : Nd} (ht : Turned v w e.p.a e.p.x w' a' x') : Ens w' B0 F (l.set i { e with p := ⟨e.p.g, a', x'⟩ }) := by
 have hm := List.mem_of_getElem? hi; have he := h.at_ e hm; obtain ⟨h1, h2⟩ := he.p.turn hB ht; have hk : ∀ k, k < w.heap.size -> ¬ Pc e 0 k -> w'.heap[k]? = w.heap[k]? := fun k hlt hp => Kn ht.chg k (fun ho => hp (.inr ho)) hlt
 refine h.turn (c := 0) hi (by omega) hk ⟨(hk _ (Kb he.blk) (fun hp => he.nbNot he hp rfl)).trans he.blk, he.low, h1, he.q.keep (fun k hq => hk k (he.q.lt hq) (fun hp => h.apart i i 0 1 e e hi hi (.inr (by omega)) (by omega) (by omega) k hp hq)), he.r.keep (fun k hr => ?_)⟩ (fun d k hd hd0 hp => ?_) h2 rfl
 · rcases hr with hr | hr
   · exact hk k (he.r.foot_lt hr).2 (fun hp => h.apart i i 0 2 e e hi hi (.inr (by omega)) (by omega) (by omega) k hp hr)
   · have hF := h.rd e hm k hr
     obtain ⟨cs, t, fr, h1, _⟩ := h.fx k hF; exact hk k (Kb h1) (h.off k hF e hm 0 (by omega))
 · rcases d with _ | _ | d
   · exact absurd rfl hd0
   · exact hp
   · exact hp
theorem Ens.turnQ (h : Ens w B0 F l) (hB : B0 <= w.heap.size) {i : Nat} {e : En} (hi : l[i]? = some e) {v : Value} {a' : Ad} {x' : Nd} (ht : Turned v w e.q.a e.q.x w' a' x') : Ens w' B0 F (l.set i { e with q := ⟨e.q.g, a', x'⟩ }) := by
 have hm := List.mem_of_getElem? hi; have he := h.at_ e hm; obtain ⟨h1, h2⟩ := he.q.turn hB ht; have hk : ∀ k, k < w.heap.size -> ¬ Pc e 1 k -> w'.heap[k]? = w.heap[k]? := fun k hlt hp => Kn ht.chg k (fun ho => hp (.inr ho)) hlt
 refine h.turn (c := 1) hi (by omega) hk ⟨(hk _ (Kb he.blk) (fun hp => he.nbNot he hp rfl)).trans he.blk, he.low, he.p.keep (fun k hq => hk k (he.p.lt hq) (fun hp => h.apart i i 0 1 e e hi hi (.inr (by omega)) (by omega) (by omega) k hq hp)), h1, he.r.keep (fun k hr => ?_)⟩ (fun d k hd hd0 hp => ?_) h2 rfl
 · rcases hr with hr | hr
   · exact hk k (he.r.foot_lt hr).2 (fun hp => h.apart i i 1 2 e e hi hi (.inr (by omega)) (by omega) (by omega) k hp hr)
   · have hF := h.rd e hm k hr
     obtain ⟨cs, t, fr, h1, _⟩ := h.fx k hF; exact hk k (Kb h1) (h.off k hF e hm 1 (by omega))
 · rcases d with _ | _ | d
   · exact hp
   · exact absurd rfl hd0
   · exact hp
theorem Ens.turnR (h : Ens w B0 F l) {i : Nat} {e : En} (hi : l[i]? = some e) {f' : Nat -> Value} {x' : Nd} (hr : RfAt w' B0 e.b f' x') (hc : Chg (fun k _ => RFoot e.b e.f k) w w') (hown : ∀ k, RFoot e.b f' k -> RFoot e.b e.f k \/ w.heap.size <= k) (h6 : f' 6 = e.f 6) : Ens w' B0 F (l.set i { e with f := f', r := x' }) := by
 have hm := List.mem_of_getElem? hi; have he := h.at_ e hm; have hk : ∀ k, k < w.heap.size -> ¬ Pc e 2 k -> w'.heap[k]? = w.heap[k]? := fun k hlt hp => Kn hc k (fun ho => hp ho) hlt
 refine h.turn (c := 2) hi (by omega) hk ⟨(hk _ (Kb he.blk) (fun hp => he.nbNot he hp rfl)).trans he.blk, he.low, he.p.keep (fun k hq => hk k (he.p.lt hq) (fun hp => h.apart i i 0 2 e e hi hi (.inr (by omega)) (by omega) (by omega) k hq hp)),
  he.q.keep (fun k hq => hk k (he.q.lt hq) (fun hp => h.apart i i 1 2 e e hi hi (.inr (by omega)) (by omega) (by omega) k hq hp)), hr⟩ (fun d k hd hd0 hp => ?_) hown h6
 rcases d with _ | _ | d
 · exact hp
 · exact hp
 · exact absurd (show d + 2 = 2 by omega) hd0
end
theorem rfind_any {B b : Nat} {w : World} {f : Nat -> Value} {x : Nd} (h : RfAt w B b f x) (ho : Rise (Zf x.others)) (hl : x.others.length <= 1000) (n : Int) :
  Calls Tryz.prog 106 #[.pointer (some ⟨b, 0, none⟩), .int .i64 n] w fun e w' => e = .returned (.tuple #[.int .i64 (posM n x.others : Nat), .bool (thereM n x.others)]) /\ ∃ k, w' = w.drewN k := by
 obtain ⟨a, c, e13⟩ := Kg h.oth; have hrow := h.oth; rw [e13] at hrow; obtain ⟨ln, hln⟩ : ∃ ln, x.others.length = ln := ⟨_, rfl⟩; have c13 : w.cell? ⟨b, 13, none⟩ = some (.slice a ln c) := by rw [<- hln, <- e13]; exact h.blk.cell (by omega)
 rw [hln] at hrow hl; have HROW := Hd hrow; have HLN := Hd hln; have HO := Hd ho; clear h hrow hln ho e13; go_enter Tryz.func106, Tryz.ntmps106; go_wp2_with fail
 go_loopw [6] (fun s6 wr => ∃ i : Nat, i <= ln /\ s6 = .int .i64 (i : Nat) /\ (∀ (j : Nat) m, j < i -> x.others[j]? = some m -> m.k.id < n) /\ wr = w) (fun s6 _ => 2000 - (intOf s6).toNat)
 case atStart => exact ⟨0, Nat.zero_le _, rfl, fun j m hj => absurd hj (Nat.not_lt_zero _), rfl⟩
 case round =>
  obtain ⟨i, hi, rfl, hlo, hw⟩ := hrel; subst hw; have HLO := Hd hlo; clear hlo; by_cases hil : i < ln
  · obtain ⟨m, hm⟩ : ∃ m, x.others[i]? = some m := ⟨_, List.getElem?_eq_getElem (by have := HLN.out; omega)⟩
    obtain ⟨g, rfl, hg, m0, _⟩ := mr_at HROW.out hm; have HM := Hd hm; clear hm; by_cases hge : n <= m.k.id
    · have hp : posM n x.others = i := posM_eq (by have := HLN.out; omega) HLO.out (fun a ha => by rw [HM.out] at ha; cases ha; exact hge)
      have ht := thereM_at HO.out (n := n) (a := m) (by rw [hp]; exact HM.out)
      have HP := Hd hp; have HT := Hd ht; clear hp ht; go_wp2_with fail
      go_quiet (fail); go_wp2; go_ret2
      exact ⟨by rw [HP.out, HT.out]; rfl, _, rfl⟩
    · go_wp2
      go_roundw
      case rel =>
       refine ⟨i + 1, by omega, by go_num, ?_, trivial⟩
       intro j m' hj hm'; rcases Nat.lt_succ_iff_lt_or_eq.1 hj with hj | rfl
       · exact HLO.out j m' hj hm'
       · rw [HM.out] at hm'; cases hm'; omega
      case measure => simp [intOf]; omega
  · have hie : i = ln := by omega
    have hp : posM n x.others = ln := posM_eq (by have := HLN.out; omega) (fun j m hj hm => HLO.out j m (by omega) hm) (fun a ha => by rw [List.getElem?_eq_none (by have := HLN.out; omega)] at ha; cases ha)
    have ht := thereM_end HO.out (n := n) (by rw [hp]; exact HLN.out.symm)
    have HP := Hd hp; have HT := Hd ht; clear hp ht hie; go_wp2; go_ret2
    exact ⟨by rw [HP.out, HT.out]; rfl, 0, rfl⟩
theorem rgreater_any (p q : K) (w : World) :
  Calls Tryz.prog 107 #[.agg #[.int .i64 p.id, .int .i64 p.inc, .int .i64 p.st], .agg #[.int .i64 q.id, .int .i64 q.inc, .int .i64 q.st]] w fun e w' => e = .returned (.bool (lessK q p)) /\ Below w.heap.size w w' := by
 have hb : ∀ o o', Below w.heap.size w ((w.alloc o).alloc o') := fun o o' => ((Below.refl _ _).alloc (Nat.le_refl _) _).alloc (by simp) _
 have HB := Hd hb; clear hb; unfold lessK; by_cases h1 : q.inc < p.inc
 · have hd : decide (q.inc < p.inc \/ q.inc = p.inc /\ q.st < p.st) = true := decide_eq_true (.inl h1)
   rw [hd]; clear hd; go_enter Tryz.func107, Tryz.ntmps107; go_wp2; go_ret
   exact ⟨rfl, HB.out _ _⟩
 · by_cases h2 : p.inc = q.inc
   · have h2b : (p.inc == q.inc) = true := by simpa using h2
     by_cases h3 : q.st < p.st
     · have hd : decide (q.inc < p.inc \/ q.inc = p.inc /\ q.st < p.st) = true := decide_eq_true (.inr ⟨h2.symm, h3⟩)
       rw [hd]; clear hd h2; go_enter Tryz.func107, Tryz.ntmps107; go_wp2; go_ret
       exact ⟨rfl, HB.out _ _⟩
     · have hd : decide (q.inc < p.inc \/ q.inc = p.inc /\ q.st < p.st) = false := decide_eq_false (by omega)
       rw [hd]; clear hd h2; go_enter Tryz.func107, Tryz.ntmps107; go_wp2; go_ret
       exact ⟨rfl, HB.out _ _⟩
   · have h2b : (p.inc == q.inc) = false := by simpa using h2
     have hd : decide (q.inc < p.inc \/ q.inc = p.inc /\ q.st < p.st) = false := decide_eq_false (by omega)
     rw [hd]; clear hd h2; go_enter Tryz.func107, Tryz.ntmps107; go_wp2; go_ret
     exact ⟨rfl, HB.out _ _⟩
theorem rnext_any {Bo B b : Nat} {w : World} {f : Nat -> Value} {x : Nd} {ps : List Pk} (h : RfAt w B b f x) (ho : OutR w Bo (f 24) ps) (hs : 0 <= x.seq /\ x.seq <= 100000000000) :
  Calls Tryz.prog 60 #[.pointer (some ⟨b, 0, none⟩)] w fun e w' => e = .returned (.int .i64 (x.seq + 1)) /\ ∃ f', RSt Bo B b w f w' f' x.next ps := by
 have c9 : w.cell? ⟨b, 9, none⟩ = some (.int .i64 x.seq) := by rw [<- h.n9]; exact h.blk.cell (by omega)
 have f9 := h.blk.free 9; have ws : IntKind.i64.wrap (x.seq + 1) = x.seq + 1 := IntWalk.i64_in _ (by omega)
 have HR := Hd ((RSt.refl h ho).cell (h.setSeq (x.seq + 1)) (by omega) (fun k hk => by simp [Value.ownBlock] at hk))
 clear h ho; go_enter Tryz.func60, Tryz.ntmps60; go_wp2; go_ret
 exact ⟨rfl, _, HR.out⟩
theorem info_upd : (Tryz.prog.info? 166).map (fun i => (i.zero, i.size, i.bytes)) = some (some (.agg #[.int .i64 0, .int .i64 0, .int .i64 0, .int .i64 0]), 4, 32) := by kernel_rfl
theorem rkeys_snoc (l : List K) (k : K) : Kd (l ++ [k]) = Kd l ++ [.int .i64 k.id, .int .i64 k.inc, .int .i64 k.st] := by simp [Kd]
theorem uCells_snoc (l : List Upd) (u : Upd) : Kz (l ++ [u]) = Kz l ++ [.int .i64 u.k.id, .int .i64 u.k.inc, .int .i64 u.k.st, .int .i64 u.sent] := by simp [Kz]
theorem filter_snoc {α : Type} (p : α -> Bool) (l : List α) {i : Nat} {a : α} (h : l[i]? = some a) : (l.take (i + 1)).filter p = (l.take i).filter p ++ if p a then [a] else [] := by
 rw [List.take_add_one, h, List.filter_append]
 congr 1
 simp only [Option.toList_some, List.filter_cons, List.filter_nil]
section
variable {Bo B b : Nat} {w w1 w2 : World} {f f1 : Nat -> Value} {x x1 : Nd} {ps : List Pk}
theorem OutR.other {v u : Value} {g n s t : Nat} {xs : List Value} (h : OutR w Bo v ps) (hto : AppTo w w2 u g) (hu : w.ownsRow B t s u n xs) (ht : t ≠ 60) : OutR w2 Bo v ps :=
 hto.other h (own_ne hu h ht)
structure RSq (B b : Nat) (w : World) (f : Nat -> Value) (w' : World) (f' : Nat -> Value) (x' : Nd) : Prop where
 at_ : RfAt w' B b f' x'
 chg : Chg (fun k _ => RWr b f k) w w'
 own : ∀ k, RFoot b f' k -> RFoot b f k \/ w.heap.size <= k
 ownW : ∀ k, RWr b f' k -> RWr b f k \/ w.heap.size <= k
 six : f' 6 = f 6
 e24 : f' 24 = f 24
theorem RSq.out (h : RSq B b w f w1 f1 x1) (h0 : RfAt w B b f x) (ho : OutR w Bo (f 24) ps) : RSt Bo B b w f w1 f1 x1 ps := by
 refine ⟨h.at_, ?_, h.chg.mono (fun _ _ _ => .inl), h.own, h.ownW, h.six⟩
 rw [h.e24]; refine Jf ho h.chg (fun k o hk hs cs fr e => ?_)
 obtain ⟨cs', t', h1, h2⟩ := h0.foot_type hs.foot; rw [hk, e] at h1; simp only [Option.some.injEq, Obj.cells.injEq] at h1; rw [<- h1.2.1] at h2; exact absurd h2 (by decide)
theorem RSq.refl (h : RfAt w B b f x) : RSq B b w f w f x := ⟨h, Chg.refl _ _, fun _ => .inl, fun _ => .inl, rfl, rfl⟩
theorem RSq.trans {f2 : Nat -> Value} {x2 : Nd} (h : RSq B b w f w1 f1 x1) (k : RSq B b w1 f1 w2 f2 x2) : RSq B b w f w2 f2 x2 :=
 ⟨k.at_, ⟨k.chg.os.trans h.chg.os, k.chg.tape.trans h.chg.tape, k.chg.output.trans h.chg.output, Nat.le_trans h.chg.size k.chg.size, fun i o ho hs => k.chg.kept i o (h.chg.kept i o ho hs) (fun hk => (h.ownW i hk).elim hs (fun hl => absurd (Kb ho) (by omega)))⟩,
  fun j hj => (k.own j hj).elim (h.own j) (fun hl => .inr (Nat.le_trans h.chg.size hl)), fun j hj => (k.ownW j hj).elim (h.ownW j) (fun hl => .inr (Nat.le_trans h.chg.size hl)), k.six.trans h.six, k.e24.trans h.e24⟩
theorem RSq.below (h : RSq B b w f w1 f1 x1) (hb : Below w1.heap.size w1 w2) : RSq B b w f w2 f1 x1 :=
 ⟨h.at_.below hb, h.chg.trans ⟨hb.os, hb.tape, hb.output, hb.size, fun k _ hk _ => (hb.block k (Kb hk)).trans hk⟩, h.own, h.ownW, h.six, h.e24⟩
theorem upd_foot {i k : Nat} {v : Value} (h : RFoot b (upd f1 i v) k) : RFoot b f1 k \/ v.ownBlock = some k := by
 unfold RFoot at *; rcases h with h | h | h | h | h | h
 · exact .inl (.inl h)
 all_goals
  unfold upd at h
  split at h
  · exact .inr h
  · simp [h]
theorem upd_wr {i k : Nat} {v : Value} (h : RWr b (upd f1 i v) k) : RWr b f1 k \/ v.ownBlock = some k := by
 unfold RWr at *; rcases h with h | h | h | h
 · exact .inl (.inl h)
 all_goals
  unfold upd at h
  split at h
  · exact .inr h
  · simp [h]
theorem RSq.cell {i : Nat} {v : Value} {x2 : Nd} (h : RSq B b w f w1 f1 x1) (hn : RfAt (w1.setCell ⟨b, i, none⟩ v) B b (upd f1 i v) x2) (hi : i ≠ 6 /\ i ≠ 24) (hv : ∀ k, v.ownBlock = some k -> w.heap.size <= k) : RSq B b w f (w1.setCell ⟨b, i, none⟩ v) (upd f1 i v) x2 :=
 ⟨hn, h.chg.setCell _ (fun _ _ => .inl rfl), fun k hk => (upd_foot hk).elim (h.own k) (fun e => .inr (hv k e)), fun k hk => (upd_wr hk).elim (h.ownW k) (fun e => .inr (hv k e)), (Kh _ _ _ (fun e => hi.1 e.symm)).trans h.six, (Kh _ _ _ (fun e => hi.2 e.symm)).trans h.e24⟩
theorem RSq.appEvents (h : RSq B b w f w1 f1 x1) {g n c : Nat} {l : List K} (hto : AppTo w1 w2 (f1 22) g) (hv : w2.ownsRow B 58 3 (.slice (some ⟨g, 0, none⟩) n c) l.length (Kd l)) :
  w2.cell? ⟨b, 22, none⟩ = some (f1 22) /\ w2.frozen? ⟨b, 22, none⟩ = false /\ RSq B b w f (w2.setCell ⟨b, 22, none⟩ (.slice (some ⟨g, 0, none⟩) n c)) (upd f1 22 (.slice (some ⟨g, 0, none⟩) n c)) { x1 with events := l } := by
 obtain ⟨e1, e2, e3⟩ := h.at_.appEvents hto hv
 have hv' : ∀ k, (Value.slice (some ⟨g, 0, none⟩) n c).ownBlock = some k -> (f1 22).ownBlock = some k \/ w.heap.size <= k := fun k hk => by
  simp only [Value.ownBlock, Option.some.injEq] at hk; subst hk; rcases hto with ⟨e, _⟩ | ⟨e, _⟩
  · exact .inl e
  · have := h.chg.size; exact .inr (by omega)
 refine ⟨e1, e2, e3, ?_, fun k hk => ?_, fun k hk => ?_, (Kh _ _ _ (by omega)).trans h.six, (Kh _ _ _ (by omega)).trans h.e24⟩
 · have hc : Chg (fun k _ => RWr b f k \/ w.heap.size <= k) w w2 :=
    (h.chg.mono (fun _ _ _ h => .inl h)).grown hto.grown (fun k o e _ => h.ownW k (.inr (.inr (.inr e))))
   exact (hc.setCell _ (fun _ _ => .inl (.inl rfl))).mono (fun k o hk h => by
    rcases h with h | h
    · exact h
    · omega)
 · rcases upd_foot hk with h1 | h1
   · exact h.own k h1
   · exact (hv' k h1).elim (fun e => h.own k (.inr (.inr (.inr (.inr (.inr e)))))) .inr
 · rcases upd_wr hk with h1 | h1
   · exact h.ownW k h1
   · exact (hv' k h1).elim (fun e => h.ownW k (.inr (.inr (.inr e)))) .inr
end
theorem rchanged_q {B b : Nat} {w : World} {f : Nat -> Value} {x : Nd} (h : RfAt w B b f x) (hq : x.queue.length <= 8) (he : x.events.length <= 8) (hlo : 0 <= x.lost /\ x.lost <= 100000000000) (k : K) :
  Calls Tryz.prog 65 #[.pointer (some ⟨b, 0, none⟩), .agg #[.int .i64 k.id, .int .i64 k.inc, .int .i64 k.st]] w fun e w' => e = .returned (.tuple #[]) /\ ∃ f', RSq B b w f w' f' (x.changed k) := by
 obtain ⟨kid, kinc, kst⟩ := k; simp only; obtain ⟨w1, hw1⟩ : ∃ w1, w.alloc (.cells #[.int .i64 kid, .int .i64 kinc, .int .i64 kst] 58) = w1 := ⟨_, rfl⟩; have hb1 : Below w.heap.size w w1 := by rw [<- hw1]; exact (Below.refl _ _).alloc (Nat.le_refl _) _
 have hx1 : w1.heap[w.heap.size]? = some (.cells #[.int .i64 kid, .int .i64 kinc, .int .i64 kst] 58 (0, 0)) := by rw [<- hw1]; exact Kc w _
 have hsz1 : w1.heap.size = w.heap.size + 1 := by rw [<- hw1]; simp
 have hBs : B <= w.heap.size := by have := h.lo; have := h.blk.lt; omega
 have hS1 := (RSq.refl h).below hb1; have hbl : b < w.heap.size := h.blk.lt; obtain ⟨ea, ec, e22⟩ := Kg h.evs; obtain ⟨en, hen⟩ : ∃ en, x.events.length = en := ⟨_, rfl⟩; have c22 : w1.cell? ⟨b, 22, none⟩ = some (.slice ea en ec) := by rw [<- hen, <- e22]; exact hS1.at_.blk.cell (by omega)
 have c23 : w1.cell? ⟨b, 23, none⟩ = some (.int .i64 x.lost) := by rw [<- h.n23]; exact hS1.at_.blk.cell (by omega)
 have f23 := hS1.at_.blk.free 23; have ca : ∀ o, (w1.alloc o).cell? ⟨b, 22, none⟩ = some (.slice ea en ec) := fun o => by rw [World.cell?_alloc_lt _ _ _ (World.block_lt_of_cell? _ _ c22)]; exact c22
 have d0 := Ka hx1 0; have d1 := Ka hx1 1; have d2 := Ka hx1 2; simp only [List.getElem?_toArray, List.getElem?_cons_succ, List.getElem?_cons_zero] at d0 d1 d2; have wl : IntKind.i64.wrap (x.lost + 1) = x.lost + 1 := IntWalk.i64_in _ (by omega)
 have hevs := hS1.at_.evs; have hevl : ∀ k, (Value.slice ea en ec).ownBlock = some k -> k < w.heap.size := fun k hk => (h.evs.lt k (by rw [e22, hen]; exact hk)).2
 have HEVL := Hd hevl; rw [e22, hen] at hevs; have HS1 := Hd hS1; have HSZ1 := Hd hsz1; have HX1 := Hd hx1; have HEV := Hd hevs; have HEN := Hd hen; have E22 := Hd e22; have HQ := Hd hq; have HW1 := Hd hw1; rw [hen] at he; clear h hw1 hb1 hx1 hS1 hevs hevl hen e22 hq hsz1; go_enter Tryz.func65, Tryz.ntmps65; go_upto_region 1 with (fail); rw [HW1.out]; go_upto_if 12 with (fail); go_cut [4] (fun s4 wx => ∃ f1, RSq B b w f wx f1 { x with events := if full x.events then x.events else x.events ++ [⟨kid, kinc, kst⟩], lost := if full x.events then x.lost + 1 else x.lost } /\ wx.heap[w.heap.size]? = some (.cells #[.int .i64 kid, .int .i64 kinc, .int .i64 kst] 58 (0, 0)))
 case first =>
  by_cases h8 : en = 8
  · have hf : full x.events = true := by simp [full, HEN.out, h8]
    have HF := Hd hf; have HR := Hd (HS1.out.cell (HS1.out.at_.setLost (x.lost + 1)) (by omega) (fun k hk => by simp [Value.ownBlock] at hk))
    have hx2 : (w1.setCell ⟨b, 23, none⟩ (.int .i64 (x.lost + 1))).heap[w.heap.size]? = _ := (Kj _ _ _ _ _ (by omega)).trans HX1.out
    have HX2 := Hd hx2; clear hx2 hf; subst h8; go_wp2; go_meet
    case rel =>
     rw [HF.out]; simp only [if_true]; exact ⟨_, HR.out, HX2.out⟩
  · have hf : full x.events = false := by simp [full, HEN.out]; omega
    have HF := Hd hf; have h8b : ((en : Int) == 8) = false := by simp; omega
    obtain ⟨i0, hi, hz0, hz1, hz2⟩ := info_parts info_rkey; have hrw := (HEV.out.alloc (.cells #[.int .i64 kid, .int .i64 kinc, .int .i64 kst] 58)).drew; have hnew := Kt w1 [.int .i64 kid, .int .i64 kinc, .int .i64 kst] 58 (n := w1.heap.size) rfl; have HRW := Hd hrw; have HNEW : Hid (∀ j u, [Value.int .i64 kid, .int .i64 kinc, .int .i64 kst][j]? = some u -> (w1.alloc (.cells #[.int .i64 kid, .int .i64 kinc, .int .i64 kst] 58)).drew.cell? ((⟨w1.heap.size, 0, none⟩ : Addr).add j) = some u) := hnew; have HB2 := Hd (HS1.out.below (((Below.refl _ w1).alloc (Nat.le_refl _) (.cells #[.int .i64 kid, .int .i64 kinc, .int .i64 kst] 58)).drew)); have hx2 : (w1.alloc (.cells #[.int .i64 kid, .int .i64 kinc, .int .i64 kst] 58)).drew.heap[w.heap.size]? = _ := Kp _ HX1.out; have HX2 := Hd hx2; have k3 : en + 1 <= maxLen := by unfold maxLen; omega
    have K3 := Hd k3; clear hrw hnew hx2 hf h8 k3; go_wp2_with fail
    go_region_law (refine Ji rfl _ _ _ rfl B 58 i0 _ 3 24 Tryz.underlying31 hi hz0 hz1 hz2 rfl (by decide) (.slice ea en ec) en _ rfl HRW.out ⟨w1.heap.size, 0, none⟩ 1 1 _ rfl rfl HNEW.out (by simp [Value.oneCell']) (by omega) K3.out (by omega) (by have := HSZ1.out; simp; omega) ?_; intro g gc w4 hl4 hto4; obtain ⟨ct, ft, hS4⟩ := HB2.out.appEvents (l := x.events ++ [⟨kid, kinc, kst⟩]) (by rw [E22.out, HEN.out]; exact hto4) (by rw [rkeys_snoc, List.length_append, HEN.out]; exact hl4); have HS4 := Hd hS4; have hx4 := (hto4.block (Kb HX2.out) (fun e => by have := HEVL.out _ e; omega)).trans HX2.out; have HX4 := Hd hx4; rw [E22.out, HEN.out] at ct; clear hS4 hx4)
    all_goals
     go_wp2; go_meet
     case rel =>
      rw [HF.out]; simp only [Bool.false_eq_true, if_false]; exact ⟨_, HS4.out, (Kj _ _ _ _ _ (by omega)).trans HX4.out⟩
 case rest =>
  obtain ⟨f1, hS2, hx2⟩ := hcut; obtain ⟨qa, qc, e19⟩ := Kg hS2.at_.que; simp only at e19; obtain ⟨qn, hqn⟩ : ∃ qn, x.queue.length = qn := ⟨_, rfl⟩; have c19 : wc.cell? ⟨b, 19, none⟩ = some (.slice qa qn qc) := by rw [<- hqn, <- e19]; exact hS2.at_.blk.cell (by omega)
  have hque : wc.ownsRow B 166 4 (.slice qa qn qc) qn (Kz x.queue) := by have := hS2.at_.que; rw [e19] at this; rw [<- hqn]; exact this
  have d0 := Ka hx2 0; have d1 := Ka hx2 1; have d2 := Ka hx2 2; simp only [List.getElem?_toArray, List.getElem?_cons_succ, List.getElem?_cons_zero] at d0 d1 d2; have hq8 : qn <= 8 := by rw [<- hqn]; exact HQ.out
  have hszc : w.heap.size <= wc.heap.size := hS2.chg.size; have hlx := Kb hx2; have hbc := hS2.at_.blk.lt; have HQUE := Hd hque; have HS2 := Hd hS2; have HQN := Hd hqn; obtain ⟨i0, hi, hz0, hz1, hz2⟩ := info_parts info_upd; clear hS2 hx2 hque hqn e19 HS1 HX1 HEV HEVL HEN E22 HQ c22 c23 f23 wl ca; go_wp2_with fail
  go_loopw [5, 6] (fun s5 s6 wr => ∃ (i : Nat) (q : List Upd), i <= qn /\ s6 = .int .i64 (i : Nat) /\ q = (x.queue.take i).filter (fun u => u.k.id != kid) /\ wr.ownsRow wc.heap.size 166 4 s5 q.length (Kz q) /\ Below wc.heap.size wc wr) (fun _ s6 _ => 20 - (intOf s6).toNat)
  case atStart => exact ⟨0, [], Nat.zero_le _, rfl, rfl, World.ownsRow_nil _ _ _ _, Below.refl _ _⟩
  case round =>
   obtain ⟨i, q, hiq, rfl, hqe, hrow, hb⟩ := hrel; obtain ⟨ra, rc, rfl⟩ := Kg hrow; obtain ⟨m, hm⟩ : ∃ m, q.length = m := ⟨_, rfl⟩; rw [hm] at hrow ⊢; have hmi : m <= i := by rw [<- hm, hqe]; exact Nat.le_trans (List.length_filter_le _ _) (by rw [List.length_take]; omega)
   have HQE := Hd hqe; have HROW := Hd hrow; have HB := Hd hb; have HM := Hd hm; have hsz := hb.size; have c19r := (hb.cell (p := ⟨b, 19, none⟩) hbc).trans c19; have e0 := (hb.cell (p := ⟨w.heap.size, 0, none⟩) hlx).trans d0; have e1 := (hb.cell (p := ⟨w.heap.size, 1, none⟩) hlx).trans d1; have e2 := (hb.cell (p := ⟨w.heap.size, 2, none⟩) hlx).trans d2; clear hqe hrow hb hm; by_cases hil : i < qn
   · obtain ⟨u, hu⟩ : ∃ u, x.queue[i]? = some u := ⟨_, List.getElem?_eq_getElem (by have := HQN.out; omega)⟩
     obtain ⟨g, rfl, hg, u0, u1, u2, u3⟩ := u_at (Ks HQUE.out HB.out) hu; have HU := Hd hu
     have hne : ∀ (c : Bool), (u.k.id != kid) = c -> (x.queue.take (i + 1)).filter (fun u => u.k.id != kid) = q ++ if c then [u] else [] := fun c hc => by
      rw [filter_snoc _ _ HU.out, <- HQE.out, hc]
     have HNE := Hd hne; clear hu hne; cases hd : (u.k.id != kid) with
     | false =>
      go_wp2_with fail
      go_quiet (fail); go_wp2; go_roundw
      case rel => exact ⟨i + 1, q, by omega, by go_num, by rw [HNE.out _ hd]; simp, by rw [HM.out]; exact Je HROW.out (fun _ _ => rfl), ⟨HB.out.os, HB.out.tape, HB.out.output, HB.out.size, HB.out.block⟩⟩
      case measure => simp [intOf]; omega
     | true =>
      have hrw : ∀ n, ((wr.alloc (.cells #[.int .i64 u.k.id, .int .i64 u.k.inc, .int .i64 u.k.st, .int .i64 u.sent] 166)).drewN n).ownsRow wc.heap.size 166 4 (.slice ra m rc) m (Kz q) := fun n => Je (HROW.out.alloc _) (fun _ _ => rfl)
      have hnew : ∀ n, ∀ j v, [Value.int .i64 u.k.id, .int .i64 u.k.inc, .int .i64 u.k.st, .int .i64 u.sent][j]? = some v -> ((wr.alloc (.cells #[.int .i64 u.k.id, .int .i64 u.k.inc, .int .i64 u.k.st, .int .i64 u.sent] 166)).drewN n).cell? ((⟨wr.heap.size, 0, none⟩ : Addr).add j) = some v := fun n => Kt wr [.int .i64 u.k.id, .int .i64 u.k.inc, .int .i64 u.k.st, .int .i64 u.sent] 166 (n := wr.heap.size) rfl
      have HRW := Hd hrw; have HNEW := Hd hnew; have k3 : m + 1 <= maxLen := by unfold maxLen; omega
      have K3 := Hd k3; clear hrw hnew k3; go_wp2_with fail
      go_quiet (fail); go_wp2_with (at_builtin; refine wpList_append_own _ rfl _ _ 90 rfl wc.heap.size 166 i0 _ 4 32 Tryz.underlying90 hi hz0 hz1 hz2 rfl (by decide) (.slice ra m rc) m _ rfl (HRW.out _) ⟨wr.heap.size, 0, none⟩ 1 1 _ rfl rfl (HNEW.out _) (by simp [Value.oneCell']) K3.out (by omega) (by simp; omega) ?_)
      intro v' w1 hown1 hgrow1 _; have hb1 : Below wc.heap.size wc w1 := Below.grown (w := (wr.alloc (.cells #[.int .i64 u.k.id, .int .i64 u.k.inc, .int .i64 u.k.st, .int .i64 u.sent] 166)).drewN nq) (Below.drewR (HB.out.alloc hsz _) nq) hgrow1 (by simp; omega) (fun j hj => (HROW.out.lt j hj).1)
      have HOWN := Hd hown1; have HB1 := Hd hb1; clear hown1 hgrow1 hb1; go_wp2; go_roundw
      case rel => exact ⟨i + 1, q ++ [u], by omega, by go_num, by rw [HNE.out _ hd]; rfl, by rw [uCells_snoc, List.length_append, HM.out]; exact HOWN.out, HB1.out⟩
      case measure => simp [intOf]; omega
   · have hie : i = qn := by omega
     have hqf : q = x.queue.filter (fun u => u.k.id != kid) := by
      rw [HQE.out, List.take_of_length_le (by have := HQN.out; omega)]
     have HQF := Hd hqf; have hrw : (wr.alloc (.cells #[.int .i64 kid, .int .i64 kinc, .int .i64 kst, .int .i64 0] 166)).ownsRow wc.heap.size 166 4 (.slice ra m rc) m (Kz q) := HROW.out.alloc _; have hnew := Kt wr [.int .i64 kid, .int .i64 kinc, .int .i64 kst, .int .i64 0] 166 (n := wr.heap.size) rfl; have HRW := Hd hrw; have HNEW := Hd hnew; have k3 : m + 1 <= maxLen := by unfold maxLen; omega
     have K3 := Hd k3; clear hqf hrw hnew k3 hie; go_wp2_with (at_builtin; refine wpList_append_own _ rfl _ _ 90 rfl wc.heap.size 166 i0 _ 4 32 Tryz.underlying90 hi hz0 hz1 hz2 rfl (by decide) (.slice ra m rc) m _ rfl HRW.out ⟨wr.heap.size, 0, none⟩ 1 1 _ rfl rfl HNEW.out (by simp [Value.oneCell']) K3.out (by omega) (by simp; omega) ?_)
     intro v' w1 hown1 hgrow1 _; have hb1 : Below wc.heap.size wc w1 := Below.grown (HB.out.alloc hsz _) hgrow1 (by simp; omega) (fun j hj => (HROW.out.lt j hj).1)
     have hS3 := HS2.out.below hb1; have f19 := hS3.at_.blk.free 19; have c19' := hS3.at_.blk.cell (i := 19) (by omega)
     obtain ⟨va, vc, rfl⟩ := Kg hown1; have hS4 := hS3.cell (x2 := _) (hS3.at_.setQueue (l := q ++ [⟨⟨kid, kinc, kst⟩, 0⟩]) (v := .slice va (m + 1) vc) (Jl (by rw [uCells_snoc, List.length_append, HM.out]; exact hown1) (by omega))) (by omega) (fun k hk => by have := (hown1.lt k hk).1; omega)
     have HS4 := Hd hS4; clear hown1 hgrow1 hb1 hS3 hS4; go_wp2; go_end0
     exact ⟨rfl, upd f1 19 (.slice va (m + 1) vc), by have := HS4.out; rw [HQF.out] at this; exact this⟩
theorem rchanged_any {Bo B b : Nat} {w : World} {f : Nat -> Value} {x : Nd} {ps : List Pk} (h : RfAt w B b f x) (ho : OutR w Bo (f 24) ps) (hq : x.queue.length <= 8) (he : x.events.length <= 8) (hlo : 0 <= x.lost /\ x.lost <= 100000000000) (k : K) :
  Calls Tryz.prog 65 #[.pointer (some ⟨b, 0, none⟩), .agg #[.int .i64 k.id, .int .i64 k.inc, .int .i64 k.st]] w fun e w' => e = .returned (.tuple #[]) /\ ∃ f', RSt Bo B b w f w' f' (x.changed k) ps :=
 (rchanged_q h hq he hlo k).mono (fun _ _ ⟨e, f', hf⟩ => ⟨e, f', hf.out h ho⟩)
theorem rown_any {Bo B b : Nat} {w : World} {f : Nat -> Value} {x : Nd} {ps : List Pk} (h : RfAt w B b f x) (hout : OutR w Bo (f 24) ps) (ho : Ok x) {C : Int} (hb : Bd C x) (hC : C <= 100000000000) (k : K) (hk : Jp k) :
  Calls Tryz.prog 105 #[.pointer (some ⟨b, 0, none⟩), .agg #[.int .i64 k.id, .int .i64 k.inc, .int .i64 k.st]] w fun e w' => e = .returned (.tuple #[]) /\ ∃ f', RSt Bo B b w f w' f' (x.refute k) ps := by
 have wl : IntKind.i64.wrap (k.inc + 1) = k.inc + 1 := IntWalk.i64_in _ (by have := hk.2.1; omega)
 obtain ⟨kid, kinc, kst⟩ := k; simp only at wl ⊢; obtain ⟨w1, hw1⟩ : ∃ w1, w.alloc (.cells #[.int .i64 kid, .int .i64 kinc, .int .i64 kst] 58) = w1 := ⟨_, rfl⟩; have hb1 : Below w.heap.size w w1 := by rw [<- hw1]; exact (Below.refl _ _).alloc (Nat.le_refl _) _
 have hx1 : w1.heap[w.heap.size]? = some (.cells #[.int .i64 kid, .int .i64 kinc, .int .i64 kst] 58 (0, 0)) := by rw [<- hw1]; exact Kc w _
 have d0 := Ka hx1 0; have d1 := Ka hx1 1; have d2 := Ka hx1 2; simp only [List.getElem?_toArray, List.getElem?_cons_succ, List.getElem?_cons_zero] at d0 d1 d2; have hS1 := (RSt.refl h hout).below hb1; have c10 : w1.cell? ⟨b, 10, none⟩ = some (.int .i64 x.self.id) := by rw [<- h.s10]; exact hS1.at_.blk.cell (by omega)
 have c11 : w1.cell? ⟨b, 11, none⟩ = some (.int .i64 x.self.inc) := by rw [<- h.s11]; exact hS1.at_.blk.cell (by omega)
 have c12 : w1.cell? ⟨b, 12, none⟩ = some (.int .i64 x.self.st) := by rw [<- h.s12]; exact hS1.at_.blk.cell (by omega)
 have f11 := hS1.at_.blk.free 11; have HS1 := Hd hS1; have HW1 := Hd hw1; clear h hout hw1 hb1 hx1 hS1; by_cases h9 : x.self.st = 4 \/ kst = 1 \/ kinc < x.self.inc \/ kinc = 1073741824
 · have e : x.refute ⟨kid, kinc, kst⟩ = x := by simp [Nd.refute, h9]
   rw [e]
   have h9' : ((x.self.st == 4) = true) \/ (((x.self.st == 4) = false) /\ ((kst == 1) = true)) \/ (((x.self.st == 4) = false) /\ ((kst == 1) = false) /\ decide (kinc < x.self.inc) = true) \/ (((x.self.st == 4) = false) /\ ((kst == 1) = false) /\ decide (kinc < x.self.inc) = false /\ ((kinc == 1073741824) = true)) := by
    rcases Int.decEq x.self.st 4 with h | h <;> rcases Int.decEq kst 1 with h' | h' <;> rcases Int.decLt kinc x.self.inc with h'' | h'' <;> simp_all <;> omega
   clear h9; rcases h9' with h9 | ⟨h9, h10⟩ | ⟨h9, h10, h11⟩ | ⟨h9, h10, h11, h12⟩
   all_goals
    go_enter Tryz.func105, Tryz.ntmps105; go_wp2; rw [HW1.out]; go_quiet (fail); go_wp2
    ((try simp only [Exit.inBlock, Exit.then]); first | refine bodyPost_ret (results_none rfl _ _ _) rfl ?_ | refine bodyPost_end (results_none rfl _ _ _) rfl ?_)
    exact ⟨rfl, f, HS1.out.drewN _⟩
 · have e : x.refute ⟨kid, kinc, kst⟩ = ({ x with self := { x.self with inc := kinc + 1 } } : Nd).changed { x.self with inc := kinc + 1 } := by simp only [Nd.refute, if_neg h9]
   rw [e]
   obtain ⟨h9, h10, h11, h12⟩ : (x.self.st == 4) = false /\ (kst == 1) = false /\ decide (kinc < x.self.inc) = false /\ (kinc == 1073741824) = false := by
    simp only [not_or] at h9
    simp [h9]
   have HQ := Hd ho.qlen; have HE := Hd ho.evs; have HL := Hd hb.lost; have HS2 := Hd (fun n => (HS1.out.drewN n).cell ((HS1.out.drewN n).at_.setInc (kinc + 1)) (by omega) (fun k hk => by simp [Value.ownBlock] at hk))
   clear ho hb hk e; go_enter Tryz.func105, Tryz.ntmps105; go_wp2; rw [HW1.out]; go_quiet (fail); go_wp2_with (go_at_call 65; refine (rchanged_any (Bo := Bo) (B := B) (x := { x with self := { x.self with inc := kinc + 1 } }) (ps := ps) (HS2.out _).at_ (HS2.out _).out HQ.out HE.out ⟨HL.out.1, by have := HL.out.2; show x.lost <= _; omega⟩ ⟨x.self.id, kinc + 1, x.self.st⟩).mono ?_; rintro e w2 ⟨rfl, f2, hT2⟩)
   ((try simp only [Exit.inBlock, Exit.then]); first | refine bodyPost_ret (results_none rfl _ _ _) rfl ?_ | refine bodyPost_end (results_none rfl _ _ _) rfl ?_)
   exact ⟨rfl, f2, (HS2.out _).trans hT2⟩
theorem row_upd {α : Type} {F : α -> List Value} {s : Nat} (hF : ∀ a, (F a).length = s) (hs : 0 < s) {w W : World} {B e n c g : Nat} {l : List α} (h : w.ownsRow B e s (.slice (some ⟨g, 0, none⟩) n c) n (l.flatMap F)) (hl : l.length = n)
  {cur cur' : Array Value} (hg : w.heap[g]? = some (.cells cur e (0, 0))) (hW : W.heap[g]? = some (.cells cur' e (0, 0))) (hsz : cur'.size = cur.size) {i : Nat} (hi : i < n) {a : α}
  (h1 : ∀ j, j < s -> cur'[i * s + j]? = (F a)[j]?) (h2 : ∀ t, t < i * s \/ i * s + s <= t -> cur'[t]? = cur[t]?) : W.ownsRow B e s (.slice (some ⟨g, 0, none⟩) n c) n ((l.set i a).flatMap F) := by
 rcases h.2 with ⟨e1, _⟩ | ⟨g', cap, cur0, e1, hB, hg', hnc, hcm, hcs, ht⟩
 · simp at e1
 simp only [Value.slice.injEq, Option.some.injEq, Addr.mk.injEq] at e1; obtain ⟨⟨rfl, _⟩, _, rfl⟩ := e1; rw [hg] at hg'; simp only [Option.some.injEq, Obj.cells.injEq] at hg'; obtain ⟨rfl, _, _⟩ := hg'; refine ⟨by rw [flatl hF, List.length_set, hl], .inr ⟨g, c, cur', rfl, hB, hW, hnc, hcm, by rw [hsz]; exact hcs, ?_⟩⟩
 refine List.ext_getElem? (fun t => ?_)
 rw [List.getElem?_take]
 split
 · rename_i htn
   have htd : t / s < n := (Nat.div_lt_iff_lt_mul hs).2 htn; have hts : t = t / s * s + t % s := by rw [Nat.mul_comm]; exact (Nat.div_add_mod t s).symm
   have hmod := Nat.mod_lt t hs; obtain ⟨q, hq⟩ : ∃ q, t / s = q := ⟨_, rfl⟩; obtain ⟨j, hj⟩ : ∃ j, t % s = j := ⟨_, rfl⟩; rw [hq, hj] at hts; rw [hq] at htd; rw [hj] at hmod; subst hts; rw [Array.getElem?_toList]; obtain ⟨b, hb⟩ : ∃ b, (l.set i a)[q]? = some b := ⟨_, List.getElem?_eq_getElem (by rw [List.length_set, hl]; exact htd)⟩
   obtain ⟨v, hv⟩ : ∃ v, (F b)[j]? = some v := ⟨_, List.getElem?_eq_getElem (by rw [hF]; exact hmod)⟩
   rw [rfl_at hF _ q b j v hb hv]; by_cases hqi : i = q
   · subst hqi
     rw [List.getElem?_set_self (by omega)] at hb
     cases hb
     rw [h1 j hmod, hv]
   · rw [List.getElem?_set_ne hqi] at hb
     have hold := rfl_at hF l q b j v hb hv; rw [<- ht, List.getElem?_take, if_pos htn, Array.getElem?_toList] at hold; rw [h2 _ ?_, hold]; rcases Nat.lt_or_gt_of_ne hqi with hlt | hlt
     · right
       have := Nat.mul_le_mul_right s (show i + 1 <= q from hlt); rw [Nat.succ_mul] at this; omega
     · left
       have := Nat.mul_le_mul_right s (show q + 1 <= i from hlt); rw [Nat.succ_mul] at this; omega
 · rename_i htn
   rw [List.getElem?_eq_none]; rw [flatl hF, List.length_set, hl]; omega
section
variable {Bo B b : Nat} {w w1 : World} {f f1 : Nat -> Value} {x x1 : Nd} {ps : List Pk}
theorem RSt.othBlk (h : RSt Bo B b w f w1 f1 x1 ps) {g n c : Nat} (e13 : f1 13 = .slice (some ⟨g, 0, none⟩) n c) : ∃ cur, w1.heap[g]? = some (.cells cur 149 (0, 0)) /\ x1.others.length * 4 <= cur.size := by
 rcases h.at_.oth.2 with ⟨e1, _⟩ | ⟨g', cap, cur0, e1, hB, hg', hnc, hcm, hcs, ht⟩
 · rw [e13] at e1; simp at e1
 rw [e13] at e1; simp only [Value.slice.injEq, Option.some.injEq, Addr.mk.injEq] at e1; obtain ⟨⟨rfl, _⟩, _, rfl⟩ := e1; exact ⟨cur0, hg', by rw [hcs]; exact Nat.mul_le_mul_right _ hnc⟩
theorem RSt.reOthers (h : RSt Bo B b w f w1 f1 x1 ps) {W : World} {g n c : Nat} {l : List Mem} (e13 : f1 13 = .slice (some ⟨g, 0, none⟩) n c) (hc : Chg (fun k _ => k = g) w1 W) (hv : W.ownsRow B 149 4 (f1 13) l.length (Jd l)) : RSt Bo B b w f W f1 { x1 with others := l } ps := by
 have hg : (f1 13).ownBlock = some g := by rw [e13]; rfl
 refine ⟨h.at_.reOthers hg hc hv, Kq h.out hc (fun k o hk e => own_ne h.out h.at_.oth (by decide) k hk (by rw [e]; exact hg)), ?_, h.own, h.ownW, h.six⟩
 have hc2 : Chg (fun k o => RWr b f k \/ w.heap.size <= k \/ (Bo <= k /\ isPkR o)) w W :=
  (h.chg.mono (fun k o _ h => by rcases h with h | h; · exact .inl h
                                 · exact .inr (.inr h))).trans (hc.mono (fun k o _ e => by
   subst e; rcases h.ownW k (.inr (.inl hg)) with h | h
   · exact .inl h
   · exact .inr (.inl h)))
 exact hc2.mono (fun k o hk h => by
  rcases h with h | h | h
  · exact .inl h
  · omega
  · exact .inr h)
theorem RSt.putMem (h : RSt Bo B b w f w1 f1 x1 ps) {g n c pos : Nat} (e13 : f1 13 = .slice (some ⟨g, 0, none⟩) n c) (hp : pos < x1.others.length) (m : Mem) {d : Int} (hd : (nrm m).due = d) :
  RSt Bo B b w f ((((w1.setCell ⟨g, pos * 4, none⟩ (.int .i64 m.k.id)).setCell ⟨g, pos * 4 + 1, none⟩ (.int .i64 m.k.inc)).setCell ⟨g, pos * 4 + 2, none⟩ (.int .i64 m.k.st)).setCell ⟨g, pos * 4 + 3, none⟩ (.int .i64 d)) f1 { x1 with others := x1.others.set pos m } ps := by
 obtain ⟨cur, hg, hsz⟩ := h.othBlk e13; have h4 := Kf (i := pos * 4 + 3) (v := .int .i64 d) (Kf (i := pos * 4 + 2) (v := .int .i64 m.k.st) (Kf (i := pos * 4 + 1) (v := .int .i64 m.k.inc) (Kf (i := pos * 4) (v := .int .i64 m.k.id) hg))); refine h.reOthers e13 (((((Chg.refl (fun k _ => k = g) w1).setCell _ (fun _ _ => rfl)).setCell _ (fun _ _ => rfl)).setCell _ (fun _ _ => rfl)).setCell _ (fun _ _ => rfl)) ?_
 have hrow := h.at_.oth
 have hn : x1.others.length = n := by
  rcases hrow.2 with ⟨e1, _⟩ | ⟨g', cap, cur0, e1, _⟩
  · rw [e13] at e1; simp at e1
  · rw [e13] at e1; simp only [Value.slice.injEq] at e1; exact e1.2.1.symm
 rw [e13, hn] at hrow; rw [List.length_set, e13, hn]; refine row_upd (F := mrF) (fun _ => rfl) (by decide) hrow hn hg h4 (by simp) (by omega) (fun j hj => ?_) (fun t ht => ?_)
 · have h0 : pos * 4 + 3 < cur.size := by omega
   have hj4 : j = 0 \/ j = 1 \/ j = 2 \/ j = 3 := by omega
   rcases hj4 with rfl | rfl | rfl | rfl
   · rw [Array.getElem?_setIfInBounds_ne (by omega), Array.getElem?_setIfInBounds_ne (by omega), Array.getElem?_setIfInBounds_ne (by omega), Nat.add_zero, Array.getElem?_setIfInBounds_self_of_lt (by omega)]; rfl
   · rw [Array.getElem?_setIfInBounds_ne (by omega), Array.getElem?_setIfInBounds_ne (by omega), Array.getElem?_setIfInBounds_self_of_lt (by simp; omega)]; rfl
   · rw [Array.getElem?_setIfInBounds_ne (by omega), Array.getElem?_setIfInBounds_self_of_lt (by simp; omega)]; rfl
   · rw [Array.getElem?_setIfInBounds_self_of_lt (by simp; omega), <- hd]; rfl
 · rw [Array.getElem?_setIfInBounds_ne (by omega), Array.getElem?_setIfInBounds_ne (by omega), Array.getElem?_setIfInBounds_ne (by omega), Array.getElem?_setIfInBounds_ne (by omega)]
theorem RSt.putDue (h : RSt Bo B b w f w1 f1 x1 ps) {g n c pos : Nat} (e13 : f1 13 = .slice (some ⟨g, 0, none⟩) n c) {m0 : Mem} (hp : x1.others[pos]? = some m0) (m : Mem) (hk : m.k = m0.k) {d : Int} (hd : (nrm m).due = d) :
  RSt Bo B b w f (w1.setCell ⟨g, pos * 4 + 3, none⟩ (.int .i64 d)) f1 { x1 with others := x1.others.set pos m } ps := by
 obtain ⟨cur, hg, hsz⟩ := h.othBlk e13; have hpl := (List.getElem?_eq_some_iff.1 hp).1; have h4 := Kf (i := pos * 4 + 3) (v := .int .i64 d) hg; refine h.reOthers e13 ((Chg.refl (fun k _ => k = g) w1).setCell _ (fun _ _ => rfl)) ?_
 have hrow := h.at_.oth
 have hn : x1.others.length = n := by
  rcases hrow.2 with ⟨e1, _⟩ | ⟨g', cap, cur0, e1, _⟩
  · rw [e13] at e1; simp at e1
  · rw [e13] at e1; simp only [Value.slice.injEq] at e1; exact e1.2.1.symm
 rw [e13, hn] at hrow; obtain ⟨g', eg, _, m0', m1', m2', m3'⟩ := mr_at hrow hp; cases eg
 rw [Ka hg] at m0' m1' m2'; rw [List.length_set, e13, hn]; refine row_upd (F := mrF) (fun _ => rfl) (by decide) hrow hn hg h4 (by simp) (by omega) (fun j hj => ?_) (fun t ht => ?_)
 · have h0 : pos * 4 + 3 < cur.size := by omega
   have hj4 : j = 0 \/ j = 1 \/ j = 2 \/ j = 3 := by omega
   rcases hj4 with rfl | rfl | rfl | rfl
   · rw [Array.getElem?_setIfInBounds_ne (by omega), Nat.add_zero, m0', <- hk]; rfl
   · rw [Array.getElem?_setIfInBounds_ne (by omega), m1', <- hk]; rfl
   · rw [Array.getElem?_setIfInBounds_ne (by omega), m2', <- hk]; rfl
   · rw [Array.getElem?_setIfInBounds_self_of_lt (by omega), <- hd]; rfl
 · rw [Array.getElem?_setIfInBounds_ne (by omega)]
theorem RSt.othFree (h : RSt Bo B b w f w1 f1 x1 ps) {g n c : Nat} (e13 : f1 13 = .slice (some ⟨g, 0, none⟩) n c) (k : Nat) : w1.frozen? ⟨g, k, none⟩ = false := by
 obtain ⟨cur, hg, _⟩ := h.othBlk e13; exact Kr hg k
end
theorem rheard_self {Bo B b : Nat} {w : World} {f : Nat -> Value} {x : Nd} {ps : List Pk} (h : RfAt w B b f x) (hout : OutR w Bo (f 24) ps) (ho : Ok x) {C : Int} (hb : Bd C x) (hC : C <= 100000000000) (k : K) (hk : Jp k) (hid : k.id = x.self.id) :
  Calls Tryz.prog 71 #[.pointer (some ⟨b, 0, none⟩), .agg #[.int .i64 k.id, .int .i64 k.inc, .int .i64 k.st]] w fun e w' => e = .returned (.tuple #[]) /\ ∃ f', RSt Bo B b w f w' f' (x.refute k) ps := by
 obtain ⟨kid, kinc, kst⟩ := k; simp only at hid; subst hid; have hS1 := fun o => (RSt.refl h hout).below ((Below.refl _ w).alloc (Nat.le_refl _) o)
 have c10 : ∀ o, (w.alloc o).cell? ⟨b, 10, none⟩ = some (.int .i64 x.self.id) := fun o => by rw [<- h.s10]; exact (hS1 o).at_.blk.cell (by omega)
 have HS1 := Hd hS1; have HO := Hd ho; have HB := Hd hb; have HK := Hd hk; clear h hout ho hb hk hS1; go_enter Tryz.func71, Tryz.ntmps71; go_wp2; go_quiet (fail); go_wp2_with (go_at_call 105; refine (rown_any (((HS1.out _).drewN _).at_) (((HS1.out _).drewN _).out) HO.out HB.out hC ⟨x.self.id, kinc, kst⟩ HK.out).mono ?_; rintro e w2 ⟨rfl, f2, hT2⟩)
 ((try simp only [Exit.inBlock, Exit.then]); first | refine bodyPost_ret (results_none rfl _ _ _) rfl ?_ | refine bodyPost_end (results_none rfl _ _ _) rfl ?_)
 exact ⟨rfl, f2, ((HS1.out _).drewN _).trans hT2⟩
theorem thereM_some {n : Int} {l : List Mem} {m : Mem} (h : Jo l n = some m) : thereM n l = true := by unfold thereM; rw [h]; rfl
theorem thereM_none {n : Int} {l : List Mem} (h : Jo l n = none) : thereM n l = false := by unfold thereM; rw [h]; rfl
theorem rheard_full {Bo B b : Nat} {w : World} {f : Nat -> Value} {x : Nd} {ps : List Pk} (h : RfAt w B b f x) (hout : OutR w Bo (f 24) ps) (ho : Ok x) (k : K) (hid : (k.id == x.self.id) = false) (hf : Jo x.others k.id = none) (hl : x.others.length = 7) :
  Calls Tryz.prog 71 #[.pointer (some ⟨b, 0, none⟩), .agg #[.int .i64 k.id, .int .i64 k.inc, .int .i64 k.st]] w fun e w' => e = .returned (.tuple #[]) /\ ∃ f', RSt Bo B b w f w' f' x ps := by
 obtain ⟨kid, kinc, kst⟩ := k; simp only at hid hf; have hS1 := fun o => (RSt.refl h hout).below ((Below.refl _ w).alloc (Nat.le_refl _) o)
 have c10 : ∀ o, (w.alloc o).cell? ⟨b, 10, none⟩ = some (.int .i64 x.self.id) := fun o => by rw [<- h.s10]; exact (hS1 o).at_.blk.cell (by omega)
 obtain ⟨a, c, e13⟩ := Kg h.oth; rw [hl] at e13; have c13 : ∀ o, (w.alloc o).cell? ⟨b, 13, none⟩ = some (.slice a 7 c) := fun o => by rw [<- e13]; exact (hS1 o).at_.blk.cell (by omega)
 have hfind := fun o n => rfind_any ((hS1 o).drewN n).at_ ho.rise (by omega) kid
 rw [thereM_none hf] at hfind; obtain ⟨p, hp⟩ : ∃ p, posM kid x.others = p := ⟨_, rfl⟩; rw [hp] at hfind; have HS1 := Hd hS1; have HF := Hd hfind; clear h hout ho hS1 e13 hfind hp hf hl; go_enter Tryz.func71, Tryz.ntmps71; go_wp2; go_quiet (fail); go_wp2_with (go_at_call 106; refine (HF.out _ _).mono ?_; rintro e w2 ⟨rfl, n2, rfl⟩)
 ((try simp only [Exit.inBlock, Exit.then]); first | refine bodyPost_ret (results_none rfl _ _ _) rfl ?_ | refine bodyPost_end (results_none rfl _ _ _) rfl ?_)
 exact ⟨rfl, f, (HS1.out _).drewN _⟩
theorem rheard_old {Bo B b : Nat} {w : World} {f : Nat -> Value} {x : Nd} {ps : List Pk} (h : RfAt w B b f x) (hout : OutR w Bo (f 24) ps) (ho : Ok x) (k : K) (hid : (k.id == x.self.id) = false) (m : Mem) (hf : Jo x.others k.id = some m) (hl : lessK m.k k = false) :
  Calls Tryz.prog 71 #[.pointer (some ⟨b, 0, none⟩), .agg #[.int .i64 k.id, .int .i64 k.inc, .int .i64 k.st]] w fun e w' => e = .returned (.tuple #[]) /\ ∃ f', RSt Bo B b w f w' f' x ps := by
 obtain ⟨kid, kinc, kst⟩ := k; simp only at hid hf; obtain ⟨w1, hw1⟩ : ∃ w1, w.alloc (.cells #[.int .i64 kid, .int .i64 kinc, .int .i64 kst] 58) = w1 := ⟨_, rfl⟩; have hb1 : Below w.heap.size w w1 := by rw [<- hw1]; exact (Below.refl _ _).alloc (Nat.le_refl _) _
 have hx1 : w1.heap[w.heap.size]? = some (.cells #[.int .i64 kid, .int .i64 kinc, .int .i64 kst] 58 (0, 0)) := by rw [<- hw1]; exact Kc w _
 have d0 := Ka hx1 0; have d1 := Ka hx1 1; have d2 := Ka hx1 2; simp only [List.getElem?_toArray, List.getElem?_cons_succ, List.getElem?_cons_zero] at d0 d1 d2; have hS1 := (RSt.refl h hout).below hb1; have c10 : w1.cell? ⟨b, 10, none⟩ = some (.int .i64 x.self.id) := by rw [<- h.s10]; exact hS1.at_.blk.cell (by omega)
 obtain ⟨a, c, e13⟩ := Kg h.oth; obtain ⟨ln, hln⟩ : ∃ ln, x.others.length = ln := ⟨_, rfl⟩; rw [hln] at e13; have c13 : w1.cell? ⟨b, 13, none⟩ = some (.slice a ln c) := by rw [<- e13]; exact hS1.at_.blk.cell (by omega)
 have hfind := fun n => rfind_any (hS1.drewN n).at_ ho.rise (by have := ho.len; omega) kid
 rw [thereM_some hf] at hfind; have hat := findM_at ho.rise hf; obtain ⟨p, hp⟩ : ∃ p, posM kid x.others = p := ⟨_, rfl⟩; rw [hp] at hfind hat; have hpl : p < ln := by rw [<- hln]; exact (List.getElem?_eq_some_iff.1 hat).1
 have hl7 : ln <= 7 := by rw [<- hln]; exact ho.len
 have hrow := hS1.at_.oth; rw [e13, hln] at hrow; obtain ⟨g, rfl, hg, m0, m1, m2, _⟩ := mr_at hrow hat; have hgr := fun W => rgreater_any ⟨kid, kinc, kst⟩ m.k W
 rw [hl] at hgr; obtain ⟨⟨mid, minc, mst⟩, mdue⟩ := m; simp only at m0 m1 m2 hgr; have HS1 := Hd hS1; have HF := Hd hfind; have HG := Hd hgr; have HW1 := Hd hw1; clear h hout ho hS1 e13 hfind hp hf hl hat hrow hgr hw1 hb1 hx1 hln; go_enter Tryz.func71, Tryz.ntmps71; go_wp2; rw [HW1.out]; go_quiet (fail); go_wp2_with (go_at_call 106; refine (HF.out _).mono ?_; rintro e w2 ⟨rfl, n2, rfl⟩)
 (refine Jj 9 (by kernel_rfl) (by kernel_rfl) ?_; simp only [List.take_succ_cons, List.take_zero, List.drop_succ_cons, List.drop_zero])
 iterate 9 still_step
 refine wpStill_nil ?_; go_wp2_with (go_at_call 107; refine (HG.out _).mono ?_; rintro e w4 ⟨rfl, hb4⟩)
 ((try simp only [Exit.inBlock, Exit.then]); first | refine bodyPost_ret (results_none rfl _ _ _) rfl ?_ | refine bodyPost_end (results_none rfl _ _ _) rfl ?_)
 exact ⟨rfl, f, (HS1.out.drewN _).below hb4⟩
