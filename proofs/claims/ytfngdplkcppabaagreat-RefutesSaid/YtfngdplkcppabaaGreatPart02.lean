/-
  What holds of a node as plain data, whatever it is told: nothing grows without a bound; ids, incarnations and states are such. No program in sight.
  append to a row of the call's own: where the new slice lies; a row that is left behind stays as it was. No program in sight.
  The contracts of the small functions that only reckon: room, within. No condition but that the numbers fit their kinds.
-/
import Derived.Test.YtfngdplkcppabaaGreatPart01
import Derived.Deep.AppendLies
import Derived.Deep.Upon
import Derived.Test.YtfngdplkcppabaaGreatProg
set_option linter.all false
namespace Go.Proofs.YtfngdplkcppabaaGreat
open Go.RowKit

/-- A key in range. -/
def keyOk (k : K) : Prop := (1 ≤ k.id ∧ k.id ≤ 250) ∧ (1 ≤ k.inc ∧ k.inc ≤ 1073741824) ∧ (1 ≤ k.st ∧ k.st ≤ 4)
def idOk (n : Int) : Prop := 1 ≤ n ∧ n ≤ 250
def ids (l : List Mem) : List Int := l.map (fun m => m.k.id)
def uids (l : List Upd) : List Int := l.map (fun u => u.k.id)
def rids (l : List Rel) : List Int := l.map (fun r => r.seq)
/-- Strictly rising. -/
def Rise (l : List Int) : Prop := l.Pairwise (· < ·)

structure Ok (x : Nd) : Prop where
  cfg : cfgB x.c = true
  selfId : x.self.id = x.c.self
  self : keyOk x.self
  rise : Rise (ids x.others)
  notSelf : ∀ m ∈ x.others, m.k.id ≠ x.self.id
  key : ∀ m ∈ x.others, keyOk m.k
  len : x.others.length ≤ 7
  qnd : (uids x.queue).Nodup
  qin : ∀ u ∈ x.queue, u.k.id = x.self.id ∨ u.k.id ∈ ids x.others
  qkey : ∀ u ∈ x.queue, keyOk u.k ∧ 0 ≤ u.sent ∧ u.sent < x.c.sends
  rnd : (rids x.relays).Nodup
  rlen : x.relays.length ≤ 4
  rok : ∀ r ∈ x.relays, (1 ≤ r.seq ∧ r.seq ≤ x.seq) ∧ idOk r.tgt ∧ idOk r.orig ∧ (0 ≤ r.oseq ∧ r.oseq ≤ 4294967295) ∧ (0 ≤ r.ends ∧ r.ends ≤ x.clock + 50)
  pin : ∀ n ∈ x.pass, n ∈ ids x.others
  pnd : x.pass.length ≤ 7
  prb : ∀ p, x.probe = some p → idOk p.tgt ∧ (1 ≤ p.seq ∧ p.seq ≤ x.seq) ∧ (0 ≤ p.start ∧ p.start ≤ x.clock)
  evs : x.events.length ≤ 8
  ekey : ∀ k ∈ x.events, keyOk k
  due : ∀ m ∈ x.others, 0 ≤ m.due ∧ m.due ≤ x.clock + 500
/-- The counters' bound. -/
structure Bd (B : Int) (x : Nd) : Prop where
  clock : 0 ≤ x.clock ∧ x.clock ≤ B
  seq : 0 ≤ x.seq ∧ x.seq ≤ B
  dropped : 0 ≤ x.dropped ∧ x.dropped ≤ B
  lost : 0 ≤ x.lost ∧ x.lost ≤ B
  at_ : (x.at_ : Int) ≤ B
theorem Bd.mono {B C : Int} {x : Nd} (h : Bd B x) (hc : B ≤ C) : Bd C x :=
  ⟨⟨h.clock.1, Int.le_trans h.clock.2 hc⟩, ⟨h.seq.1, Int.le_trans h.seq.2 hc⟩, ⟨h.dropped.1, Int.le_trans h.dropped.2 hc⟩, ⟨h.lost.1, Int.le_trans h.lost.2 hc⟩, Int.le_trans h.at_ hc⟩

/-! ### lists -/
theorem mem_ids {l : List Mem} {n : Int} : n ∈ ids l ↔ ∃ m ∈ l, m.k.id = n := by simp [ids]
theorem mem_putM {m : Mem} {l : List Mem} {a : Mem} (h : a ∈ putM m l) : a = m ∨ a ∈ l := by
  induction l with
  | nil => simp [putM] at h; exact .inl h
  | cons b r ih =>
    unfold putM at h
    split at h
    · simp only [List.mem_cons] at h ⊢
      rcases h with h | h
      · exact .inr (.inl h)
      · rcases ih h with h | h
        · exact .inl h
        · exact .inr (.inr h)
    · split at h
      · simp only [List.mem_cons] at h ⊢
        rcases h with h | h
        · exact .inl h
        · exact .inr (.inr h)
      · simp only [List.mem_cons] at h ⊢
        exact h
theorem putM_mem (m : Mem) (l : List Mem) : m ∈ putM m l := by
  induction l with
  | nil => simp [putM]
  | cons b r ih => unfold putM; split; · exact List.mem_cons_of_mem _ ih
                   split <;> simp
theorem putM_keep {m : Mem} {l : List Mem} {a : Mem} (h : a ∈ l) (hn : a.k.id ≠ m.k.id) : a ∈ putM m l := by
  induction l with
  | nil => simp at h
  | cons b r ih =>
    unfold putM
    simp only [List.mem_cons] at h
    split
    · rcases h with rfl | h
      · simp
      · exact List.mem_cons_of_mem _ (ih h)
    · split
      · rename_i e
        rcases h with rfl | h
        · exact absurd e hn
        · simp [h]
      · rcases h with rfl | h <;> simp [*]
theorem ids_putM (m : Mem) (l : List Mem) (n : Int) : n ∈ ids (putM m l) ↔ n = m.k.id ∨ n ∈ ids l := by
  constructor
  · intro h
    obtain ⟨a, ha, rfl⟩ := mem_ids.1 h
    rcases mem_putM ha with rfl | ha
    · exact .inl rfl
    · exact .inr (mem_ids.2 ⟨a, ha, rfl⟩)
  · rintro (rfl | h)
    · exact mem_ids.2 ⟨m, putM_mem m l, rfl⟩
    · obtain ⟨a, ha, rfl⟩ := mem_ids.1 h
      by_cases e : a.k.id = m.k.id
      · rw [e]; exact mem_ids.2 ⟨m, putM_mem m l, rfl⟩
      · exact mem_ids.2 ⟨a, putM_keep ha e, rfl⟩
theorem rise_putM (m : Mem) {l : List Mem} (h : Rise (ids l)) : Rise (ids (putM m l)) := by
  induction l with
  | nil => simp [putM, ids, Rise]
  | cons b r ih =>
    have hb : ∀ n ∈ ids r, b.k.id < n := by
      intro n hn
      have := (List.pairwise_cons.1 h).1
      exact this n hn
    have hr : Rise (ids r) := (List.pairwise_cons.1 h).2
    unfold putM
    split
    · rename_i hlt
      refine List.pairwise_cons.2 ⟨fun n hn => ?_, ih hr⟩
      rcases (ids_putM m r n).1 hn with rfl | hn
      · exact hlt
      · exact hb n hn
    · split
      · rename_i e
        exact List.pairwise_cons.2 ⟨fun n hn => by have := hb n hn; show m.k.id < n; omega, hr⟩
      · rename_i h1 h2
        have hlt : m.k.id < b.k.id := by omega
        refine List.pairwise_cons.2 ⟨fun n hn => ?_, h⟩
        rcases List.mem_cons.1 hn with rfl | hn
        · exact hlt
        · exact Int.lt_trans hlt (hb n hn)
theorem len_putM (m : Mem) (l : List Mem) : (putM m l).length ≤ l.length + 1 := by
  induction l with
  | nil => simp [putM]
  | cons b r ih => unfold putM; split; · simpa using ih
                   split <;> simp
theorem len_putM_in {m : Mem} {l : List Mem} (hr : Rise (ids l)) (h : m.k.id ∈ ids l) : (putM m l).length = l.length := by
  induction l with
  | nil => simp [ids] at h
  | cons b r ih =>
    have hb : ∀ n ∈ ids r, b.k.id < n := fun n hn => (List.pairwise_cons.1 hr).1 n hn
    have h' : m.k.id = b.k.id ∨ m.k.id ∈ ids r := List.mem_cons.1 h
    unfold putM
    split
    · rename_i hlt
      rw [List.length_cons, ih (List.pairwise_cons.1 hr).2 (by rcases h' with e | h'; · omega
                                                               · exact h'), List.length_cons]
    · split
      · simp
      · rename_i h1 h2
        rcases h' with e | h'
        · omega
        · have := hb _ h'; omega
theorem findM_some {l : List Mem} {n : Int} {m : Mem} (h : findM l n = some m) : m ∈ l ∧ m.k.id = n := by
  unfold findM at h
  exact ⟨List.mem_of_find?_eq_some h, by simpa using List.find?_some h⟩
theorem findM_none {l : List Mem} {n : Int} (h : findM l n = none) : n ∉ ids l := by
  unfold findM at h
  rw [List.find?_eq_none] at h
  intro hn
  obtain ⟨m, hm, e⟩ := mem_ids.1 hn
  exact h m hm (by simpa using e)

/-! ### each step keeps it -/
theorem Ok.changed {x : Nd} (h : Ok x) {k : K} (hk : keyOk k) (hi : k.id = x.self.id ∨ k.id ∈ ids x.others) : Ok (x.changed k) := by
  have hs : 1 ≤ x.c.sends := by
    have := h.cfg
    simp only [cfgB, withinB, Bool.and_eq_true, decide_eq_true_eq] at this
    omega
  refine { h with qnd := ?_, qin := ?_, qkey := ?_, evs := ?_, ekey := ?_ }
  · have hf : ((uids x.queue).filter (fun n => n != k.id)).Nodup := h.qnd.filter _
    have e : uids (x.changed k).queue = (uids x.queue).filter (fun n => n != k.id) ++ [k.id] := by
      simp only [Nd.changed, uids, List.map_append, List.map_cons, List.map_nil, List.filter_map]; rfl
    rw [e, List.nodup_append]
    refine ⟨hf, by simp, ?_⟩
    intro a ha b hb hab
    simp only [List.mem_filter, bne_iff_ne, ne_eq, List.mem_cons, List.not_mem_nil, or_false] at ha hb
    exact ha.2 (hab.trans hb)
  · intro u hu
    simp only [Nd.changed, List.mem_append, List.mem_filter, List.mem_cons, List.not_mem_nil, or_false] at hu
    rcases hu with ⟨hu, _⟩ | rfl
    · exact h.qin u hu
    · exact hi
  · intro u hu
    simp only [Nd.changed, List.mem_append, List.mem_filter, List.mem_cons, List.not_mem_nil, or_false] at hu
    rcases hu with ⟨hu, _⟩ | rfl
    · exact h.qkey u hu
    · exact ⟨hk, Int.le_refl _, by show (0 : Int) < x.c.sends; omega⟩
  · have := h.evs
    show (if full x.events = true then x.events else x.events ++ [k]).length ≤ 8
    by_cases hf : full x.events = true
    · rw [if_pos hf]; exact this
    · rw [if_neg hf, List.length_append, List.length_singleton]
      simp only [full, beq_iff_eq] at hf
      omega
  · intro k' hk'
    have hk2 : k' ∈ (if full x.events = true then x.events else x.events ++ [k]) := hk'
    by_cases hf : full x.events = true
    · rw [if_pos hf] at hk2; exact h.ekey k' hk2
    · rw [if_neg hf] at hk2
      simp only [List.mem_append, List.mem_cons, List.not_mem_nil, or_false] at hk2
      rcases hk2 with hk2 | rfl
      · exact h.ekey _ hk2
      · exact hk

theorem Ok.refute {x : Nd} (h : Ok x) {k : K} (hk : keyOk k) : Ok (x.refute k) := by
  unfold Nd.refute
  split
  · exact h
  · rename_i hc
    have hinc : k.inc ≠ 1073741824 := fun e => hc (.inr (.inr (.inr e)))
    have hs : keyOk { x.self with inc := k.inc + 1 } := ⟨h.self.1, ⟨by have := hk.2.1; show 1 ≤ k.inc + 1; omega, by have := hk.2.1; show k.inc + 1 ≤ _; omega⟩, h.self.2.2⟩
    have h' : Ok { x with self := { x.self with inc := k.inc + 1 } } := { h with self := hs }
    exact h'.changed hs (.inl rfl)

theorem Ok.taken {x : Nd} (h : Ok x) (hb : 0 ≤ x.clock) {k : K} (hk : keyOk k) (hne : k.id ≠ x.self.id) (hl : k.id ∈ ids x.others ∨ x.others.length < 7) : Ok (x.taken k) := by
  have hsu : 1 ≤ x.c.susp ∧ x.c.susp ≤ 500 := by
    have := h.cfg
    simp only [cfgB, withinB, Bool.and_eq_true, decide_eq_true_eq] at this
    omega
  have hp : ∀ n ∈ (if k.st ≤ 2 then x.pass else x.pass.filter (fun n => n != k.id)), n ∈ x.pass := by
    intro n hn
    split at hn
    · exact hn
    · exact (List.mem_filter.1 hn).1
  have h' : Ok { x with others := putM ⟨k, x.clock + x.c.susp⟩ x.others, pass := if k.st ≤ 2 then x.pass else x.pass.filter (fun n => n != k.id) } :=
    { h with
      rise := rise_putM _ h.rise
      notSelf := fun m hm => by rcases mem_putM hm with rfl | hm; · exact hne
                                · exact h.notSelf m hm
      key := fun m hm => by rcases mem_putM hm with rfl | hm; · exact hk
                            · exact h.key m hm
      len := by
        rcases hl with hl | hl
        · show (putM _ _).length ≤ 7
          rw [len_putM_in h.rise hl]; exact h.len
        · exact Nat.le_trans (len_putM _ _) (by omega)
      qin := fun u hu => (h.qin u hu).imp id (fun hi => (ids_putM _ _ _).2 (.inr hi))
      pin := fun n hn => (ids_putM _ _ _).2 (.inr (h.pin n (hp n hn)))
      pnd := by
        show (if k.st ≤ 2 then x.pass else x.pass.filter (fun n => n != k.id)).length ≤ 7
        split
        · exact h.pnd
        · exact Nat.le_trans (List.length_filter_le _ _) h.pnd
      due := fun m hm => by rcases mem_putM hm with rfl | hm; · exact ⟨by show 0 ≤ x.clock + x.c.susp; omega, by show x.clock + x.c.susp ≤ x.clock + 500; omega⟩
                            · exact h.due m hm }
  exact h'.changed hk (.inr ((ids_putM _ _ _).2 (.inl rfl)))

theorem Ok.hear {x : Nd} (h : Ok x) (hb : 0 ≤ x.clock) {k : K} (hk : keyOk k) : Ok (x.hear k) := by
  unfold Nd.hear
  split
  · exact h.refute hk
  · rename_i hne
    split
    · split
      · exact h
      · rename_i hf hl
        exact h.taken hb hk hne (.inr (by have := h.len; omega))
    · rename_i m hf
      split
      · obtain ⟨hm, e⟩ := findM_some hf
        exact h.taken hb hk hne (.inl (mem_ids.2 ⟨m, hm, e⟩))
      · exact h

/-! ### what a call to hear leaves as it is -/
/-- The steps on what is told leave these as they are. -/
structure Same (x y : Nd) : Prop where
  c : y.c = x.c
  ds : y.ds = x.ds
  at_ : y.at_ = x.at_
  clock : y.clock = x.clock
  seq : y.seq = x.seq
  probe : y.probe = x.probe
  relays : y.relays = x.relays
  dropped : y.dropped = x.dropped
  id : y.self.id = x.self.id
theorem Same.refl (x : Nd) : Same x x := ⟨rfl, rfl, rfl, rfl, rfl, rfl, rfl, rfl, rfl⟩
theorem Same.trans {x y z : Nd} (h : Same x y) (k : Same y z) : Same x z :=
  ⟨k.c.trans h.c, k.ds.trans h.ds, k.at_.trans h.at_, k.clock.trans h.clock, k.seq.trans h.seq, k.probe.trans h.probe, k.relays.trans h.relays, k.dropped.trans h.dropped, k.id.trans h.id⟩
theorem same_changed (x : Nd) (k : K) : Same x (x.changed k) := ⟨rfl, rfl, rfl, rfl, rfl, rfl, rfl, rfl, rfl⟩
theorem same_refute (x : Nd) (k : K) : Same x (x.refute k) := by
  unfold Nd.refute; split
  · exact Same.refl x
  · exact ⟨rfl, rfl, rfl, rfl, rfl, rfl, rfl, rfl, rfl⟩
theorem same_taken (x : Nd) (k : K) : Same x (x.taken k) := ⟨rfl, rfl, rfl, rfl, rfl, rfl, rfl, rfl, rfl⟩
theorem same_hear (x : Nd) (k : K) : Same x (x.hear k) := by
  unfold Nd.hear; split
  · exact same_refute x k
  · split
    · split
      · exact Same.refl x
      · exact same_taken x k
    · split
      · exact same_taken x k
      · exact Same.refl x
theorem same_hears (l : List K) : ∀ x : Nd, Same x (l.foldl Nd.hear x) := by
  induction l with
  | nil => exact Same.refl
  | cons k l ih => intro x; exact (same_hear x k).trans (ih _)

theorem Ok.hears {x : Nd} (h : Ok x) (hb : 0 ≤ x.clock) (l : List K) (hl : ∀ k ∈ l, keyOk k) : Ok (l.foldl Nd.hear x) := by
  induction l generalizing x with
  | nil => exact h
  | cons k l ih =>
    exact ih (h.hear hb (hl k (List.mem_cons_self ..))) (by rw [(same_hear x k).clock]; exact hb) (fun k' hk' => hl k' (List.mem_cons_of_mem _ hk'))

/-- Each step on what is told: at most one event more is lost. -/
theorem lost_changed (x : Nd) (k : K) : x.lost ≤ (x.changed k).lost ∧ (x.changed k).lost ≤ x.lost + 1 := by
  show x.lost ≤ (if full x.events = true then x.lost + 1 else x.lost) ∧ (if full x.events = true then x.lost + 1 else x.lost) ≤ x.lost + 1
  by_cases hf : full x.events = true
  · rw [if_pos hf]; omega
  · rw [if_neg hf]; omega
theorem lost_hear (x : Nd) (k : K) : x.lost ≤ (x.hear k).lost ∧ (x.hear k).lost ≤ x.lost + 1 := by
  unfold Nd.hear; split
  · unfold Nd.refute; split
    · omega
    · exact lost_changed { x with self := { x.self with inc := k.inc + 1 } } _
  · split
    · split
      · omega
      · exact lost_changed { x with others := _, pass := _ } k
    · split
      · exact lost_changed { x with others := _, pass := _ } k
      · omega
theorem Bd.hear {B : Int} {x : Nd} (h : Bd B x) (k : K) : Bd (B + 1) (x.hear k) := by
  have s := same_hear x k
  have hl := lost_hear x k
  have h1 := h.clock; have h2 := h.seq; have h3 := h.dropped; have h4 := h.lost; have h5 := h.at_
  refine ⟨?_, ?_, ?_, ?_, ?_⟩
  · rw [s.clock]; omega
  · rw [s.seq]; omega
  · rw [s.dropped]; omega
  · omega
  · rw [s.at_]; omega
theorem Bd.hears (l : List K) : ∀ {B : Int} {x : Nd}, Bd B x → Bd (B + l.length) (l.foldl Nd.hear x) := by
  induction l with
  | nil => intro B x h; simpa using h
  | cons k l ih =>
    intro B x h
    have := ih (h.hear k)
    have e : B + 1 + (l.length : Int) = B + ((k :: l).length : Nat) := by simp; omega
    rw [e] at this
    exact this

/-! ### what rides along -/
theorem first_mem {x : Nd} {u : Upd} (h : u ∈ x.first) : u ∈ x.queue := by
  unfold Nd.first at h
  exact (List.mergeSort_perm x.queue updLe).mem_iff.1 (List.mem_of_mem_take h)
theorem first_len (x : Nd) : x.first.length ≤ 4 := by unfold Nd.first; rw [List.length_take]; omega
theorem first_nd {x : Nd} (h : (uids x.queue).Nodup) : (uids x.first).Nodup := by
  have hp : (uids (x.queue.mergeSort updLe)).Perm (uids x.queue) := (List.mergeSort_perm x.queue updLe).map _
  have := hp.nodup_iff.2 h
  unfold Nd.first uids at *
  rw [List.map_take]
  exact this.sublist (List.take_sublist _ _)
theorem Ok.take {x : Nd} (h : Ok x) : Ok x.take := by
  have hm : ∀ u ∈ x.take.queue, ∃ v ∈ x.queue, v.k = u.k ∧ (u.sent = v.sent ∨ u.sent = v.sent + 1 ∧ u.sent ≠ x.c.sends) := by
    intro u hu
    simp only [Nd.take, List.mem_append, List.mem_filter, List.mem_map, bne_iff_ne, ne_eq] at hu
    rcases hu with ⟨hu, _⟩ | ⟨⟨v, hv, rfl⟩, hs⟩
    · exact ⟨u, hu, rfl, .inl rfl⟩
    · exact ⟨v, first_mem hv, rfl, .inr ⟨rfl, hs⟩⟩
  refine { h with qnd := ?_, qin := ?_, qkey := ?_ }
  · have e : uids x.take.queue = (uids x.queue).filter (fun n => !(x.first.any fun v => v.k.id == n)) ++ uids ((x.first.map fun u => (⟨u.k, u.sent + 1⟩ : Upd)).filter (fun u => u.sent != x.c.sends)) := by
      simp only [Nd.take, uids, List.map_append, List.filter_map]; rfl
    rw [e, List.nodup_append]
    have hsub : ∀ n ∈ uids ((x.first.map fun u => (⟨u.k, u.sent + 1⟩ : Upd)).filter (fun u => u.sent != x.c.sends)), n ∈ uids x.first := by
      intro n hn
      simp only [uids, List.mem_map, List.mem_filter] at hn ⊢
      obtain ⟨u, ⟨⟨v, hv, rfl⟩, _⟩, rfl⟩ := hn
      exact ⟨v, hv, rfl⟩
    refine ⟨h.qnd.filter _, ?_, ?_⟩
    · have h1 : (uids (x.first.map fun u => (⟨u.k, u.sent + 1⟩ : Upd))).Nodup := by
        have : uids (x.first.map fun u => (⟨u.k, u.sent + 1⟩ : Upd)) = uids x.first := by simp [uids, Function.comp_def]
        rw [this]; exact first_nd h.qnd
      exact List.Nodup.sublist (List.Sublist.map (fun u : Upd => u.k.id) (List.filter_sublist (p := fun u : Upd => u.sent != x.c.sends))) h1
    · intro a ha b hb hab
      subst hab
      obtain ⟨v, hv, e⟩ := List.mem_map.1 (hsub a hb)
      simp only [List.mem_filter, Bool.not_eq_true', List.any_eq_false, beq_iff_eq] at ha
      exact ha.2 v hv e
  · intro u hu
    obtain ⟨v, hv, e, _⟩ := hm u hu
    rw [← e]; exact h.qin v hv
  · intro u hu
    obtain ⟨v, hv, e, hs⟩ := hm u hu
    obtain ⟨h1, h2, h3⟩ := h.qkey v hv
    rw [← e]
    refine ⟨h1, ?_, ?_⟩
    · rcases hs with hs | ⟨hs, _⟩ <;> omega
    · show u.sent < x.c.sends
      rcases hs with hs | ⟨hs, hn⟩ <;> omega
theorem Ok.sent {x : Nd} (h : Ok x) (m : M) : Ok (x.sent m) := by
  unfold Nd.sent; split
  · exact h.take
  · exact h
/-- A sending leaves all but the queue. -/
structure SameQ (x y : Nd) : Prop extends Same x y where
  self : y.self = x.self
  others : y.others = x.others
  pass : y.pass = x.pass
  lost : y.lost = x.lost
  events : y.events = x.events
theorem sameQ_sent (x : Nd) (m : M) : SameQ x (x.sent m) := by
  unfold Nd.sent; split <;> exact ⟨⟨rfl, rfl, rfl, rfl, rfl, rfl, rfl, rfl, rfl⟩, rfl, rfl, rfl, rfl, rfl⟩
theorem Bd.sent {B : Int} {x : Nd} (h : Bd B x) (m : M) : Bd B (x.sent m) := by
  have s := sameQ_sent x m
  exact ⟨by rw [s.clock]; exact h.clock, by rw [s.seq]; exact h.seq, by rw [s.dropped]; exact h.dropped, by rw [s.lost]; exact h.lost, by rw [s.at_]; exact h.at_⟩
theorem nodup_le {l l' : List Int} (h : l.Nodup) (hs : ∀ n ∈ l, n ∈ l') : l.length ≤ l'.length := by
  induction l generalizing l' with
  | nil => simp
  | cons a r ih =>
    have ha := hs a (by simp)
    have h1 := List.nodup_cons.1 h
    have := ih (l' := l'.erase a) h1.2 (fun n hn => (List.mem_erase_of_ne (fun e => h1.1 (by rw [← e]; exact hn))).2 (hs n (by simp [hn])))
    rw [List.length_erase_of_mem ha] at this
    have : 0 < l'.length := List.length_pos_of_mem ha
    simp only [List.length_cons]
    omega
theorem Ok.qlen {x : Nd} (h : Ok x) : x.queue.length ≤ 8 := by
  have := nodup_le (l' := x.self.id :: ids x.others) h.qnd (fun n hn => by
    obtain ⟨u, hu, rfl⟩ := List.mem_map.1 hn
    rcases h.qin u hu with e | e
    · simp [e]
    · simp [e])
  simp only [uids, ids, List.length_map, List.length_cons] at this
  have := h.len
  omega
end Go.Proofs.YtfngdplkcppabaaGreat
namespace Go.Proofs.YtfngdplkcppabaaGreat
open Go.RowKit

/-- The row went on in its own block, or lies in a new one. -/
def AppTo (w w' : World) (v : Value) (g : Nat) : Prop := (v.ownBlock = some g ∧ w.grownBy w' (some g)) ∨ (g = w.heap.size ∧ w.grownBy w' none)
theorem AppTo.grown {w w' : World} {v : Value} {g : Nat} (h : AppTo w w' v g) : w.grownBy w' v.ownBlock := by
  rcases h with ⟨e, h⟩ | ⟨_, h⟩
  · rw [e]; exact h
  · exact ⟨h.os, h.tape, h.output, h.size, fun k hk _ => h.block k hk (by simp)⟩
theorem AppTo.block {w w' : World} {v : Value} {g : Nat} (h : AppTo w w' v g) {k : Nat} (hk : k < w.heap.size) (hne : v.ownBlock ≠ some k) : w'.heap[k]? = w.heap[k]? := h.grown.block k hk (fun e => hne e.symm)
/-- Another row stays. -/
theorem AppTo.other {w w' : World} {v u : Value} {g B e s n : Nat} {xs : List Value} (h : AppTo w w' v g) (ho : w.ownsRow B e s u n xs) (hne : ∀ k, v.ownBlock = some k → u.ownBlock ≠ some k) : w'.ownsRow B e s u n xs :=
  ho.kept h.grown (by
    cases hb : u.ownBlock with
    | none => exact .inl rfl
    | some k => exact .inr (fun e => hne k e.symm hb))
theorem AppTo.apart {w w' : World} {v u : Value} {g B e s n m c : Nat} {xs : List Value} (h : AppTo w w' v g) (ho : w.ownsRow B e s u n xs) (hne : ∀ k, v.ownBlock = some k → u.ownBlock ≠ some k) : ∀ k, (Value.slice (some ⟨g, 0, none⟩) m c).ownBlock = some k → u.ownBlock ≠ some k := by
  intro k hk
  simp only [Value.ownBlock, Option.some.injEq] at hk
  subst hk
  rcases h with ⟨e, _⟩ | ⟨e, _⟩
  · exact hne g e
  · intro e'
    have := (ho.lt g e').2
    omega

section
variable {P : Program} (w : World)
theorem run_append_to (t ty : TypeId) (base : Nat) (e : TypeId) (i : TypeInfo) (z : Value) (size bytes : Nat) (ht : P.underlying t = some (.slice e)) (hi : P.info? e = some i) (hz : i.zero = some z)
    (hsize : i.size = size) (hby : i.bytes = bytes) (hzs : z.cells.size = size) (hsz : 0 < size)
    (v : Value) (n : Nat) (xs : List Value) (hown : w.ownsRow base e size v n xs)
    (ad : Addr) (m c : Nat) (news : List Value) (hl : news.length = m * size) (hnews : ∀ j u, news[j]? = some u → w.cell? (ad.add j) = some u) (h1 : ∀ u ∈ news, u.oneCell' = true)
    (hm : 0 < m) (h63 : n + m ≤ maxLen) (hbytes : (n + m) * bytes ≤ 140737488355328) (hbase : base ≤ w.heap.size) :
    ∃ g cap w', (Builtin.append_ #[t, t] ty #[v, .slice (some ad) m c]).run P w = .ok (.slice (some ⟨g, 0, none⟩) (n + m) cap) w' ∧
      w'.ownsRow base e size (.slice (some ⟨g, 0, none⟩) (n + m) cap) (n + m) (xs ++ news) ∧ AppTo w w' v g := by
  obtain ⟨g, cap, w', hr, h2, h3, h4, _⟩ := run_append_lies (P := P) w t ty base e i z size bytes ht hi hz hsize hby hzs hsz v n xs hown ad m c news hl hnews h1 hm h63 hbytes hbase w.heap.size rfl
  refine ⟨g, cap, w', hr, h2, ?_⟩
  rcases h4 with h4 | h4
  · exact .inl ⟨h4, by rw [← h4]; exact h3⟩
  rcases hown.2 with ⟨rfl, _⟩ | ⟨b, cp, cur, rfl, hbg, hg, hnc, hcm, hcs, htake⟩
  · exact .inr ⟨h4, h3⟩
  · have hlt := heap_lt hg
    by_cases hroom : n + m ≤ cp
    · subst hsize
      have hfit : n * i.size + news.length ≤ cur.size := by rw [hl, hcs, ← Nat.add_mul]; exact Nat.mul_le_mul_right _ hroom
      have hr' := run_append_room (P := P) w t ty e i ht hi b n cp cur hg ad m c news hl hnews h1 hroom hfit
      rw [hr'] at hr
      simp only [Result.ok.injEq, Value.slice.injEq, Option.some.injEq, Addr.mk.injEq] at hr
      have : b = g := hr.1.1.1
      omega
    · subst hsize
      subst hby
      have hsmall : n + m ≤ 9223372036854775807 := by simp only [maxLen] at h63; omega
      have hr' := run_append_grow (P := P) w t ty e i z ht hi hz ⟨b, 0, none⟩ n cp xs hown.1 (hown.cells (g := b) rfl) ad m c news hl hnews (by omega) (by omega) (growslice_fits (by omega) hbytes)
      rw [hr'] at hr
      simp only [Result.ok.injEq] at hr
      refine .inr ⟨h4, ?_⟩
      rw [← hr.2]
      exact ⟨rfl, rfl, rfl, by simp, fun k hk _ => Below.heap_alloc w.drew _ k hk⟩
theorem wp_append_to {o : Oper} {a : Act} {K : Act → World → Prop} {Q : Exit → Act → World → Prop} (s x : Operand) (t : TypeId)
    (ho : o.op = .call { callee := .builtin .append, args := #[s, x], argTypes := #[t, t] })
    (base : Nat) (e : TypeId) (i : TypeInfo) (z : Value) (size bytes : Nat) (ht : P.underlying t = some (.slice e)) (hi : P.info? e = some i) (hz : i.zero = some z)
    (hsize : i.size = size) (hby : i.bytes = bytes) (hzs : z.cells.size = size) (hsz : 0 < size)
    (v : Value) (n : Nat) (xs : List Value) (hs : a.eval s = v) (hown : w.ownsRow base e size v n xs)
    (ad : Addr) (m c : Nat) (news : List Value) (hx : a.eval x = .slice (some ad) m c) (hl : news.length = m * size) (hnews : ∀ j u, news[j]? = some u → w.cell? (ad.add j) = some u) (h1 : ∀ u ∈ news, u.oneCell' = true)
    (hm : 0 < m) (h63 : n + m ≤ maxLen) (hbytes : (n + m) * bytes ≤ 140737488355328) (hbase : base ≤ w.heap.size)
    (h : ∀ g cap w', w'.ownsRow base e size (.slice (some ⟨g, 0, none⟩) (n + m) cap) (n + m) (xs ++ news) → AppTo w w' v g → K (a.put o.dst (.slice (some ⟨g, 0, none⟩) (n + m) cap)) w') : o.wp P a w K Q := by
  obtain ⟨g, cap, w', hr, h2, h3⟩ := run_append_to (P := P) w t o.type base e i z size bytes ht hi hz hsize hby hzs hsz v n xs hown ad m c news hl hnews h1 hm h63 hbytes hbase
  unfold Oper.wp execOp
  simp only [ho, resolve, invoke, builtin, Sem.run_bind, Sem.run_pure, Result.andThen_ok, List.map_toArray, List.map_cons, List.map_nil, hs, hx, hr]
  exact h g cap w' h2 h3
/-- For the walk. -/
theorem wpList_append_to {ops : Array Oper} {rest : List Oper} {o : Oper} {a : Act} {Q : Exit → Act → World → Prop} (hgd : o.guard = none) (s x : Operand) (t : TypeId)
    (ho : o.op = .call { callee := .builtin .append, args := #[s, x], argTypes := #[t, t] })
    (base : Nat) (e : TypeId) (i : TypeInfo) (z : Value) (size bytes : Nat) (ht : P.underlying t = some (.slice e)) (hi : P.info? e = some i) (hz : i.zero = some z)
    (hsize : i.size = size) (hby : i.bytes = bytes) (hzs : z.cells.size = size) (hsz : 0 < size)
    (v : Value) (n : Nat) (xs : List Value) (hs : a.eval s = v) (hown : w.ownsRow base e size v n xs)
    (ad : Addr) (m c : Nat) (news : List Value) (hx : a.eval x = .slice (some ad) m c) (hl : news.length = m * size) (hnews : ∀ j u, news[j]? = some u → w.cell? (ad.add j) = some u) (h1 : ∀ u ∈ news, u.oneCell' = true)
    (hm : 0 < m) (h63 : n + m ≤ maxLen) (hbytes : (n + m) * bytes ≤ 140737488355328) (hbase : base ≤ w.heap.size)
    (h : ∀ g cap w', w'.ownsRow base e size (.slice (some ⟨g, 0, none⟩) (n + m) cap) (n + m) (xs ++ news) → AppTo w w' v g → wpList P ops Q rest (a.put o.dst (.slice (some ⟨g, 0, none⟩) (n + m) cap)) w') :
    wpList P ops Q (o :: rest) a w := by
  refine wpList_plain hgd fun K hK => ?_
  exact wp_append_to w s x t ho base e i z size bytes ht hi hz hsize hby hzs hsz v n xs hs hown ad m c news hx hl hnews h1 hm h63 hbytes hbase (fun g cap w' h2 h3 => hK _ _ (h g cap w' h2 h3))
end
/-- As one step of a region that draws its order. -/
theorem step_append_to {P : Program} {ops : Array Oper} {o : Oper} {a : Act} {w : World} {K : Act → World → Prop} {Q : Exit → Act → World → Prop} {E : Prop}
    (hg : o.guard = none) (s x : Operand) (t : TypeId) (hop : o.op = Op.call { callee := Callee.builtin Builtin.append, args := #[s, x], argTypes := #[t, t] })
    (base : Nat) (e : TypeId) (i : TypeInfo) (z : Value) (size bytes : Nat) (ht : P.underlying t = some (.slice e)) (hi : P.info? e = some i) (hz : i.zero = some z)
    (hsize : i.size = size) (hby : i.bytes = bytes) (hzs : z.cells.size = size) (hsz : 0 < size)
    (v : Value) (n : Nat) (xs : List Value) (hs : a.eval s = v) (hown : w.ownsRow base e size v n xs)
    (ad : Addr) (m c : Nat) (news : List Value) (hx : a.eval x = .slice (some ad) m c) (hl : news.length = m * size) (hnews : ∀ j u, news[j]? = some u → w.cell? (ad.add j) = some u) (h1 : ∀ u ∈ news, u.oneCell' = true)
    (hm : 0 < m) (h63 : n + m ≤ maxLen) (hbytes : (n + m) * bytes ≤ 140737488355328) (hbase : base ≤ w.heap.size)
    (h : ∀ g cap w', w'.ownsRow base e size (.slice (some ⟨g, 0, none⟩) (n + m) cap) (n + m) (xs ++ news) → AppTo w w' v g → K (a.put o.dst (.slice (some ⟨g, 0, none⟩) (n + m) cap)) w') :
    if Region.wanted o (yielded ops a.tmps) = true then Oper.wp P o a w K Q else E := by
  have hw : Region.wanted o (yielded ops a.tmps) = true := by simp [Region.wanted, hg]
  rw [if_pos hw]
  exact wp_append_to w s x t hop base e i z size bytes ht hi hz hsize hby hzs hsz v n xs hs hown ad m c news hx hl hnews h1 hm h63 hbytes hbase h

/-- .. or nothing was appended. -/
def AppAny (w w' : World) (v : Value) (a : Option Addr) : Prop := (w' = w ∧ ∃ n c, v = .slice a n c) ∨ ∃ g, a = some ⟨g, 0, none⟩ ∧ AppTo w w' v g
theorem AppAny.grown {w w' : World} {v : Value} {a : Option Addr} (h : AppAny w w' v a) : w.grownBy w' v.ownBlock := by
  rcases h with ⟨rfl, _⟩ | ⟨g, _, h⟩
  · exact ⟨rfl, rfl, rfl, Nat.le_refl _, fun _ _ _ => rfl⟩
  · exact h.grown
theorem AppAny.block {w w' : World} {v : Value} {a : Option Addr} (h : AppAny w w' v a) {k : Nat} (hk : k < w.heap.size) (hne : v.ownBlock ≠ some k) : w'.heap[k]? = w.heap[k]? := h.grown.block k hk (fun e => hne e.symm)
theorem AppAny.other {w w' : World} {v u : Value} {a : Option Addr} {B e s n : Nat} {xs : List Value} (h : AppAny w w' v a) (ho : w.ownsRow B e s u n xs) (hne : ∀ k, v.ownBlock = some k → u.ownBlock ≠ some k) : w'.ownsRow B e s u n xs :=
  ho.kept h.grown (by
    cases hb : u.ownBlock with
    | none => exact .inl rfl
    | some k => exact .inr (fun e => hne k e.symm hb))
/-- The new row lies where the old one did, or is new. -/
theorem AppAny.where_ {w w' : World} {v : Value} {a : Option Addr} (h : AppAny w w' v a) {m c k : Nat} (hk : (Value.slice a m c).ownBlock = some k) : v.ownBlock = some k ∨ k = w.heap.size := by
  rcases h with ⟨_, n, c', rfl⟩ | ⟨g, rfl, h⟩
  · left; cases a <;> simp_all [Value.ownBlock]
  · simp only [Value.ownBlock, Option.some.injEq] at hk
    subst hk
    rcases h with ⟨h, _⟩ | ⟨h, _⟩
    · exact .inl h
    · exact .inr h
theorem AppAny.apart {w w' : World} {v u : Value} {a : Option Addr} {B e s n m c : Nat} {xs : List Value} (h : AppAny w w' v a) (ho : w.ownsRow B e s u n xs) (hne : ∀ k, v.ownBlock = some k → u.ownBlock ≠ some k) : ∀ k, (Value.slice a m c).ownBlock = some k → u.ownBlock ≠ some k := by
  intro k hk
  rcases h.where_ hk with e | e
  · exact hne k e
  · intro e'
    have := (ho.lt k e').2
    omega
section
variable {P : Program} (w : World)
/-- append(s, l...), whatever l. -/
theorem run_append_any (t ty : TypeId) (base : Nat) (e : TypeId) (i : TypeInfo) (z : Value) (size bytes : Nat) (ht : P.underlying t = some (.slice e)) (hi : P.info? e = some i) (hz : i.zero = some z)
    (hsize : i.size = size) (hby : i.bytes = bytes) (hzs : z.cells.size = size) (hsz : 0 < size)
    (v : Value) (n : Nat) (xs : List Value) (hown : w.ownsRow base e size v n xs)
    (a : Option Addr) (m c : Nat) (news : List Value) (hl : news.length = m * size) (hnews : CellsAt w a news) (h1 : ∀ u ∈ news, u.oneCell' = true)
    (h63 : n + m ≤ maxLen) (hbytes : (n + m) * bytes ≤ 140737488355328) (hbase : base ≤ w.heap.size) :
    ∃ a' cap w', (Builtin.append_ #[t, t] ty #[v, .slice a m c]).run P w = .ok (.slice a' (n + m) cap) w' ∧
      w'.ownsRow base e size (.slice a' (n + m) cap) (n + m) (xs ++ news) ∧ AppAny w w' v a' := by
  by_cases hm : m = 0
  · subst hm
    have : news = [] := List.eq_nil_of_length_eq_zero (by omega)
    subst this
    subst hsize
    have hsrc : Src P i.size t (.slice a 0 c) 0 [] w := by
      cases a with
      | none => exact Src.ofNil w ht c
      | some ad => exact Src.ofSlice w ht ad 0 c [] (by simp) (fun j v h => by simp at h) (by simp)
    rcases hown.2 with ⟨rfl, rfl⟩ | ⟨g, cap, cur, rfl, hb, hg, hc, r⟩
    · exact ⟨none, 0, w, run_append_nothing w t t ty e i ht hi none 0 0 (Nat.le_refl _) _ hsrc, by simpa using hown, .inl ⟨rfl, 0, 0, rfl⟩⟩
    · exact ⟨_, cap, w, run_append_nothing w t t ty e i ht hi (some ⟨g, 0, none⟩) n cap hc _ hsrc, by simpa using hown, .inl ⟨rfl, n, cap, rfl⟩⟩
  · have hpos : 0 < news.length := by rw [hl]; exact Nat.mul_pos (by omega) hsz
    obtain ⟨b, off, ea, _⟩ := hnews 0 news[0] (List.getElem?_eq_getElem hpos)
    subst ea
    obtain ⟨g, cap, w', hr, h2, h3⟩ := run_append_to (P := P) w t ty base e i z size bytes ht hi hz hsize hby hzs hsz v n xs hown ⟨b, off, none⟩ m c news hl (fun j u hj => by
      obtain ⟨b', off', e', _, hc⟩ := hnews j u hj
      cases e'
      have ea : (⟨b, off, none⟩ : Addr).add j = ⟨b, off + j, none⟩ := by unfold Addr.add; split <;> simp_all
      rw [ea]; exact hc) h1 (by omega) h63 hbytes hbase
    exact ⟨_, cap, w', hr, h2, .inr ⟨g, rfl, h3⟩⟩
theorem wp_append_any {o : Oper} {a : Act} {K : Act → World → Prop} {Q : Exit → Act → World → Prop} (s x : Operand) (t : TypeId)
    (ho : o.op = .call { callee := .builtin .append, args := #[s, x], argTypes := #[t, t] })
    (base : Nat) (e : TypeId) (i : TypeInfo) (z : Value) (size bytes : Nat) (ht : P.underlying t = some (.slice e)) (hi : P.info? e = some i) (hz : i.zero = some z)
    (hsize : i.size = size) (hby : i.bytes = bytes) (hzs : z.cells.size = size) (hsz : 0 < size)
    (v : Value) (n : Nat) (xs : List Value) (hs : a.eval s = v) (hown : w.ownsRow base e size v n xs)
    (ad : Option Addr) (m c : Nat) (news : List Value) (hx : a.eval x = .slice ad m c) (hl : news.length = m * size) (hnews : CellsAt w ad news) (h1 : ∀ u ∈ news, u.oneCell' = true)
    (h63 : n + m ≤ maxLen) (hbytes : (n + m) * bytes ≤ 140737488355328) (hbase : base ≤ w.heap.size)
    (h : ∀ a' cap w', w'.ownsRow base e size (.slice a' (n + m) cap) (n + m) (xs ++ news) → AppAny w w' v a' → K (a.put o.dst (.slice a' (n + m) cap)) w') : o.wp P a w K Q := by
  obtain ⟨g, cap, w', hr, h2, h3⟩ := run_append_any (P := P) w t o.type base e i z size bytes ht hi hz hsize hby hzs hsz v n xs hown ad m c news hl hnews h1 h63 hbytes hbase
  unfold Oper.wp execOp
  simp only [ho, resolve, invoke, builtin, Sem.run_bind, Sem.run_pure, Result.andThen_ok, List.map_toArray, List.map_cons, List.map_nil, hs, hx, hr]
  exact h g cap w' h2 h3
/-- For the walk. -/
theorem wpList_append_any {ops : Array Oper} {rest : List Oper} {o : Oper} {a : Act} {Q : Exit → Act → World → Prop} (hgd : o.guard = none) (s x : Operand) (t : TypeId)
    (ho : o.op = .call { callee := .builtin .append, args := #[s, x], argTypes := #[t, t] })
    (base : Nat) (e : TypeId) (i : TypeInfo) (z : Value) (size bytes : Nat) (ht : P.underlying t = some (.slice e)) (hi : P.info? e = some i) (hz : i.zero = some z)
    (hsize : i.size = size) (hby : i.bytes = bytes) (hzs : z.cells.size = size) (hsz : 0 < size)
    (v : Value) (n : Nat) (xs : List Value) (hs : a.eval s = v) (hown : w.ownsRow base e size v n xs)
    (ad : Option Addr) (m c : Nat) (news : List Value) (hx : a.eval x = .slice ad m c) (hl : news.length = m * size) (hnews : CellsAt w ad news) (h1 : ∀ u ∈ news, u.oneCell' = true)
    (h63 : n + m ≤ maxLen) (hbytes : (n + m) * bytes ≤ 140737488355328) (hbase : base ≤ w.heap.size)
    (h : ∀ a' cap w', w'.ownsRow base e size (.slice a' (n + m) cap) (n + m) (xs ++ news) → AppAny w w' v a' → wpList P ops Q rest (a.put o.dst (.slice a' (n + m) cap)) w') :
    wpList P ops Q (o :: rest) a w := by
  refine wpList_plain hgd fun K hK => ?_
  exact wp_append_any w s x t ho base e i z size bytes ht hi hz hsize hby hzs hsz v n xs hs hown ad m c news hx hl hnews h1 h63 hbytes hbase (fun g cap w' h2 h3 => hK _ _ (h g cap w' h2 h3))
end
/-- As one step of a region that draws its order. -/
theorem step_append_any {P : Program} {ops : Array Oper} {o : Oper} {a : Act} {w : World} {K : Act → World → Prop} {Q : Exit → Act → World → Prop} {E : Prop}
    (hg : o.guard = none) (s x : Operand) (t : TypeId) (hop : o.op = Op.call { callee := Callee.builtin Builtin.append, args := #[s, x], argTypes := #[t, t] })
    (base : Nat) (e : TypeId) (i : TypeInfo) (z : Value) (size bytes : Nat) (ht : P.underlying t = some (.slice e)) (hi : P.info? e = some i) (hz : i.zero = some z)
    (hsize : i.size = size) (hby : i.bytes = bytes) (hzs : z.cells.size = size) (hsz : 0 < size)
    (v : Value) (n : Nat) (xs : List Value) (hs : a.eval s = v) (hown : w.ownsRow base e size v n xs)
    (ad : Option Addr) (m c : Nat) (news : List Value) (hx : a.eval x = .slice ad m c) (hl : news.length = m * size) (hnews : CellsAt w ad news) (h1 : ∀ u ∈ news, u.oneCell' = true)
    (h63 : n + m ≤ maxLen) (hbytes : (n + m) * bytes ≤ 140737488355328) (hbase : base ≤ w.heap.size)
    (h : ∀ a' cap w', w'.ownsRow base e size (.slice a' (n + m) cap) (n + m) (xs ++ news) → AppAny w w' v a' → K (a.put o.dst (.slice a' (n + m) cap)) w') :
    if Region.wanted o (yielded ops a.tmps) = true then Oper.wp P o a w K Q else E := by
  have hw : Region.wanted o (yielded ops a.tmps) = true := by simp [Region.wanted, hg]
  rw [if_pos hw]
  exact wp_append_any w s x t hop base e i z size bytes ht hi hz hsize hby hzs hsz v n xs hs hown ad m c news hx hl hnews h1 h63 hbytes hbase h
end Go.Proofs.YtfngdplkcppabaaGreat
namespace Go.Proofs.YtfngdplkcppabaaGreat
open Go.RowKit

theorem within_any (n lo hi : Int) (w : World) :
    Calls Tryz.prog 38 #[.int .i64 n, .int .i64 lo, .int .i64 hi] w fun e w' => e = .returned (.bool (withinB n lo hi)) ∧ w = w' := by
  by_cases h1 : lo ≤ n
  · by_cases h2 : n ≤ hi
    all_goals
      go_enter Tryz.func38, Tryz.ntmps38
      go_wp2
      go_ret
      exact ⟨by simp [withinB, *]; try omega, rfl⟩
  · go_enter Tryz.func38, Tryz.ntmps38
    go_wp2
    go_ret
    exact ⟨by simp [withinB]; omega, rfl⟩

theorem room_any (k : Int) (w : World) :
    Calls Tryz.prog 37 #[.int .i64 k] w fun e w' => e = .returned (.int .i64 (roomI k)) ∧ w = w' := by
  by_cases hk : k = 1 ∨ k = 2 ∨ k = 3 ∨ k = 4 ∨ k = 5
  · rcases hk with rfl | rfl | rfl | rfl | rfl
    all_goals
      go_enter Tryz.func37, Tryz.ntmps37
      go_wp2
      go_ret
      exact ⟨rfl, rfl⟩
  have e : roomI k = -1 := by unfold roomI; rw [if_neg (by omega), if_neg (by omega)]
  have E : Hid (roomI k = -1) := e
  clear e
  have b1 : (k == 1) = false := by rw [beq_eq_false_iff_ne]; omega
  have b2 : (k == 2) = false := by rw [beq_eq_false_iff_ne]; omega
  have b3 : (k == 3) = false := by rw [beq_eq_false_iff_ne]; omega
  have b4 : (k == 4) = false := by rw [beq_eq_false_iff_ne]; omega
  have b5 : (k == 5) = false := by rw [beq_eq_false_iff_ne]; omega
  clear hk
  go_enter Tryz.func37, Tryz.ntmps37
  go_wp2
  go_ret
  exact ⟨by rw [E.out]; rfl, rfl⟩
end Go.Proofs.YtfngdplkcppabaaGreat
