/-
  Nodes among which nothing is wrong but that one of them, g, may be silent (g = 0: none is): what they hear turns nothing but what is known of g. No program in sight.
  Calm nodes: to join, to be pinged, to be answered. No program in sight.
  table.Sorted of a node's table; node.joined: what a Join does.
-/
import Derived.Test.YtfngdplkcppabaaGreatPart11
import Derived.Test.YtfngdplkcppabaaGreatPart13
import Derived.Test.YtfngdplkcppabaaGreatPart08
set_option linter.all false
namespace Go.Proofs.YtfngdplkcppabaaGreat
open Go.RowKit

def CalmK (g n : Int) (k : K) : Prop := k.inc = 1 ∧ (1 ≤ k.id ∧ k.id ≤ n) ∧ 1 ≤ k.st ∧ (k.st = 1 ∨ k.id = g ∧ k.st ≤ 3)
structure Calm (g n j : Int) (x : Nd) : Prop where
  ok : Ok x
  self : x.self = ⟨j, 1, 1⟩
  range : 1 ≤ j ∧ j ≤ n
  ne : j ≠ g
  small : n ≤ 6
  clk : 0 ≤ x.clock
  oth : ∀ m ∈ x.others, CalmK g n m.k
  que : ∀ u ∈ x.queue, CalmK g n u.k
structure CalmM (g n : Int) (m : M) : Prop where
  whole : wholeB m = true
  inc : m.inc = 1
  frm : 1 ≤ m.frm ∧ m.frm ≤ n
  ups : ∀ k ∈ m.ups, CalmK g n k
theorem CalmK.ok {g n : Int} {k : K} (h : CalmK g n k) (hn : n ≤ 6) : keyOk k := by
  obtain ⟨h1, h2, h3, h4⟩ := h
  refine ⟨by omega, by omega, by omega⟩
theorem CalmK.mono {n : Int} {k : K} (h : CalmK 0 n k) (g : Int) : CalmK g n k := by
  obtain ⟨h1, h2, h3, h4⟩ := h
  exact ⟨h1, h2, h3, .inl (by omega)⟩
theorem Calm.mono {n j : Int} {x : Nd} (h : Calm 0 n j x) (g : Int) (hg : j ≠ g) : Calm g n j x :=
  { h with ne := hg, oth := fun m hm => (h.oth m hm).mono g, que := fun u hu => (h.que u hu).mono g }
section
variable {g n j : Int} {x : Nd}
theorem Calm.id (h : Calm g n j x) : x.self.id = j := by rw [h.self]
theorem Calm.few (h : Calm g n j x) : x.others.length < 7 := by
  have := nodup_le (l := ids x.others) (l' := [1, 2, 3, 4, 5, 6]) (h.ok.rise.imp (by intro a b hab; omega)) (fun i hi => by
    obtain ⟨m, hm, rfl⟩ := mem_ids.1 hi
    have := (h.oth m hm).2.1
    have := h.small
    simp only [List.mem_cons, List.not_mem_nil, or_false]
    omega)
  simp only [ids, List.length_map, List.length_cons, List.length_nil] at this
  omega
theorem Calm.changed (h : Calm g n j x) {k : K} (hk : CalmK g n k) : ∀ u ∈ (x.changed k).queue, CalmK g n u.k := by
  intro u hu
  simp only [Nd.changed, List.mem_append, List.mem_filter, List.mem_cons, List.not_mem_nil, or_false] at hu
  rcases hu with ⟨hu, _⟩ | rfl
  · exact h.que u hu
  · exact hk
theorem self_hear {x : Nd} {k : K} (h : k.id ≠ x.self.id) : (x.hear k).self = x.self := by
  unfold Nd.hear
  rw [if_neg h]
  split
  · split <;> rfl
  · split <;> rfl
/-- To hear: what becomes of it. -/
theorem Calm.hear (h : Calm g n j x) {k : K} (hk : CalmK g n k) :
    Calm g n j (x.hear k) ∧ (∀ i ∈ ids x.others, i ∈ ids (x.hear k).others) ∧ (k.id ≠ j → k.id ∈ ids (x.hear k).others) := by
  have hok := h.ok.hear h.clk (hk.ok h.small)
  by_cases hid : k.id = x.self.id
  · have hst : k.st = 1 := by
      rcases hk.2.2.2 with e | ⟨e, _⟩
      · exact e
      · exact absurd (by rw [← e, hid, h.id]) h.ne
    have e : x.hear k = x := by
      unfold Nd.hear Nd.refute
      rw [if_pos hid, if_pos (.inr (.inl hst))]
    rw [e]
    exact ⟨h, fun i hi => hi, fun hne => absurd (by rw [hid, h.id]) hne⟩
  · have htaken : x.hear k = x.taken k → Calm g n j (x.hear k) ∧ (∀ i ∈ ids x.others, i ∈ ids (x.hear k).others) ∧ (k.id ≠ j → k.id ∈ ids (x.hear k).others) := fun e => by
      refine ⟨{ ok := hok, self := by rw [self_hear hid]; exact h.self, range := h.range, ne := h.ne, small := h.small, clk := by rw [(same_hear x k).clock]; exact h.clk, oth := fun m hm => ?_, que := fun u hu => ?_ }, fun i hi => ?_, fun _ => ?_⟩
      · rw [e] at hm
        rcases mem_putM (l := x.others) hm with rfl | hm
        · exact hk
        · exact h.oth m hm
      · rw [e] at hu
        exact h.changed hk u hu
      · rw [e]
        exact (ids_putM _ x.others _).2 (.inr hi)
      · rw [e]
        exact (ids_putM _ x.others _).2 (.inl rfl)
    cases hf : findM x.others k.id with
    | none => exact htaken (by
        have := h.few
        unfold Nd.hear
        rw [if_neg hid, hf]
        simp only
        rw [if_neg (by omega)])
    | some m =>
      by_cases hl : lessK m.k k = true
      · exact htaken (by
          unfold Nd.hear
          rw [if_neg hid, hf]
          simp only
          rw [if_pos hl])
      · have e : x.hear k = x := by
          unfold Nd.hear
          rw [if_neg hid, hf]
          simp only
          rw [if_neg hl]
        rw [e]
        obtain ⟨hm, hme⟩ := findM_some hf
        exact ⟨h, fun i hi => hi, fun _ => mem_ids.2 ⟨m, hm, hme⟩⟩
theorem Calm.hears (l : List K) : ∀ {x : Nd}, Calm g n j x → (∀ k ∈ l, CalmK g n k) →
    Calm g n j (l.foldl Nd.hear x) ∧ (∀ i ∈ ids x.others, i ∈ ids (l.foldl Nd.hear x).others) ∧ (∀ k ∈ l, k.id ≠ j → k.id ∈ ids (l.foldl Nd.hear x).others) := by
  induction l with
  | nil => intro x h _; exact ⟨h, fun i hi => hi, by simp⟩
  | cons k l ih =>
    intro x h hl
    obtain ⟨h1, h2, h3⟩ := h.hear (hl k (by simp))
    obtain ⟨g1, g2, g3⟩ := ih h1 (fun k' hk' => hl k' (by simp [hk']))
    refine ⟨g1, fun i hi => g2 i (h2 i hi), fun k' hk' hne => ?_⟩
    rcases List.mem_cons.1 hk' with rfl | hk'
    · exact g2 _ (h3 hne)
    · exact g3 k' hk' hne
theorem CalmM.fromK {m : M} (hm : CalmM g n m) : CalmK g n ⟨m.frm, m.inc, 1⟩ := ⟨hm.inc, hm.frm, Int.le_refl _, .inl rfl⟩
theorem Calm.heardAll (h : Calm g n j x) {m : M} (hm : CalmM g n m) :
    Calm g n j (x.heardAll m) ∧ (∀ i ∈ ids x.others, i ∈ ids (x.heardAll m).others) ∧ (m.frm ≠ j → m.frm ∈ ids (x.heardAll m).others) ∧ (∀ k ∈ m.ups, k.id ≠ j → k.id ∈ ids (x.heardAll m).others) := by
  obtain ⟨h1, h2, h3⟩ := h.hear hm.fromK
  obtain ⟨g1, g2, g3⟩ := h1.hears m.ups hm.ups
  exact ⟨g1, fun i hi => g2 i (h2 i hi), fun hne => g2 _ (h3 hne), g3⟩
/-- A sending leaves it calm. -/
theorem Calm.sent (h : Calm g n j x) (m : M) : Calm g n j (x.sent m) := by
  have s := sameQ_sent x m
  refine { ok := h.ok.sent m, self := by rw [s.self]; exact h.self, range := h.range, ne := h.ne, small := h.small, clk := by rw [s.clock]; exact h.clk, oth := by rw [s.others]; exact h.oth, que := fun u hu => ?_ }
  unfold Nd.sent at hu
  split at hu
  · simp only [Nd.take, List.mem_append, List.mem_filter, List.mem_map] at hu
    rcases hu with ⟨hu, _⟩ | ⟨⟨v, hv, rfl⟩, _⟩
    · exact h.que u hu
    · exact h.que v (first_mem hv)
  · exact h.que u hu
theorem Calm.lowM (h : Calm g n j x) {kind seq tgt : Int} (hk : kind = 1 ∨ kind = 2 ∨ kind = 3) (hs : 0 ≤ seq ∧ seq ≤ 4294967295) (ht : idOk tgt) (f i : Int) (l : List K) : CalmM g n (x.msg ⟨kind, f, i, seq, tgt, l⟩) := by
  have e : (x.msg ⟨kind, f, i, seq, tgt, l⟩).ups = x.first.map (·.k) := by
    show (if kind < 4 then x.first.map (·.k) else l) = _
    rw [if_pos (by omega)]
  refine ⟨h.ok.low hk hs ht f i l, by show x.self.inc = 1; rw [h.self], by show 1 ≤ x.self.id ∧ x.self.id ≤ n; rw [h.id]; exact h.range, fun k hk => ?_⟩
  rw [e] at hk
  obtain ⟨u, hu, rfl⟩ := List.mem_map.1 hk
  exact h.que u (first_mem hu)
theorem Calm.joinM (h : Calm g n j x) {seq : Int} (hs : 0 ≤ seq ∧ seq ≤ 4294967295) (f i : Int) : CalmM g n (x.msg ⟨4, f, i, seq, 0, []⟩) :=
  ⟨h.ok.high (.inl rfl) hs f i (by simp) (by simp), by show x.self.inc = 1; rw [h.self], by show 1 ≤ x.self.id ∧ x.self.id ≤ n; rw [h.id]; exact h.range, fun k hk => by
    have hk : k ∈ ([] : List K) := hk
    simp at hk⟩
theorem Calm.selfK (h : Calm g n j x) : CalmK g n x.self := by rw [h.self]; exact ⟨rfl, h.range, Int.le_refl _, .inl rfl⟩
theorem Calm.tableM (h : Calm g n j x) {seq : Int} (hs : 0 ≤ seq ∧ seq ≤ 4294967295) (f i : Int) : CalmM g n (x.msg ⟨5, f, i, seq, 0, putK x.self (x.others.map (·.k))⟩) := by
  have hc : ∀ k ∈ putK x.self (x.others.map (·.k)), CalmK g n k := fun k hk => by
    rcases mem_putK.1 hk with rfl | hk
    · exact h.selfK
    · obtain ⟨m, hm, rfl⟩ := List.mem_map.1 hk
      exact h.oth m hm
  refine ⟨h.ok.high (.inr rfl) hs f i (by rw [putK_len, List.length_map]; have := h.few; omega) (fun k hk => (hc k hk).ok h.small), by show x.self.inc = 1; rw [h.self], by show 1 ≤ x.self.id ∧ x.self.id ≤ n; rw [h.id]; exact h.range, fun k hk => ?_⟩
  have hk : k ∈ putK x.self (x.others.map (·.k)) := hk
  exact hc k hk
theorem Calm.next (h : Calm g n j x) : Calm g n j x.next := { h with ok := h.ok.next, self := h.self, clk := h.clk, oth := h.oth, que := h.que }
/-- All the others are known. -/
def Known (n j : Int) (x : Nd) : Prop := ∀ i, 1 ≤ i → i ≤ n → i ≠ j → i ∈ ids x.others
/-- Where all are known: nothing but the silent one's state turns. -/
theorem Calm.hear_known (h : Calm g n j x) (hn : Known n j x) {k : K} (hk : CalmK g n k) :
    x.hear k = x ∨ (k.id = g ∧ (∃ m ∈ x.others, m.k.id = g ∧ m.k.st < k.st) ∧ x.hear k = x.taken k) := by
  by_cases hid : k.id = x.self.id
  · have hst : k.st = 1 := by
      rcases hk.2.2.2 with e | ⟨e, _⟩
      · exact e
      · exact absurd (by rw [← e, hid, h.id]) h.ne
    exact .inl (by unfold Nd.hear Nd.refute; rw [if_pos hid, if_pos (.inr (.inl hst))])
  · have hin := hn k.id hk.2.1.1 hk.2.1.2 (by rw [← h.id]; exact hid)
    cases hf : findM x.others k.id with
    | none => exact absurd hin (findM_none hf)
    | some m =>
      obtain ⟨hm, hme⟩ := findM_some hf
      by_cases hl : lessK m.k k = true
      · refine .inr ?_
        have e : x.hear k = x.taken k := by
          unfold Nd.hear
          rw [if_neg hid, hf]
          simp only
          rw [if_pos hl]
        have hc := h.oth m hm
        have h1 := hc.1
        have h2 := hk.1
        simp only [lessK, decide_eq_true_eq] at hl
        have hlt : m.k.st < k.st := by omega
        rcases hk.2.2.2 with e1 | ⟨e1, _⟩
        · have := hc.2.2.1; omega
        · exact ⟨e1, ⟨m, hm, by rw [hme, e1], hlt⟩, e⟩
      · exact .inl (by
          unfold Nd.hear
          rw [if_neg hid, hf]
          simp only
          rw [if_neg hl])
theorem Calm.known_len (h : Calm g n j x) (hn : Known n j x) : ((x.others.length : Nat) : Int) = n - 1 := by
  have hs := h.small
  have hr := h.range
  have hnd : (j :: ids x.others).Nodup := by
    rw [List.nodup_cons]
    refine ⟨fun hj => ?_, h.ok.rise.imp (by intro a b hab; omega)⟩
    obtain ⟨m, hm, e⟩ := mem_ids.1 hj
    exact h.ok.notSelf m hm (by rw [h.id]; exact e)
  have h1 := nodup_le (l := j :: ids x.others) (l' := (List.range n.toNat).map (fun i : Nat => (i : Int) + 1)) hnd (fun i hi => by
    have hi' : 1 ≤ i ∧ i ≤ n := by
      rcases List.mem_cons.1 hi with rfl | hi
      · exact hr
      · obtain ⟨m, hm, rfl⟩ := mem_ids.1 hi
        exact (h.oth m hm).2.1
    exact List.mem_map.2 ⟨(i - 1).toNat, by rw [List.mem_range]; omega, by omega⟩)
  have h2 := nodup_le (l := (List.range n.toNat).map (fun i : Nat => (i : Int) + 1)) (l' := j :: ids x.others) (by
    refine List.pairwise_map.2 (List.Pairwise.imp ?_ (List.nodup_range (n := n.toNat)))
    intro a b hab
    omega) (fun i hi => by
    obtain ⟨a, ha, rfl⟩ := List.mem_map.1 hi
    rw [List.mem_range] at ha
    by_cases e : (a : Int) + 1 = j
    · rw [e]; simp
    · exact List.mem_cons_of_mem _ (hn _ (by omega) (by omega) e))
  simp only [List.length_cons, ids, List.length_map, List.length_range] at h1 h2
  omega
end
end Go.Proofs.YtfngdplkcppabaaGreat
namespace Go.Proofs.YtfngdplkcppabaaGreat
open Go.RowKit

theorem pass_hear {x : Nd} (h : x.pass = []) (k : K) : (x.hear k).pass = [] := by
  have ht : (x.taken k).pass = [] := by
    show (if k.st ≤ 2 then x.pass else x.pass.filter (fun n => n != k.id)) = []
    rw [h]; split <;> rfl
  unfold Nd.hear
  split
  · unfold Nd.refute; split <;> exact h
  · split
    · split
      · exact h
      · exact ht
    · split
      · exact ht
      · exact h
theorem pass_hears (l : List K) : ∀ {x : Nd}, x.pass = [] → (l.foldl Nd.hear x).pass = [] := by
  induction l with
  | nil => intro x h; exact h
  | cons k l ih => intro x h; exact ih (pass_hear h k)
theorem same_heardAll (x : Nd) (m : M) : Same x (x.heardAll m) := (same_hear x _).trans (same_hears _ _)
/-- Made; there was no tick yet. -/
structure Young (n j : Int) (x : Nd) : Prop where
  calm : Calm 0 n j x
  probe : x.probe = none
  pass : x.pass = []
  relays : x.relays = []
  clock : x.clock = 0
  dropped : x.dropped = 0
theorem Young.next {n j : Int} {x : Nd} (h : Young n j x) : Young n j x.next := ⟨h.calm.next, h.probe, h.pass, h.relays, h.clock, h.dropped⟩
theorem Young.heardAll {n j : Int} {x : Nd} (h : Young n j x) {m : M} (hm : CalmM 0 n m) : Young n j (x.heardAll m) := by
  have s := same_heardAll x m
  exact ⟨(h.calm.heardAll hm).1, s.probe.trans h.probe, pass_hears _ (pass_hear h.pass _), s.relays.trans h.relays, s.clock.trans h.clock, s.dropped.trans h.dropped⟩
theorem young_new {c : Cfg} (hc : cfgB c = true) (ds : List Int) {n : Int} (hn : c.self ≤ n) (h6 : n ≤ 6) : Young n c.self (Nd.new c ds) := by
  have h := cfg_bounds hc
  refine ⟨{ ok := ok_new hc ds, self := rfl, range := ⟨h.1.1, hn⟩, ne := by omega, small := h6, clk := by simp [Nd.new], oth := by simp [Nd.new], que := by simp [Nd.new] }, rfl, rfl, rfl, rfl, rfl⟩
section
variable {g n j i : Int} {x y : Nd}
/-- The joining one's message. -/
theorem join_calm (h : Calm g n j x) (hi : 1 ≤ i ∧ i ≤ n) (hne : i ≠ j) : x.join i = ([(i, x.next.msg ⟨4, 0, 0, x.seq + 1, 0, []⟩)], 0, x.next) := by
  have hs := h.small
  unfold Nd.join
  rw [if_neg (by rw [h.self]; simp), if_neg (by rw [h.id]; omega)]
theorem receive_some {m : M} (hne : m.frm ≠ x.self.id) : x.receive (some m) = (x.heardAll m).answer m := by
  unfold Nd.receive
  simp only
  rw [if_neg hne]
/-- A Join is answered. -/
theorem receive_join (h : Calm g n j x) {m : M} (hm : CalmM g n m) (hk : m.kind = 4) (hne : m.frm ≠ j) :
    ∃ a, x.receive (some m) = ([(m.frm, a)], x.heardAll m) ∧ CalmM g n a ∧ a.kind = 5 ∧ a.frm = j := by
  have hc := (h.heardAll hm).1
  refine ⟨(x.heardAll m).msg ⟨5, 0, 0, m.seq, 0, putK (x.heardAll m).self ((x.heardAll m).others.map (·.k))⟩, ?_, ?_, rfl, hc.id⟩
  · rw [receive_some (by rw [h.id]; exact hne)]
    unfold Nd.answer
    rw [if_neg (by omega), if_neg (by omega), if_neg (by omega), if_pos hk]
    rfl
  · exact hc.tableM (mok_of hm.whole).seq 0 0
/-- A Table is heard. -/
theorem receive_table (h : Calm g n j x) {m : M} (hk : m.kind = 5) (hne : m.frm ≠ j) : x.receive (some m) = ([], x.heardAll m) := by
  rw [receive_some (by rw [h.id]; exact hne)]
  unfold Nd.answer
  rw [if_neg (by omega), if_neg (by omega), if_neg (by omega), if_neg (by omega)]
/-- Node j joins node i: both know each other then. -/
theorem exchange (hx : Young n j x) (hy : Young n i y) (hne : i ≠ j) (hs : 0 ≤ x.seq ∧ x.seq < 4294967295) :
    ∃ m a y' x', x.join i = ([(i, m)], 0, x.next) ∧ wholeB m = true ∧ y.receive (some m) = ([(j, a)], y') ∧ wholeB a = true ∧ x.next.receive (some a) = ([], x') ∧
      Young n j x' ∧ Young n i y' ∧ (∀ l ∈ ids x.others, l ∈ ids x'.others) ∧ (∀ l ∈ ids y.others, l ∈ ids y'.others) ∧ i ∈ ids x'.others ∧ j ∈ ids y'.others ∧
      x'.c = x.c ∧ y'.c = y.c ∧ x'.ds = x.ds ∧ y'.ds = y.ds ∧ CalmM 0 n m ∧ CalmM 0 n a := by
  have hm : CalmM 0 n (x.next.msg ⟨4, 0, 0, x.seq + 1, 0, []⟩) := hx.next.calm.joinM (by omega) 0 0
  have hf : (x.next.msg ⟨4, 0, 0, x.seq + 1, 0, []⟩).frm = j := hx.calm.id
  obtain ⟨a, ha, hca, hka, hfa⟩ := receive_join hy.calm hm rfl (by rw [hf]; exact fun e => hne e.symm)
  rw [hf] at ha
  have hx1 := hx.next.heardAll hca
  have hh := hx.next.calm.heardAll hca
  have hh' := hy.calm.heardAll hm
  have s1 := same_heardAll x.next a
  have s2 := same_heardAll y (x.next.msg ⟨4, 0, 0, x.seq + 1, 0, []⟩)
  refine ⟨_, a, _, _, join_calm hx.calm hy.calm.range hne, hm.whole, ha, hca.whole, receive_table hx.next.calm hka (by rw [hfa]; exact hne), hx1, hy.heardAll hm, hh.2.1, hh'.2.1, ?_, ?_, s1.c, s2.c, s1.ds, s2.ds, hm, hca⟩
  · have := hh.2.2.1 (by rw [hfa]; exact hne)
    rw [hfa] at this; exact this
  · have := hh'.2.2.1 (by rw [hf]; exact fun e => hne e.symm)
    rw [hf] at this; exact this
/-- A Ping is answered. -/
theorem receive_ping (h : Calm g n j x) {m : M} (hm : CalmM g n m) (hk : m.kind = 1) (ht : m.tgt = j) (hne : m.frm ≠ j) :
    ∃ a, x.receive (some m) = ([(m.frm, a)], (x.heardAll m).sent ⟨2, 0, 0, m.seq, m.tgt, []⟩) ∧ CalmM g n a ∧ a.kind = 2 ∧ a.frm = j ∧ a.seq = m.seq ∧ a.tgt = j := by
  have hc := (h.heardAll hm).1
  have hk' := mok_of hm.whole
  refine ⟨(x.heardAll m).msg ⟨2, 0, 0, m.seq, m.tgt, []⟩, ?_, hc.lowM (.inr (.inl rfl)) hk'.seq (hk'.tgt (.inl hk)) 0 0 [], rfl, hc.id, rfl, ht⟩
  rw [receive_some (by rw [h.id]; exact hne)]
  unfold Nd.answer Nd.pinged
  rw [if_pos hk, if_pos (by rw [hc.id]; exact ht)]
/-- An Ack comes. -/
theorem receive_ack (h : Calm g n j x) {m : M} (hk : m.kind = 2) (hne : m.frm ≠ j) (hr : x.relays = []) :
    x.receive (some m) = ([], { x.heardAll m with probe := ackProbe x.probe m }) := by
  have s := same_heardAll x m
  rw [receive_some (by rw [h.id]; exact hne)]
  unfold Nd.answer Nd.acked
  rw [if_neg (by omega), if_pos hk]
  simp only
  rw [s.relays, hr, s.probe]
  rfl
/-- An Ask for the silent one: whoever is told of it, it is the silent one alone. -/
theorem receive_ask (h : Calm g n j x) (hs : 0 ≤ x.seq ∧ x.seq < 4294967295) {m : M} (hm : CalmM g n m) (hk : m.kind = 3) (ht : m.tgt = g) (hne : m.frm ≠ j) :
    Calm g n j (x.receive (some m)).2 ∧ ∀ p ∈ (x.receive (some m)).1, p.1 = g ∧ CalmM g n p.2 := by
  have hc := (h.heardAll hm).1
  have hm' := mok_of hm.whole
  have s := same_heardAll x m
  rw [receive_some (by rw [h.id]; exact hne)]
  unfold Nd.answer Nd.asked
  rw [if_neg (by omega), if_neg (by omega), if_pos hk, if_neg (by rw [hc.id, ht]; exact fun e => h.ne e.symm)]
  split
  · exact ⟨hc, by simp⟩
  · rename_i hl
    simp only
    generalize x.heardAll m = z at hc s hl
    have hc0 := cfg_bounds hc.ok.cfg
    have hcl := hc.clk
    have h1 : Calm g n j { z.next with relays := z.relays ++ [⟨z.seq + 1, m.tgt, m.frm, m.seq, z.clock + z.c.period⟩] } := by
      refine { hc.next with ok := { hc.next.ok with rnd := ?_, rlen := ?_, rok := ?_ }, self := hc.self, clk := hc.clk, oth := hc.oth, que := hc.que }
      · show (rids (z.relays ++ [_])).Nodup
        simp only [rids, List.map_append, List.map_cons, List.map_nil]
        rw [List.nodup_append]
        refine ⟨hc.ok.rnd, by simp, fun a ha b hb' hab => ?_⟩
        obtain ⟨r, hr, rfl⟩ := List.mem_map.1 ha
        have := (hc.ok.rok r hr).1
        simp only [List.mem_singleton] at hb'
        omega
      · show (z.relays ++ [_]).length ≤ 4
        have := hc.ok.rlen
        rw [List.length_append, List.length_singleton]; omega
      · intro r hr
        have hr : r ∈ z.relays ++ [⟨z.seq + 1, m.tgt, m.frm, m.seq, z.clock + z.c.period⟩] := hr
        rcases List.mem_append.1 hr with hr | hr
        · exact hc.next.ok.rok r hr
        · rw [List.mem_singleton] at hr
          subst hr
          exact ⟨⟨by show 1 ≤ z.seq + 1; rw [s.seq]; omega, Int.le_refl _⟩, hm'.tgt (.inr (.inr hk)), hm'.frm, hm'.seq, by show 0 ≤ z.clock + z.c.period; omega, by show z.clock + z.c.period ≤ z.clock + 50; omega⟩
    refine ⟨h1.sent _, fun p hp => ?_⟩
    rw [List.mem_singleton] at hp
    subst hp
    exact ⟨ht, h1.lowM (.inl rfl) (by rw [s.seq]; omega) (hm'.tgt (.inr (.inr hk))) 0 0 []⟩
/-- Who is asked. -/
theorem askAll_calm (p : Prb) (hp : idOk p.tgt ∧ 0 ≤ p.seq ∧ p.seq ≤ 4294967295) : ∀ (c : Nat) (l : List Int) {x : Nd}, Calm g n j x → (∀ q ∈ l, idOk q) →
    Calm g n j (Nd.askAll p c l x).2 ∧ (∃ k q, (Nd.askAll p c l x).2 = { x with at_ := k, queue := q }) ∧ ∀ q ∈ (Nd.askAll p c l x).1, q.1 ∈ l ∧ CalmM g n q.2 ∧ q.2.kind = 3 ∧ q.2.tgt = p.tgt ∧ q.2.frm = j := by
  intro c
  induction c with
  | zero => intro l x h _; exact ⟨h, ⟨x.at_, x.queue, rfl⟩, by simp [Nd.askAll]⟩
  | succ c ih =>
    intro l x h hl
    unfold Nd.askAll
    split
    · exact ⟨h, ⟨x.at_, x.queue, rfl⟩, by simp⟩
    · rename_i hne
      simp only
      have hlen : 0 < l.length := List.length_pos_iff.2 hne
      obtain ⟨d0, d1⟩ := draw_range x (n := (l.length : Int)) (by omega)
      have hd : (x.draw l.length).1.toNat < l.length := by omega
      obtain ⟨k0, hk0⟩ := draw_eq x (l.length : Int)
      have hy : Calm g n j (x.draw l.length).2 := by
        have := ok_draw h.ok (l.length : Int)
        rw [hk0] at this ⊢
        exact { h with ok := this, self := h.self, clk := h.clk, oth := h.oth, que := h.que }
      obtain ⟨r1, ⟨k1, q1, r2⟩, r3⟩ := ih (l.eraseIdx (x.draw l.length).1.toNat) (hy.sent ⟨3, 0, 0, p.seq, p.tgt, []⟩) (fun q hq => hl q (List.mem_of_mem_eraseIdx hq))
      refine ⟨r1, ⟨k1, q1, ?_⟩, fun q hq => ?_⟩
      · rw [r2]
        have : (x.draw l.length).2.sent ⟨3, 0, 0, p.seq, p.tgt, []⟩ = (x.draw l.length).2.take := rfl
        rw [this, hk0]; rfl
      · rcases List.mem_cons.1 hq with rfl | hq
        · refine ⟨by rw [List.getD_eq_getElem?_getD, List.getElem?_eq_getElem hd]; exact List.getElem_mem hd, hy.lowM (.inr (.inr rfl)) hp.2 hp.1 0 0 [], rfl, rfl, hy.id⟩
        · obtain ⟨a, b⟩ := r3 q hq
          exact ⟨List.mem_of_mem_eraseIdx a, b⟩
theorem rise_inj {l : List Mem} (h : Rise (ids l)) {a b : Mem} (ha : a ∈ l) (hb : b ∈ l) (e : a.k.id = b.k.id) : a = b := by
  induction l with
  | nil => simp at ha
  | cons c r ih =>
    have h1 : ∀ i ∈ ids r, c.k.id < i := fun i hi => (List.pairwise_cons.1 h).1 i hi
    rcases List.mem_cons.1 ha with ea | ha1
    · rcases List.mem_cons.1 hb with eb | hb1
      · rw [ea, eb]
      · have := h1 _ (mem_ids.2 ⟨b, hb1, rfl⟩); rw [ea] at e; omega
    · rcases List.mem_cons.1 hb with eb | hb1
      · have := h1 _ (mem_ids.2 ⟨a, ha1, rfl⟩); rw [eb] at e; omega
      · exact ih (List.pairwise_cons.1 h).2 ha1 hb1
end
end Go.Proofs.YtfngdplkcppabaaGreat
namespace Go.Proofs.YtfngdplkcppabaaGreat
open Go.RowKit

/-- A predicate on members, by ids. -/
def byId (l : List Mem) (p : Mem → Bool) (i : Int) : Bool := match findM l i with
  | some m => p m
  | none => false
theorem findM_self {l : List Mem} (h : Rise (ids l)) {m : Mem} (hm : m ∈ l) : findM l m.k.id = some m := by
  cases hf : findM l m.k.id with
  | none => exact absurd (mem_ids.2 ⟨m, hm, rfl⟩) (findM_none hf)
  | some m' =>
    obtain ⟨h1, h2⟩ := findM_some hf
    rw [rise_inj h h1 hm h2]
theorem byId_self {l : List Mem} (h : Rise (ids l)) (p : Mem → Bool) {m : Mem} (hm : m ∈ l) : byId l p m.k.id = p m := by
  unfold byId; rw [findM_self h hm]
theorem filter_byId {l : List Mem} (h : Rise (ids l)) (p : Mem → Bool) : (ids l).filter (byId l p) = ids (l.filter p) := by
  unfold ids
  rw [List.filter_map]
  congr 1
  refine List.filter_congr (fun m hm => ?_)
  exact byId_self h p hm
theorem sortedN_any {x : Nd} (ho : Ok x) (a : Ad) (ov : Value) (W : World) (hN : NodeAt W a ov x) (p : Mem → Bool) (g : Nat) (cb : Array Value) (eg : ∀ args w, (callFunc g args).run Tryz.prog w = .ok (.enter g args) w)
    (h : ∀ m ∈ x.others, ∀ W', Below W.heap.size W W' → Calls Tryz.prog g (#[.pointer (some ⟨a.mem m.k.id, 0, none⟩)] ++ cb) W' fun e W'' => e = .returned (.bool (p m)) ∧ ∃ q, W'' = W'.drewN q) :
    Calls Tryz.prog 27 #[.map (some a.bo), .func (.func g) #[] cb] W fun e w' =>
      ∃ v, e = .returned v ∧ Ptrs w' v a.mem (x.others.filter p) ∧ Below W.heap.size W w' := by
  have hM : MapAt Tryz.prog 3 W a.bo ((ids x.others).map (fun i => (i, encT (a.mem i)))) := by
    have := hN.others
    rw [mPairs_ids] at this
    exact this
  refine (tsorted_any (ids x.others) a.mem (byId x.others p) a.bo g cb W ho.rise (by simp only [ids, List.length_map]; have := ho.len; omega) hM (fun i hi => by
    obtain ⟨m, hm, rfl⟩ := mem_ids.1 hi
    rw [cells_at (hN.mems m hm)]; rfl) eg (fun i hi W' hW => by
    obtain ⟨m, hm, rfl⟩ := mem_ids.1 hi
    rw [byId_self ho.rise p hm]
    exact h m hm W' hW)).mono ?_
  rintro e w' ⟨v, rfl, hrow, hb⟩
  rw [filter_byId ho.rise] at hrow
  refine ⟨v, rfl, ⟨W.heap.size, ?_⟩, hb⟩
  have e1 : (ids (x.others.filter p)).length = (x.others.filter p).length := by simp [ids]
  have e2 : (ids (x.others.filter p)).map (fun i => encT (a.mem i)) = (x.others.filter p).map (fun m => encT (a.mem m.k.id)) := by simp [ids]
  rw [e1, e2] at hrow
  exact hrow
theorem eg_all : ∀ args w, (callFunc 28 args).run Tryz.prog w = .ok (.enter 28 args) w := enters_of Tryz.func28 (by kernel_rfl) rfl
theorem eg_here : ∀ args w, (callFunc 43 args).run Tryz.prog w = .ok (.enter 43 args) w := enters_of Tryz.func43 (by kernel_rfl) rfl
theorem sortedAll_any {x : Nd} (ho : Ok x) (a : Ad) (ov : Value) (W : World) (hN : NodeAt W a ov x) :
    Calls Tryz.prog 27 #[.map (some a.bo), .func (.func 28) #[] #[]] W fun e w' => ∃ v, e = .returned v ∧ Ptrs w' v a.mem x.others ∧ Below W.heap.size W w' := by
  have := sortedN_any ho a ov W hN (fun _ => true) 28 #[] eg_all (fun m hm W' hW => (all_any (a.mem m.k.id) W').mono (fun e w' h => ⟨h.1, 0, h.2⟩))
  rw [List.filter_eq_self.2 (fun _ _ => rfl)] at this
  exact this
theorem sortedHere_any {x : Nd} (ho : Ok x) (a : Ad) (ov : Value) (W : World) (hN : NodeAt W a ov x) :
    Calls Tryz.prog 27 #[.map (some a.bo), .func (.func 43) #[] #[]] W fun e w' => ∃ v, e = .returned v ∧ Ptrs w' v a.mem (x.others.filter here) ∧ Below W.heap.size W w' :=
  sortedN_any ho a ov W hN here 43 #[] eg_here (fun m hm W' hW => (here_any (a.mem m.k.id) m.k.st W' (by
    have h1 := hN.mems m hm
    rw [cells_at ((hW.block _ (heap_lt h1)).trans h1)]; rfl)).mono (fun e w' h => ⟨h.1, 0, h.2⟩))
theorem NodeAt.memsAt {W W' : World} {a : Ad} {ov : Value} {x : Nd} (h : NodeAt W a ov x) (hb : Below W.heap.size W W') {l : List Mem} (hl : ∀ m ∈ l, m ∈ x.others) : MemsAt W' a.mem l :=
  fun m hm => (hb.block _ (heap_lt (h.mems m (hl m hm)))).trans (h.mems m (hl m hm))
/-- What all know: node's table's keys, and what holds of each world in which they are made. -/
theorem keysN_any {x : Nd} (ho : Ok x) (a : Ad) (ov : Value) (W W' : World) (hN : NodeAt W a ov x) (hb : Below W.heap.size W W') (v : Value) (hP : Ptrs W' v a.mem x.others) :
    Calls Tryz.prog 26 #[v, .func (.func 29) #[] #[]] W' fun e w' =>
      ∃ v', e = .returned v' ∧ w'.ownsRow W'.heap.size 31 3 v' x.others.length (keyCells (x.others.map (·.k))) ∧ Below W'.heap.size W' w' :=
  mapK_any a.mem x.others v W' hP (hN.memsAt hb (fun _ h => h)) (by have := ho.len; omega)

theorem Ptrs.alloc {w : World} {v : Value} {mem : Int → Nat} {l : List Mem} (h : Ptrs w v mem l) (o : Obj) : Ptrs (w.alloc o) v mem l := by obtain ⟨B, h⟩ := h; exact ⟨B, World.ownsRow.alloc h o⟩
theorem cells_later {L : List Value} {n : Nat} {W W' : World} (h : ∀ j u, L[j]? = some u → W.cell? ((⟨n, 0, none⟩ : Addr).add j) = some u) (hb : Below W.heap.size W W') (hn : n < W.heap.size) : ∀ j u, L[j]? = some u → W'.cell? ((⟨n, 0, none⟩ : Addr).add j) = some u := fun j u hj => by
  have e : ((⟨n, 0, none⟩ : Addr).add j).block = n := by unfold Addr.add; split <;> rfl
  rw [hb.cell (by rw [e]; exact hn)]
  exact h j u hj
theorem St.below {B : Nat} {w w' w'' : World} {a a' : Ad} {x x' : Nd} {ov : Value} {ps : List Pk} (h : St B w a x w' a' x' ov ps) (hb : Below w'.heap.size w' w'') : St B w a x w'' a' x' ov ps :=
  ⟨h.node.below hb, own_under h.out hb, h.chg.trans (chg_of_below hb), h.own, h.b⟩
set_option maxRecDepth 100000 in
set_option maxHeartbeats 4000000 in
theorem joined_any {x : Nd} (ho : Ok x) (a : Ad) (ov : Value) (B : Nat) (ps : List Pk) (w : World) (h : NodeAt w a ov x) (hout : OutRow w B ov ps) (hB : B ≤ w.heap.size) (hps : ps.length < 1000) (m : M) (ma : Option Addr) (mn mc : Nat) :
    Calls Tryz.prog 72 #[.pointer (some ⟨a.b, 0, none⟩), m.agg (.slice ma mn mc)] w (Does B w a x ps (x.joined m)) := by
  obtain ⟨kind, frm, inc, seq, tgt, ups⟩ := m
  obtain ⟨w1, hw1⟩ : ∃ w1, w.alloc (.cells #[.int .i64 kind, .int .i64 frm, .int .i64 inc, .int .i64 seq, .int .i64 tgt, .slice ma mn mc] 29) = w1 := ⟨_, rfl⟩
  have T := (St.refl h hout).alloc (.cells #[.int .i64 kind, .int .i64 frm, .int .i64 inc, .int .i64 seq, .int .i64 tgt, .slice ma mn mc] 29)
  rw [hw1] at T
  have hs1 : w.heap.size < w1.heap.size := by rw [← hw1]; simp
  have hx1 : w1.heap[w.heap.size]? = some (.cells #[.int .i64 kind, .int .i64 frm, .int .i64 inc, .int .i64 seq, .int .i64 tgt, .slice ma mn mc] 29 (0, 0)) := by rw [← hw1]; exact heap_alloc_eq w _
  have hlen := ho.len
  have c10 : w1.cell? ⟨a.b, 10, none⟩ = some (.map (some a.bo)) := T.node.blk.cell (by omega)
  have c7 : w1.cell? ⟨a.b, 7, none⟩ = some (.int .i64 x.self.id) := T.node.blk.cell (by omega)
  have c8 : w1.cell? ⟨a.b, 8, none⟩ = some (.int .i64 x.self.inc) := T.node.blk.cell (by omega)
  have c9 : w1.cell? ⟨a.b, 9, none⟩ = some (.int .i64 x.self.st) := T.node.blk.cell (by omega)
  have c10a : ∀ o, (w1.alloc o).cell? ⟨a.b, 10, none⟩ = some (.map (some a.bo)) := fun o => ((T.alloc o).node).blk.cell (by omega)
  have HT := Lib.hid T
  have HW1 := Lib.hid hw1
  have HX1 := Lib.hid hx1
  have HO := Lib.hid ho
  have hlt := heap_lt hx1
  have hab := h.blk.lt
  clear T hw1 hx1 h hout ho
  obtain ⟨i0, hi, hz0, hz1, hz2⟩ := info_parts info_key
  unfold M.agg
  go_enter Tryz.func72, Tryz.ntmps72
  go_wp2
  rw [HW1.out]
  have HOKS : Hid (∀ k ∈ (x.others.map (·.k)) ++ [x.self], idOk k.id) := Lib.hid (fun k hk => by
    rcases List.mem_append.1 hk with hk | hk
    · obtain ⟨m, hm, rfl⟩ := List.mem_map.1 hk
      exact (HO.out.key m hm).1
    · rw [List.mem_singleton] at hk; subst hk; exact HO.out.self.1)
  have hrs : ((x.others.map (·.k)).map (·.id)).Pairwise (· < ·) := by
    have := HO.out.rise
    unfold Rise ids at this
    rw [List.map_map]; exact this
  have hni : x.self.id ∉ (x.others.map (·.k)).map (·.id) := fun hin => by
    rw [List.map_map] at hin
    obtain ⟨m, hm, e⟩ := List.mem_map.1 hin
    exact HO.out.notSelf m hm e
  have HNDS : Hid ((((x.others.map (·.k)) ++ [x.self]).map (·.id)).Nodup) := Lib.hid (by
    rw [List.map_append, List.nodup_append]
    exact ⟨hrs.imp (by intro a b hab; omega), by simp, fun a ha b hb hab => by
      simp only [List.map_cons, List.map_nil, List.mem_singleton] at hb
      exact hni (by rw [← hb, ← hab]; exact ha)⟩)
  have HSRT := Lib.hid (sort_putK x.self hrs hni)
  clear hrs hni
  have K3 := Lib.hid (show x.others.length + 1 ≤ maxLen by unfold maxLen; omega)
  go_region_law (first
    | (refine step_append_to rfl _ _ _ rfl w1.heap.size 31 i0 _ 3 24 Tryz.underlying27 hi hz0 hz1 hz2 rfl (by decide) (.slice ka x.others.length kc) x.others.length _ rfl (World.ownsRow.alloc HR26.out _) ⟨w26.heap.size, 0, none⟩ 1 1 _ rfl rfl (cells_new w26 [.int .i64 x.self.id, .int .i64 x.self.inc, .int .i64 x.self.st] 31 rfl) (by simp [Value.oneCell']) (by omega) K3.out (by omega) (by have := HZ26.out; simp; omega) ?_; intro gg gc w9 hl9 hto9
       have HL9 := Lib.hid hl9
       have HB9 := Lib.hid ((HB26.out.alloc HZ26.out _).grown hto9.grown (by have := HZ26.out; simp; omega) (fun j e => (HR26.out.lt j e).1))
       clear hl9 hto9)
    | (refine step_append_to rfl _ _ _ rfl w1.heap.size 31 i0 _ 3 24 Tryz.underlying27 hi hz0 hz1 hz2 rfl (by decide) (.slice ka x.others.length kc) x.others.length _ rfl HR26.out ⟨w27.heap.size, 0, none⟩ 1 1 _ rfl rfl (cells_later (cells_new w27 [.int .i64 x.self.id, .int .i64 x.self.inc, .int .i64 x.self.st] 31 rfl) Hb26.out (by simp)) (by simp [Value.oneCell']) (by omega) K3.out (by omega) HZ26.out ?_; intro gg gc w9 hl9 hto9
       have HL9 := Lib.hid hl9
       have HB9 := Lib.hid (HB26.out.grown hto9.grown HZ26.out (fun j e => (HR26.out.lt j e).1))
       clear hl9 hto9)
    | (refine step_append_to rfl _ _ _ rfl w1.heap.size 31 i0 _ 3 24 Tryz.underlying27 hi hz0 hz1 hz2 rfl (by decide) (.slice ka x.others.length kc) x.others.length _ rfl HR26.out ⟨w1.heap.size, 0, none⟩ 1 1 _ rfl rfl (cells_later (cells_later (W := (w1.alloc (.cells #[.int .i64 x.self.id, .int .i64 x.self.inc, .int .i64 x.self.st] 31)).drew) (cells_new w1 [.int .i64 x.self.id, .int .i64 x.self.inc, .int .i64 x.self.st] 31 rfl) Hb27.out (by show w1.heap.size < (w1.alloc _).heap.size; simp)) Hb26.out (by have h : (w1.alloc (.cells #[.int .i64 x.self.id, .int .i64 x.self.inc, .int .i64 x.self.st] 31)).heap.size ≤ w27.heap.size := HZ27.out; rw [World.size_alloc] at h; omega)) (by simp [Value.oneCell']) (by omega) K3.out (by omega) HZ26.out ?_; intro gg gc w9 hl9 hto9
       have HL9 := Lib.hid hl9
       have HB9 := Lib.hid (HB26.out.grown hto9.grown HZ26.out (fun j e => (HR26.out.lt j e).1))
       clear hl9 hto9)
    | (go_simp; go_at_call 27; refine (sortedAll_any HO.out a ov _ (by first | exact (HT.out.drewN 1).node | exact ((HT.out.alloc _).drewN 1).node)).mono ?_; rintro e w27 ⟨v27, rfl, hP27, hb27⟩
       have hB27 : Below w1.heap.size w1 w27 := by first | exact ((Below.refl w1.heap.size w1).drew).trans hb27 | exact (((Below.refl w1.heap.size w1).alloc (Nat.le_refl _) _).drew).trans (hb27.mono (by simp))
       have qw277 : w27.cell? ⟨a.b, 7, none⟩ = some (.int .i64 x.self.id) := (HT.out.node.below hB27).blk.cell (by omega)
       have qw278 : w27.cell? ⟨a.b, 8, none⟩ = some (.int .i64 x.self.inc) := (HT.out.node.below hB27).blk.cell (by omega)
       have qw279 : w27.cell? ⟨a.b, 9, none⟩ = some (.int .i64 x.self.st) := (HT.out.node.below hB27).blk.cell (by omega)
       have HZ27 := Lib.hid hb27.size
       have HB27 := Lib.hid hB27
       have HP27 := Lib.hid hP27
       have Hb27 := Lib.hid hb27
       clear hB27 hP27 hb27)
    | (go_simp; go_at_call 26; refine (keysN_any HO.out a ov w1 _ HT.out.node (by first | exact HB27.out | exact HB27.out.alloc HB27.out.size _) v27 (by first | exact HP27.out | exact HP27.out.alloc _)).mono ?_; rintro e w26 ⟨v26, rfl, hrow26, hb26⟩
       obtain ⟨ka, kc, rfl⟩ := ownsRow_sl hrow26
       have hB26 : Below w1.heap.size w1 w26 := by first | exact HB27.out.trans (hb26.mono HB27.out.size) | exact (HB27.out.alloc HB27.out.size _).trans (hb26.mono (by have := HB27.out.size; simp; omega))
       have hr26 := own_below (B' := w1.heap.size) hrow26 (by have := HB27.out.size; simp; try omega)
       have qw267 : w26.cell? ⟨a.b, 7, none⟩ = some (.int .i64 x.self.id) := (HT.out.node.below hB26).blk.cell (by omega)
       have qw268 : w26.cell? ⟨a.b, 8, none⟩ = some (.int .i64 x.self.inc) := (HT.out.node.below hB26).blk.cell (by omega)
       have qw269 : w26.cell? ⟨a.b, 9, none⟩ = some (.int .i64 x.self.st) := (HT.out.node.below hB26).blk.cell (by omega)
       have HZ26 := Lib.hid hB26.size
       have HB26 := Lib.hid hB26
       have Hb26 := Lib.hid hb26
       have HR26 := Lib.hid hr26
       clear hB26 hb26 hr26 hrow26))
  all_goals
    have hrow : w9.ownsRow w1.heap.size 31 3 (.slice (some ⟨gg, 0, none⟩) (x.others.length + 1) gc) ((x.others.map (·.k)) ++ [x.self]).length (keyCells ((x.others.map (·.k)) ++ [x.self])) := by
      rw [keyCells_snoc]
      have := HL9.out
      simpa using this
    have hS := sortJ_any ((x.others.map (·.k)) ++ [x.self]) HOKS.out HNDS.out (by simp) (by simp; omega) w1.heap.size _ w9 hrow
    rw [HSRT.out] at hS
    have HS := Lib.hid hS
    clear hrow hS
    go_wp2_with (first
     | (go_at_call 80; refine HS.out.mono ?_; rintro e wS ⟨rfl, hrowS, hcS⟩
        have hBS : Below w1.heap.size w1 wS := HB9.out.trans (hcS.below HB9.out.size (fun k _ e => by have e : some gg = some k := e; cases e; exact (HL9.out.lt _ rfl).1))
        obtain ⟨hll, hka⟩ := keysAt_row (l := putK x.self (x.others.map (·.k))) (n := x.others.length + 1) (by have := hrowS; simpa using this)
        have hTS := HT.out.below hBS
        have hxS : wS.heap[w.heap.size]? = _ := (hBS.block _ hlt).trans HX1.out
        have d1 := cells_at hxS 1
        have d3 := cells_at hxS 3
        simp only [List.getElem?_toArray, List.getElem?_cons_succ, List.getElem?_cons_zero] at d1 d3
        have hszS := hBS.size
        have HTS := Lib.hid hTS
        have HKA := Lib.hid hka
        have HLL := Lib.hid hll
        clear hBS hka hTS hxS hrowS hcS hll)
     | (go_at_call 35
        have hsh := send_high a ov B ps _ HTS.out.node HTS.out.out (by omega) hps frm 5 0 0 seq 0 (by omega) (putK x.self (x.others.map (·.k))) (some ⟨gg, 0, none⟩) gc HKA.out (by rw [putK_len, List.length_map]; omega)
        rw [HLL.out] at hsh
        refine hsh.mono ?_; rintro e w5 ⟨rfl, ov', hT6⟩))
    ((try simp only [Exit.inBlock, Exit.then]); first | refine bodyPost_ret (results_none rfl _ _ _) rfl ?_ | refine bodyPost_end (results_none rfl _ _ _) rfl ?_)
    exact Does.of (HTS.out.trans hT6)
end Go.Proofs.YtfngdplkcppabaaGreat
