/-
  The plain laws: who is silent is found, step by step; what is known never falls; who is suspected speaks up; nothing grows. No program in sight.
  gossip.Encode and gossip.Decode.
-/
import Derived.Test.YtfngdplkcppabaaGreatPart18
import Derived.Test.YtfngdplkcppabaaGreatPart04
set_option linter.all false
namespace Go.Proofs.YtfngdplkcppabaaGreat
open Go.RowKit

/-! ### Finds -/
/-- What came back, as far as it is for the first node. -/
def feed (x : Nd) (l : List Pk) : Nd := l.foldl (fun x b => if b.1 = 1 then (x.receive (some b.2)).2 else x) x
theorem feed_skip (l : List Pk) (x : Nd) (h : ∀ b ∈ l, b.1 ≠ 1) : feed x l = x := by
  induction l generalizing x with
  | nil => rfl
  | cons a l ih =>
    unfold feed at *
    rw [List.foldl_cons, if_neg (h a (by simp))]
    exact ih x (fun b hb => h b (by simp [hb]))
theorem feed_snoc (x : Nd) (l : List Pk) (b : Pk) : feed x (l ++ [b]) = if b.1 = 1 then ((feed x l).receive (some b.2)).2 else feed x l := by
  unfold feed; rw [List.foldl_append]; rfl
section
variable {g n P S D : Int} {x y : Nd} {q : Pk} {ps : List Pk}
theorem sends_skip (h : Sends g n P S D (q :: ps) x) (hq : q.1 = g ∨ q.1 < 1 ∨ n < q.1) : Sends g n P S D ps x := by
  rcases h with ⟨h1, h2, h3⟩ | ⟨t, m, e, _, _, _, _, _, _, h8, h9, h10⟩
  · exact .inl ⟨h1, h2, fun q' hq' => h3 q' (by simp [hq'])⟩
  · simp only [List.cons.injEq] at e
    obtain ⟨rfl, _⟩ := e
    simp only at hq
    omega
/-- A packet comes to one that answers. -/
theorem sends_go (h : Sends g n P S D (q :: ps) x) (hg : q.1 ≠ g) (hr : 1 ≤ q.1 ∧ q.1 ≤ n) (hy : Calm g n q.1 y) (hs : 0 ≤ y.seq ∧ y.seq < 4294967295) :
    q.1 ≠ 1 ∧ wholeB q.2 = true ∧ Calm g n q.1 (y.receive (some q.2)).2 ∧ (∀ b ∈ (y.receive (some q.2)).1, wholeB b.2 = true) ∧ Sends g n P S D ps (feed x (y.receive (some q.2)).1) ∧ (feed x (y.receive (some q.2)).1).clock = x.clock := by
  rcases h with ⟨h1, h2, h3⟩ | ⟨t, m, e, h2, h3, h4, h5, h6, h7, h8, h9, h10⟩
  · rcases h3 q (by simp) with e | ⟨a1, a2, a3, a4, a5⟩
    · exact absurd e hg
    · obtain ⟨b1, b2⟩ := receive_ask hy hs a1 a2 a3 (by rw [a4]; exact fun e => a5 e.symm)
      have hb : ∀ b ∈ (y.receive (some q.2)).1, b.1 ≠ 1 := fun b hb => by rw [(b2 b hb).1]; have := h1.two; omega
      rw [feed_skip _ x hb]
      exact ⟨a5, a1.whole, b1, fun b hb => (b2 b hb).2.whole, .inl ⟨h1, h2, fun q' hq' => h3 q' (by simp [hq'])⟩, rfl⟩
  · simp only [List.cons.injEq] at e
    obtain ⟨rfl, rfl⟩ := e
    simp only at hy hg hr ⊢
    obtain ⟨a, b1, b2, b3, b4, b5, b6⟩ := receive_ping hy h4 h5 h6 (by rw [h7]; exact fun e => h8 e.symm)
    rw [h7] at b1
    have hack := receive_ack h2.calm b3 (by rw [b4]; exact h8) h2.relays
    have hfeed : feed x (y.receive (some m)).1 = { x.heardAll a with probe := ackProbe x.probe a } := by
      rw [b1]
      show (if (1 : Int) = 1 then (x.receive (some a)).2 else x) = _
      rw [if_pos rfl, hack]
    rw [hfeed]
    have hp : ackProbe x.probe a = some ⟨t, m.seq, x.clock, true⟩ := by
      rw [h3]
      simp [ackProbe, b5, b6]
    have hF := h2.heardAll b2
    have s := same_heardAll x a
    have hcfg := cfg_bounds h2.calm.ok.cfg
    have hper := h2.per
    refine ⟨h8, h4.whole, by rw [b1]; exact (hy.heardAll h4).1.sent ⟨2, 0, 0, m.seq, m.tgt, []⟩, fun b hb => by rw [b1, List.mem_singleton] at hb; subst hb; exact b2.whole, .inl ⟨?_, ?_, by simp⟩, s.clock⟩
    · refine { calm := { hF.calm with ok := ?_, self := hF.calm.self, clk := hF.calm.clk, oth := hF.calm.oth, que := hF.calm.que }, known := hF.known, relays := hF.relays, per := hF.per, susp := hF.susp, two := hF.two, phase := ?_ }
      · have := hF.calm.ok.ackProbe a
        rw [s.probe] at this
        exact this
      · rcases hF.phase with ⟨m', hm', e1, e2, e3, e4⟩ | h' | h'
        · refine .inl ⟨m', hm', e1, e2, e3, ?_⟩
          rcases e4 with ⟨_, _, e4⟩ | ⟨p, e4, e5⟩
          · rw [s.probe, h3] at e4; cases e4
          · rw [s.probe, h3] at e4
            cases e4
            rcases e5 with ⟨e5, _⟩ | e5
            · exact absurd e5 h9
            · refine .inr ⟨_, hp, .inr ?_⟩
              obtain ⟨pre, post, f1, f2⟩ := e5
              exact ⟨pre, post, f1, f2⟩
        · exact .inr (.inl h')
        · exact .inr (.inr h')
    · intro p hp'
      have hp' : ackProbe x.probe a = some p := hp'
      rw [hp] at hp'
      cases hp'
      refine ⟨fun _ => rfl, ?_⟩
      show (x.heardAll a).clock < x.clock + P
      rw [s.clock]; omega
theorem sends_done (h : Sends g n P S D [] x) : Find g n P S D x ∧ ProbeOk g P x := by
  rcases h with ⟨h1, h2, _⟩ | ⟨t, m, e, _⟩
  · exact ⟨h1, h2⟩
  · cases e
theorem find_young (h : Young n 1 x) (hk : Known n 1 x) (hP : x.c.period = P) (hS : x.c.susp = S) (hg : 2 ≤ g ∧ g ≤ n) (hD : 0 ≤ D) : Find g n P S D x ∧ ProbeOk g P x := by
  have hc := h.calm.mono g (by omega)
  obtain ⟨m, hm, e⟩ := mem_ids.1 (hk g (by omega) hg.2 (by omega))
  have h1 := h.calm.oth m hm
  refine ⟨{ calm := hc, known := hk, relays := h.relays, per := hP, susp := hS, two := hg, phase := .inl ⟨m, hm, e, ?_, by rw [h.clock]; exact hD, .inl ⟨h.clock, h.pass, h.probe⟩⟩ }, fun p hp => by rw [h.probe] at hp; cases hp⟩
  have := h1.2.1
  rcases h1.2.2.2 with e | ⟨e, _⟩ <;> omega
/-- At the end. -/
theorem find_end (h : Find g n P S D x) (hc : D + S < x.clock) : ((x.others.length : Nat) : Int) = n - 1 ∧ ∀ m ∈ x.others, (m.k.id = g → m.k.st = 3) ∧ (m.k.id ≠ g → m.k.st = 1) := by
  have hcfg := cfg_bounds h.calm.ok.cfg
  have hS := h.susp
  refine ⟨h.calm.known_len h.known, fun m hm => ⟨fun e => ?_, fun e => ?_⟩⟩
  · rcases h.phase with ⟨m', hm', a, b, c, w⟩ | ⟨m', hm', a, b, c, d⟩ | ⟨m', hm', a, b⟩
    · omega
    · omega
    · rw [rise_inj h.calm.ok.rise hm hm' (by omega)]; exact b
  · rcases (h.calm.oth m hm).2.2.2 with e' | ⟨e', _⟩
    · exact e'
    · exact absurd e' e
end
theorem askAll_len (p : Prb) : ∀ (c : Nat) (l : List Int) (x : Nd), (Nd.askAll p c l x).1.length ≤ c := by
  intro c
  induction c with
  | zero => intro l x; simp [Nd.askAll]
  | succ c ih =>
    intro l x
    unfold Nd.askAll
    split
    · simp
    · simp only [List.length_cons]
      have := ih (l.eraseIdx (x.draw l.length).1.toNat) ((x.draw l.length).2.sent ⟨3, 0, 0, p.seq, p.tgt, []⟩)
      omega
theorem tick_len {x : Nd} (h : Ok x) : x.tick.1.length ≤ 4 := by
  have hcfg := cfg_bounds h.cfg
  have hc : x.clocked.c = x.c := by
    unfold Nd.clocked
    simp only
    rw [foldl_hears]
    exact (same_hears _ _).c
  have hw : x.clocked.waits.1.length ≤ 3 := by
    unfold Nd.waits
    split
    · simp
    · rename_i p _
      simp only
      split
      · have := askAll_len p x.clocked.c.prox.toNat (x.clocked.helpers p) x.clocked
        rw [hc] at this ⊢
        omega
      · simp
  have hb : ∀ y : Nd, y.begins.1.length ≤ 1 := fun y => by
    unfold Nd.begins
    simp only
    split <;> simp
  unfold Nd.tick
  simp only
  split
  · rw [List.length_append]
    have := hb x.clocked.waits.2
    omega
  · omega

/-! ### Rising -/
structure Up (x y : Nd) : Prop where
  self : x.self.inc ≤ y.self.inc
  id : y.self.id = x.self.id
  len : x.others.length ≤ y.others.length
  oth : ∀ m ∈ x.others, ∃ m' ∈ y.others, m'.k.id = m.k.id ∧ lessK m'.k m.k = false
theorem lessK_irr (a : K) : lessK a a = false := by simp [lessK]
theorem lessK_tr {a b c : K} (h : lessK b a = false) (k : lessK c b = false) : lessK c a = false := by
  simp only [lessK, decide_eq_false_iff_not] at *; omega
theorem lessK_asymm {a b : K} (h : lessK a b = true) : lessK b a = false := by
  simp only [lessK, decide_eq_false_iff_not, decide_eq_true_eq] at *; omega
theorem Up.of {x y : Nd} (h1 : y.self = x.self) (h2 : y.others = x.others) : Up x y :=
  ⟨by rw [h1]; exact Int.le_refl _, by rw [h1], by rw [h2]; exact Nat.le_refl _, fun m hm => ⟨m, by rw [h2]; exact hm, rfl, lessK_irr _⟩⟩
theorem Up.refl (x : Nd) : Up x x := Up.of rfl rfl
theorem Up.trans {x y z : Nd} (h : Up x y) (k : Up y z) : Up x z :=
  ⟨Int.le_trans h.self k.self, k.id.trans h.id, Nat.le_trans h.len k.len, fun m hm => by
    obtain ⟨m', h1, h2, h3⟩ := h.oth m hm
    obtain ⟨m'', k1, k2, k3⟩ := k.oth m' h1
    exact ⟨m'', k1, k2.trans h2, lessK_tr h3 k3⟩⟩
theorem len_putM_ge (m : Mem) (l : List Mem) : l.length ≤ (putM m l).length := by
  induction l with
  | nil => simp
  | cons b r ih => unfold putM; split; · simpa using ih
                   split <;> simp
theorem up_taken {x : Nd} {k : K} (h : ∀ m ∈ x.others, m.k.id = k.id → lessK m.k k = true) : Up x (x.taken k) :=
  ⟨Int.le_refl _, rfl, len_putM_ge _ x.others, fun m hm => by
    by_cases e : m.k.id = k.id
    · exact ⟨_, taken_mem x k, e.symm, lessK_asymm (h m hm e)⟩
    · exact ⟨m, putM_keep hm e, rfl, lessK_irr _⟩⟩
theorem up_hear {x : Nd} (h : Rise (ids x.others)) (k : K) : Up x (x.hear k) := by
  unfold Nd.hear
  split
  · unfold Nd.refute
    split
    · exact Up.refl x
    · rename_i hc
      exact ⟨by show x.self.inc ≤ k.inc + 1; omega, rfl, Nat.le_refl _, fun m hm => ⟨m, hm, rfl, lessK_irr _⟩⟩
  · split
    · rename_i hf
      split
      · exact Up.refl x
      · exact up_taken (fun m hm e => absurd (mem_ids.2 ⟨m, hm, e⟩) (findM_none hf))
    · rename_i m hf
      split
      · rename_i hl
        obtain ⟨hm, e⟩ := findM_some hf
        exact up_taken (fun m' hm' e' => by rw [rise_inj h hm' hm (by omega)]; exact hl)
      · exact Up.refl x
theorem up_hears (l : List K) : ∀ {x : Nd}, Ok x → 0 ≤ x.clock → (∀ k ∈ l, keyOk k) → Up x (l.foldl Nd.hear x) := by
  induction l with
  | nil => intro x _ _ _; exact Up.refl x
  | cons k l ih =>
    intro x h h0 hl
    exact (up_hear h.rise k).trans (ih (h.hear h0 (hl k (by simp))) (by rw [(same_hear x k).clock]; exact h0) (fun k' hk' => hl k' (by simp [hk'])))
theorem up_sent (x : Nd) (m : M) : Up x (x.sent m) := Up.of (sameQ_sent x m).self (sameQ_sent x m).others
theorem up_answer (x : Nd) (m : M) : Up x (x.answer m).2 := by
  have hp : Up x (x.pinged m).2 := by
    unfold Nd.pinged; split
    · exact up_sent x ⟨2, 0, 0, m.seq, m.tgt, []⟩
    · exact Up.refl x
  unfold Nd.answer
  split
  · exact hp
  · split
    · unfold Nd.acked
      simp only
      split
      · exact Up.of rfl rfl
      · rename_i r _
        exact (Up.of (x := x) (y := { x with probe := ackProbe x.probe m, relays := x.relays.filter (fun r => !(r.seq == m.seq)) }) rfl rfl).trans (up_sent _ ⟨2, 0, 0, r.oseq, r.tgt, []⟩)
    · split
      · unfold Nd.asked
        split
        · exact hp
        · split
          · exact Up.refl x
          · exact (Up.of (x := x) (y := { x.next with relays := x.relays ++ [⟨x.seq + 1, m.tgt, m.frm, m.seq, x.clock + x.c.period⟩] }) rfl rfl).trans (up_sent _ ⟨1, 0, 0, x.seq + 1, m.tgt, []⟩)
      · split
        · exact Up.refl x
        · exact Up.refl x
theorem up_heardAll {x : Nd} (h : Ok x) (h0 : 0 ≤ x.clock) {m : M} (hm : MOk m) : Up x (x.heardAll m) := by
  have hk : keyOk ⟨m.frm, m.inc, 1⟩ := ⟨hm.frm, hm.inc, by show (1 : Int) ≤ 1 ∧ (1 : Int) ≤ 4; omega⟩
  exact (up_hear h.rise _).trans (up_hears _ (h.hear h0 hk) (by rw [(same_hear _ _).clock]; exact h0) hm.ups)
theorem up_receive {x : Nd} (h : Ok x) (h0 : 0 ≤ x.clock) {m : M} (hm : MOk m) (hne : m.frm ≠ x.self.id) : Up x (x.receive (some m)).2 := by
  rw [receive_some hne]
  exact (up_heardAll h h0 hm).trans (up_answer _ m)
/-- The key was heard. -/
def Heard (k : K) (y : Nd) : Prop := k.id = y.self.id ∨ (∃ m ∈ y.others, m.k.id = k.id ∧ lessK m.k k = false) ∨ (7 ≤ y.others.length ∧ k.id ∉ ids y.others)
theorem heard_hear (x : Nd) (k : K) : Heard k (x.hear k) := by
  by_cases hid : k.id = x.self.id
  · exact .inl (by rw [(same_hear x k).id]; exact hid)
  · unfold Nd.hear
    rw [if_neg hid]
    split
    · rename_i hf
      split
      · rename_i hl
        exact .inr (.inr ⟨by omega, findM_none hf⟩)
      · exact .inr (.inl ⟨_, taken_mem x k, rfl, lessK_irr _⟩)
    · rename_i m hf
      obtain ⟨hm, e⟩ := findM_some hf
      split
      · exact .inr (.inl ⟨_, taken_mem x k, rfl, lessK_irr _⟩)
      · rename_i hl
        exact .inr (.inl ⟨m, hm, e, by simpa using hl⟩)
theorem Heard.up {k : K} {x y : Nd} (h : Heard k x) (hu : Up x y) (hx : Ok x) (hy : Ok y) : Heard k y := by
  rcases h with h | ⟨m, hm, e, hl⟩ | ⟨h7, hn⟩
  · exact .inl (by rw [hu.id]; exact h)
  · obtain ⟨m', a, b, c⟩ := hu.oth m hm
    exact .inr (.inl ⟨m', a, b.trans e, lessK_tr hl c⟩)
  · refine .inr (.inr ⟨Nat.le_trans h7 hu.len, fun hin => ?_⟩)
    have hnd : (k.id :: ids x.others).Nodup := List.nodup_cons.2 ⟨hn, hx.rise.imp (by intro a b hab; omega)⟩
    have := nodup_le (l' := ids y.others) hnd (fun i hi => by
      rcases List.mem_cons.1 hi with rfl | hi
      · exact hin
      · obtain ⟨m, hm, rfl⟩ := mem_ids.1 hi
        obtain ⟨m', a, b, _⟩ := hu.oth m hm
        exact mem_ids.2 ⟨m', a, b⟩)
    have h8 := hy.len
    simp only [List.length_cons, ids, List.length_map] at this
    omega
theorem Heard.out {k : K} {x : Nd} (h : Heard k x) (hx : Ok x) {m : Mem} (hm : m ∈ x.others) (e : m.k.id = k.id) : lessK m.k k = false := by
  rcases h with h | ⟨m', hm', e', hl⟩ | ⟨_, hn⟩
  · exact absurd (e.trans h) (hx.notSelf m hm)
  · rw [rise_inj hx.rise hm hm' (by omega)]; exact hl
  · exact absurd (mem_ids.2 ⟨m, hm, e⟩) hn
theorem heard_hears (l : List K) : ∀ {x : Nd}, Ok x → 0 ≤ x.clock → (∀ k ∈ l, keyOk k) → ∀ k ∈ l, Heard k (l.foldl Nd.hear x) := by
  induction l with
  | nil => intro x _ _ _ k hk; simp at hk
  | cons a l ih =>
    intro x h h0 hl k hk
    have h1 := h.hear h0 (hl a (by simp))
    have h2 : 0 ≤ (x.hear a).clock := by rw [(same_hear x a).clock]; exact h0
    have h3 : ∀ k ∈ l, keyOk k := fun k' hk' => hl k' (by simp [hk'])
    rcases List.mem_cons.1 hk with rfl | hk
    · exact (heard_hear x k).up (up_hears l h1 h2 h3) h1 (h1.hears h2 l h3)
    · exact ih h1 h2 h3 k hk
theorem up_draw (x : Nd) (n : Int) : Up x (x.draw n).2 := by obtain ⟨k, e⟩ := draw_eq x n; rw [e]; exact Up.of rfl rfl
theorem up_askAll (p : Prb) : ∀ (c : Nat) (l : List Int) (x : Nd), Up x (Nd.askAll p c l x).2 := by
  intro c
  induction c with
  | zero => intro l x; exact Up.refl x
  | succ c ih =>
    intro l x
    unfold Nd.askAll
    split
    · exact Up.refl x
    · exact ((up_draw x _).trans (up_sent _ _)).trans (ih _ _)
theorem up_tick {x : Nd} {B : Int} (h : Ok x) (hb : Bd B x) (hB : B ≤ 3999999000) : Up x x.tick.2 := by
  obtain ⟨h1, h2⟩ := clocked_all h hb
  have hg := good_waits h1 h2 (by omega)
  have u1 : Up x x.clocked := by
    unfold Nd.clocked
    simp only
    rw [foldl_hears]
    have hz : Ok { x with clock := x.clock + 1, relays := x.relays.filter (fun r => decide (x.clock + 1 < r.ends)) } := by
      exact { h.relaysOf (l := x.relays.filter (fun r => decide (x.clock + 1 < r.ends))) List.filter_sublist with
        rok := fun r hr => by
          obtain ⟨a, b, c, d, e⟩ := h.rok r (List.mem_filter.1 hr).1
          exact ⟨a, b, c, d, e.1, by show r.ends ≤ x.clock + 1 + 50; omega⟩
        prb := fun p hp => by
          obtain ⟨a, b, c⟩ := h.prb p hp
          exact ⟨a, b, c.1, by show p.start ≤ x.clock + 1; omega⟩
        due := fun m hm => by
          have := h.due m hm
          exact ⟨this.1, by show m.due ≤ x.clock + 1 + 500; omega⟩ }
    refine (Up.of (x := x) (y := { x with clock := x.clock + 1, relays := x.relays.filter (fun r => decide (x.clock + 1 < r.ends)) }) rfl rfl).trans (up_hears _ hz (by have := hb.clock.1; show 0 ≤ x.clock + 1; omega) (fun k hk => ?_))
    obtain ⟨m, hm, rfl⟩ := List.mem_map.1 hk
    have := h.key m (List.mem_filter.1 hm).1
    exact ⟨this.1, this.2.1, by show (1 : Int) ≤ 3 ∧ (3 : Int) ≤ 4; omega⟩
  have u2 : Up x.clocked x.clocked.waits.2 := by
    unfold Nd.waits
    split
    · exact Up.refl _
    · rename_i p hp
      simp only
      have h3 : Up x.clocked (if x.clocked.clock - p.start = x.clocked.c.wait ∧ p.acked = false then Nd.askAll p x.clocked.c.prox.toNat (x.clocked.helpers p) x.clocked else ([], x.clocked)).2 := by
        split
        · exact up_askAll _ _ _ _
        · exact Up.refl _
      have h4 : Ok (if x.clocked.clock - p.start = x.clocked.c.wait ∧ p.acked = false then Nd.askAll p x.clocked.c.prox.toNat (x.clocked.helpers p) x.clocked else ([], x.clocked)).2 := by
        obtain ⟨p1, p2, p3⟩ := h1.prb p hp
        have hs := h2.seq
        split
        · exact (good_askAll p ⟨p1, by omega, by omega⟩ _ _ h1 h2 (fun i hi => h1.ids_ok (helpers_in hi))).ok
        · exact h1
      refine h3.trans ?_
      generalize (if x.clocked.clock - p.start = x.clocked.c.wait ∧ p.acked = false then Nd.askAll p x.clocked.c.prox.toNat (x.clocked.helpers p) x.clocked else ([], x.clocked)).2 = y at h4
      unfold Nd.endProbe
      split
      · exact Up.refl y
      · simp only
        split
        · exact Up.of rfl rfl
        · split
          · exact (Up.of (x := y) (y := { y with probe := none }) rfl rfl).trans (up_hear (x := { y with probe := none }) h4.rise _)
          · exact Up.of rfl rfl
  have u3 : ∀ y : Nd, Ok y → Up y y.begins.2 := fun y hy => by
    have hn : Up y y.newPass := by
      unfold Nd.newPass
      split
      · simp only
        obtain ⟨_, _, k, e⟩ := mix_perm (((y.others.filter here).map (·.k.id)).length - 1) ((y.others.filter here).map (·.k.id)) hy (by omega)
        rw [e]
        exact Up.of rfl rfl
      · exact Up.refl y
    unfold Nd.begins
    simp only
    generalize y.newPass = z at hn
    split
    · exact hn
    · rename_i t rest _
      exact hn.trans ((Up.of (x := z) (y := { z.next with pass := rest, probe := some ⟨t, z.seq + 1, z.clock, false⟩ }) rfl rfl).trans (up_sent _ ⟨1, 0, 0, z.seq + 1, t, []⟩))
  unfold Nd.tick
  simp only
  split
  · exact (u1.trans u2).trans (u3 _ hg.ok)
  · exact u1.trans u2
theorem dropped_hears (x : Nd) (m : M) : (x.heardAll m).dropped = x.dropped := (same_heardAll x m).dropped
theorem dropped_answer (x : Nd) (m : M) : (x.answer m).2.dropped = x.dropped := by
  have hp : (x.pinged m).2.dropped = x.dropped := by
    unfold Nd.pinged; split
    · exact (sameQ_sent x _).dropped
    · rfl
  unfold Nd.answer
  split
  · exact hp
  · split
    · unfold Nd.acked
      simp only
      split
      · rfl
      · exact (sameQ_sent _ _).dropped
    · split
      · unfold Nd.asked
        split
        · exact hp
        · split
          · rfl
          · exact (sameQ_sent _ _).dropped
      · split <;> rfl
theorem dropped_askAll (p : Prb) : ∀ (c : Nat) (l : List Int) (x : Nd), (Nd.askAll p c l x).2.dropped = x.dropped := by
  intro c
  induction c with
  | zero => intro l x; rfl
  | succ c ih =>
    intro l x
    unfold Nd.askAll
    split
    · rfl
    · simp only
      rw [ih, (sameQ_sent _ _).dropped]
      obtain ⟨k, e⟩ := draw_eq x (l.length : Int)
      rw [e]
theorem dropped_tick {x : Nd} (h : Ok x) {B : Int} (hb : Bd B x) (hB : B ≤ 3999999000) : x.tick.2.dropped = x.dropped := by
  obtain ⟨h1, h2⟩ := clocked_all h hb
  have hg := good_waits h1 h2 (by omega)
  have u1 : x.clocked.dropped = x.dropped := by
    unfold Nd.clocked
    simp only
    rw [foldl_hears]
    exact (same_hears _ _).dropped
  have u2 : x.clocked.waits.2.dropped = x.clocked.dropped := by
    unfold Nd.waits
    split
    · rfl
    · rename_i p hp
      simp only
      have h3 : (if x.clocked.clock - p.start = x.clocked.c.wait ∧ p.acked = false then Nd.askAll p x.clocked.c.prox.toNat (x.clocked.helpers p) x.clocked else ([], x.clocked)).2.dropped = x.clocked.dropped := by
        split
        · exact dropped_askAll _ _ _ _
        · rfl
      rw [← h3]
      generalize (if x.clocked.clock - p.start = x.clocked.c.wait ∧ p.acked = false then Nd.askAll p x.clocked.c.prox.toNat (x.clocked.helpers p) x.clocked else ([], x.clocked)).2 = y
      unfold Nd.endProbe
      split
      · rfl
      · simp only
        split
        · rfl
        · split
          · exact (same_hear _ _).dropped
          · rfl
  have u3 : ∀ y : Nd, Ok y → y.begins.2.dropped = y.dropped := fun y hy => by
    have hn : y.newPass.dropped = y.dropped := by
      unfold Nd.newPass
      split
      · simp only
        obtain ⟨_, _, k, e⟩ := mix_perm (((y.others.filter here).map (·.k.id)).length - 1) ((y.others.filter here).map (·.k.id)) hy (by omega)
        rw [e]
      · rfl
    unfold Nd.begins
    simp only
    rw [← hn]
    generalize y.newPass = z
    split
    · rfl
    · exact (sameQ_sent _ _).dropped
  unfold Nd.tick
  simp only
  split
  · simp only
    rw [u3 _ hg.ok, u2, u1]
  · rw [u2, u1]

/-! ### Bounded -/
theorem receive_len (x : Nd) (o : Option M) : (x.receive o).1.length ≤ 1 := by
  unfold Nd.receive
  cases o with
  | none => simp
  | some m =>
    simp only
    split
    · simp
    · generalize x.heardAll m = y
      have hp : (y.pinged m).1.length ≤ 1 := by unfold Nd.pinged; split <;> simp
      unfold Nd.answer
      split
      · exact hp
      · split
        · unfold Nd.acked
          simp only
          split <;> simp
        · split
          · unfold Nd.asked
            split
            · exact hp
            · split <;> simp
          · split <;> simp [Nd.joined]
theorem receive_odd {x : Nd} {o : Option M} (h : ∀ m, o = some m → m.frm = x.self.id) : x.receive o = ([], { x with dropped := x.dropped + 1 }) := by
  unfold Nd.receive
  cases o with
  | none => rfl
  | some m => simp only; rw [if_pos (h m rfl)]

/-! ### Refutes -/
theorem refutes_plain {x : Nd} (h : Young 2 1 x) (hk : Known 2 1 x) {inc st : Int} (hi : 1 ≤ inc ∧ inc < 1073741824) (hst : st = 2 ∨ st = 3) :
    ∃ a y, x.receive (some ⟨1, 2, 1, 77, 1, [⟨1, inc, st⟩]⟩) = ([(2, a)], y) ∧ wholeB a = true ∧ a.kind = 2 ∧ a.seq = 77 ∧ a.inc = inc + 1 ∧ y.self = ⟨1, inc + 1, 1⟩ ∧ (⟨1, inc + 1, 1⟩ : K) ∈ a.ups := by
  have h1 : x.hear ⟨2, 1, 1⟩ = x := by
    rcases h.calm.hear_known hk (k := ⟨2, 1, 1⟩) ⟨rfl, by show (1 : Int) ≤ 2 ∧ (2 : Int) ≤ 2; omega, by show (1 : Int) ≤ 1; omega, .inl rfl⟩ with e | ⟨e, _⟩
    · exact e
    · simp at e
  have hself := h.calm.self
  have h2 : x.hear ⟨1, inc, st⟩ = ({ x with self := ⟨1, inc + 1, 1⟩ } : Nd).changed ⟨1, inc + 1, 1⟩ := by
    unfold Nd.hear Nd.refute
    rw [if_pos (by rw [hself]), hself]
    rw [if_neg (by simp only [not_or]; omega)]
  have hok : Ok (x.hear ⟨1, inc, st⟩) := h.calm.ok.hear h.calm.clk ⟨by show (1 : Int) ≤ 1 ∧ (1 : Int) ≤ 250; omega, by show 1 ≤ inc ∧ inc ≤ 1073741824; omega, by show 1 ≤ st ∧ st ≤ 4; omega⟩
  have hall : x.heardAll ⟨1, 2, 1, 77, 1, [⟨1, inc, st⟩]⟩ = x.hear ⟨1, inc, st⟩ := by
    unfold Nd.heardAll
    simp only [List.foldl_cons, List.foldl_nil]
    rw [h1]
  obtain ⟨y, hy⟩ : ∃ y, x.hear ⟨1, inc, st⟩ = y := ⟨_, rfl⟩
  rw [hy] at hok hall h2
  have hys : y.self = ⟨1, inc + 1, 1⟩ := by rw [h2]; rfl
  have hyo : y.others = x.others := by rw [h2]; rfl
  have hq : (⟨⟨1, inc + 1, 1⟩, 0⟩ : Upd) ∈ y.queue := by rw [h2]; simp [Nd.changed]
  have hlen : y.queue.length ≤ 2 := by
    have := nodup_le (l' := [1, 2]) hok.qnd (fun i hi => by
      obtain ⟨u, hu, rfl⟩ := List.mem_map.1 hi
      rcases hok.qin u hu with e | e
      · rw [hys] at e; simp [e]
      · rw [hyo] at e
        obtain ⟨m, hm, e⟩ := mem_ids.1 e
        have := (h.calm.oth m hm).2.1
        simp only [List.mem_cons, List.not_mem_nil, or_false]; omega)
    simpa [uids] using this
  have hfirst : (⟨⟨1, inc + 1, 1⟩, 0⟩ : Upd) ∈ y.first := by
    unfold Nd.first
    rw [List.take_of_length_le (by rw [List.length_mergeSort]; omega)]
    exact (List.mergeSort_perm y.queue updLe).mem_iff.2 hq
  refine ⟨y.msg ⟨2, 0, 0, 77, 1, []⟩, y.sent ⟨2, 0, 0, 77, 1, []⟩, ?_, hok.low (.inr (.inl rfl)) (by omega) (by unfold idOk; omega) 0 0 [], rfl, rfl, ?_, ?_, ?_⟩
  · rw [receive_some (by rw [hself]; simp), hall]
    unfold Nd.answer Nd.pinged
    rw [if_pos rfl, if_pos (by rw [hys])]
  · show y.self.inc = _; rw [hys]
  · rw [(sameQ_sent y _).self]; exact hys
  · show _ ∈ (if (2 : Int) < 4 then y.first.map (·.k) else [])
    rw [if_pos (by omega)]
    exact List.mem_map.2 ⟨_, hfirst, rfl⟩
end Go.Proofs.YtfngdplkcppabaaGreat
namespace Go.Proofs.YtfngdplkcppabaaGreat
open Go.RowKit

theorem whole_len {m : M} (h : wholeB m = true) : m.ups.length ≤ 8 := by
  unfold wholeB at h
  simp only [Bool.and_eq_true, Bool.not_eq_true', decide_eq_false_iff_not] at h
  have h2 := h.1.1.1.1.2
  rcases roomI_cases m.kind with hr | hr | hr <;> rw [hr] at h2 <;> omega

theorem encode_yes (m : M) (a : Option Addr) (n cap : Nat) (w : World) (hn : m.ups.length = n) (hk : KeysAt w a m.ups) (hw : wholeB m = true) :
    Calls Tryz.prog 10 #[.agg #[.int .i64 m.kind, .int .i64 m.frm, .int .i64 m.inc, .int .i64 m.seq, .int .i64 m.tgt, .slice a n cap]] w fun e w' =>
      e = .returned (.tuple #[.string (strOfNums (msgBytes m)), .nilIface]) ∧ Below w.heap.size w w' := by
  have h8 := whole_len hw
  have HW := Lib.hid hw
  have HN := Lib.hid hn
  have hk1 := hk.below ((Below.refl _ w).alloc (Nat.le_refl _) (.cells #[.int .i64 m.kind, .int .i64 m.frm, .int .i64 m.inc, .int .i64 m.seq, .int .i64 m.tgt, .slice a n cap] 29))
  have HK := Lib.hid hk1
  clear hw hk1 hk hn
  go_enter Tryz.func10, Tryz.ntmps10
  go_wp2_with fail
  refine (whole_at m a n cap _ HN.out (by have := HN.out; omega) HK.out).mono ?_
  rintro e w1 ⟨rfl, hb⟩
  rw [HW.out]
  have hbx : w1.heap[w.heap.size]? = _ := (hb.block _ (by simp)).trans (heap_alloc_eq w _)
  have hcx := cells_at hbx
  have HB := Lib.hid hb
  have HK1 := Lib.hid (HK.out.below hb)
  clear hb hbx
  go_wp2_with fail
  have hB : Calls Tryz.prog 22 #[.agg #[.int .i64 m.kind, .int .i64 m.frm, .int .i64 m.inc, .int .i64 m.seq, .int .i64 m.tgt, .slice a n cap]] w1 fun e w' =>
      e = .returned (.string (strOfNums (msgBytes m))) ∧ Below w1.heap.size w1 w' := by
    have := bytes_any m.kind m.frm m.inc m.seq m.tgt m.ups a cap w1 h8 HK1.out
    rw [HN.out] at this
    exact this
  refine hB.mono ?_
  rintro e w2 ⟨rfl, hb2⟩
  have HB2 := Lib.hid hb2
  clear hb2 hB
  go_wp2
  go_ret2
  exact ⟨rfl, below_of_alloc (((HB.out.mono (by simp)).trans (HB2.out.mono (by have := HB.out.size; simp at this; omega))))⟩

theorem encode_no (m : M) (a : Option Addr) (n cap : Nat) (w : World) (hn : m.ups.length = n) (hl : n ≤ 9223372036854775807) (hk : KeysAt w a m.ups) (hw : wholeB m = false) :
    Calls Tryz.prog 10 #[.agg #[.int .i64 m.kind, .int .i64 m.frm, .int .i64 m.inc, .int .i64 m.seq, .int .i64 m.tgt, .slice a n cap]] w fun e w' =>
      e = .returned (.tuple #[.string ⟨#[]⟩, .iface 67 (.int .i64 2)]) ∧ Below w.heap.size w w' := by
  have HW := Lib.hid hw
  have HN := Lib.hid hn
  have hk1 := hk.below ((Below.refl _ w).alloc (Nat.le_refl _) (.cells #[.int .i64 m.kind, .int .i64 m.frm, .int .i64 m.inc, .int .i64 m.seq, .int .i64 m.tgt, .slice a n cap] 29))
  have HK := Lib.hid hk1
  clear hw hk1 hk hn
  go_enter Tryz.func10, Tryz.ntmps10
  go_wp2_with fail
  refine (whole_at m a n cap _ HN.out hl HK.out).mono ?_
  rintro e w1 ⟨rfl, hb⟩
  rw [HW.out]
  have HB := Lib.hid hb
  clear hb
  go_wp2
  go_ret2
  exact ⟨rfl, below_of_alloc (HB.out.mono (by simp))⟩

theorem decode_any (s : ByteArray) (w : World) (hm : s.size ≤ maxLen) : Calls Tryz.prog 12 #[.string s] w (DecPost w s.data.toList) := by
  go_enter Tryz.func12, Tryz.ntmps12
  go_wp2_with fail
  refine (message_any s _ hm).mono ?_
  rintro e w1 ⟨hb, h⟩
  have hbx : w1.heap[w.heap.size]? = _ := (hb.block _ (by simp)).trans (heap_alloc_eq w _)
  have hcx := cells_at hbx
  have hfx := unfrozen hbx
  have HX := Lib.hid hbx
  have hsz := hb.size
  rw [World.size_alloc] at hsz
  have hBB := below_of_alloc (hb.mono (by simp))
  have HBB := Lib.hid hBB
  clear hbx hb hBB
  rcases h with ⟨hd, rfl⟩ | ⟨hd, v, rfl, hrow⟩
  · have HD := Lib.hid hd
    clear hd
    unfold noMsg
    go_wp2
    refine six_set (R := bodyPost _ _ _ _ _) HX.out _ _ _ _ _ _ (fun W hW hC => ?_)
    have hc := cells_at hW
    refine bodyPost_ret (v := .tuple #[noMsg, .iface 67 (.int .i64 2)]) (by simp [results, Tryz.results12, go_sem, noMsg, hc]) rfl ⟨?_, .inl ⟨HD.out, rfl⟩⟩
    exact HBB.out.trans (hC.below (by omega) (fun k o e => by omega))
  · have HD := Lib.hid hd
    obtain ⟨a, cap, rfl⟩ := ownsRow_sl hrow
    have HR := Lib.hid hrow
    clear hd hrow
    unfold M.agg
    go_wp2
    refine six_set (R := bodyPost _ _ _ _ _) HX.out _ _ _ _ _ _ (fun W hW hC => ?_)
    have hc := cells_at hW
    refine bodyPost_ret (v := .tuple #[(rawMsg s.data.toList).agg (.slice a (rawMsg s.data.toList).ups.length cap), .nilIface]) (by simp [results, Tryz.results12, go_sem, M.agg, hc]) rfl ⟨?_, .inr ⟨HD.out, _, rfl, ?_⟩⟩
    · exact HBB.out.trans (hC.below (by omega) (fun k o e => by omega))
    · exact own_below (own_chg HR.out hC (fun g o hg e => by have := (HR.out.lt g hg).1; simp at this; omega)) (by simp)
end Go.Proofs.YtfngdplkcppabaaGreat
