/-
  Who is silent is found: a node that ticks, the silent one g, the others answer. No program in sight.
-/
import Derived.Test.YtfngdplkcppabaaGreatPart17
set_option linter.all false
namespace Go.Proofs.YtfngdplkcppabaaGreat
open Go.RowKit

/-- The silent one will be probed by D. -/
def Waits (g P D : Int) (x : Nd) : Prop :=
  (x.clock = 0 ∧ x.pass = [] ∧ x.probe = none) ∨
  ∃ p, x.probe = some p ∧ ((p.tgt = g ∧ p.acked = false ∧ p.start + P ≤ D) ∨ ∃ pre post, x.pass = pre ++ g :: post ∧ p.start + P * ((pre.length : Int) + 2) ≤ D)
def Phase (g P S D : Int) (x : Nd) : Prop :=
  (∃ m ∈ x.others, m.k.id = g ∧ m.k.st = 1 ∧ x.clock ≤ D ∧ Waits g P D x) ∨ (∃ m ∈ x.others, m.k.id = g ∧ m.k.st = 2 ∧ m.due ≤ D + S ∧ x.clock < m.due) ∨ (∃ m ∈ x.others, m.k.id = g ∧ m.k.st = 3)
structure Find (g n P S D : Int) (x : Nd) : Prop where
  calm : Calm g n 1 x
  known : Known n 1 x
  relays : x.relays = []
  per : x.c.period = P
  susp : x.c.susp = S
  two : 2 ≤ g ∧ g ≤ n
  phase : Phase g P S D x
def ProbeOk (g P : Int) (x : Nd) : Prop := ∀ p, x.probe = some p → (p.tgt ≠ g → p.acked = true) ∧ x.clock < p.start + P
section
variable {g n P S D : Int} {x y : Nd}
theorem taken_mem (x : Nd) (k : K) : (⟨k, x.clock + x.c.susp⟩ : Mem) ∈ (x.taken k).others := putM_mem _ x.others
/-- A hearing: the phase stands, or goes on. -/
theorem Find.hear (h : Find g n P S D x) {k : K} (hk : CalmK g n k) : Find g n P S D (x.hear k) := by
  obtain ⟨c1, c2, c3⟩ := h.calm.hear hk
  have s := same_hear x k
  have hcfg := cfg_bounds h.calm.ok.cfg
  refine { calm := c1, known := fun i h1 h2 h3 => c2 i (h.known i h1 h2 h3), relays := s.relays.trans h.relays, per := by rw [s.c]; exact h.per, susp := by rw [s.c]; exact h.susp, two := h.two, phase := ?_ }
  rcases h.calm.hear_known h.known hk with e | ⟨e1, ⟨m, hm, hme, hlt⟩, e⟩
  · rw [e]; exact h.phase
  · rw [e]
    have hin := taken_mem x k
    have hst : k.st = 2 ∨ k.st = 3 := by
      have h1 := (h.calm.oth m hm).2.2.1
      have h2 := hk.2.2.2
      omega
    rcases hst with h2 | h3
    · refine .inr (.inl ⟨_, hin, e1, h2, ?_, ?_⟩)
      · show x.clock + x.c.susp ≤ D + S
        rcases h.phase with ⟨m', hm', i', s', hD, _⟩ | ⟨m', hm', i', s', _⟩ | ⟨m', hm', i', s'⟩
        · rw [h.susp]; omega
        all_goals
          have := rise_inj h.calm.ok.rise hm hm' (by omega)
          subst this; omega
      · show x.clock < x.clock + x.c.susp; omega
    · exact .inr (.inr ⟨_, hin, e1, h3⟩)
theorem Find.hears (l : List K) : ∀ {x : Nd}, Find g n P S D x → (∀ k ∈ l, CalmK g n k) → Find g n P S D (l.foldl Nd.hear x) := by
  induction l with
  | nil => intro x h _; exact h
  | cons k l ih => intro x h hl; exact ih (h.hear (hl k (by simp))) (fun k' hk' => hl k' (by simp [hk']))
theorem Find.heardAll (h : Find g n P S D x) {m : M} (hm : CalmM g n m) : Find g n P S D (x.heardAll m) := (h.hear hm.fromK).hears _ hm.ups
/-- What leaves the table, the pass, the probe and the clock, leaves the phase. -/
theorem phase_of (h : Phase g P S D x) (e1 : y.others = x.others) (e2 : y.pass = x.pass) (e3 : y.clock = x.clock) (e4 : y.probe = x.probe) : Phase g P S D y := by
  unfold Phase Waits at *
  rw [e1, e2, e3, e4]; exact h

/-- What a tick of it sends, and how it is then. -/
def Sends (g n P S D : Int) (ps : List Pk) (x : Nd) : Prop :=
  (Find g n P S D x ∧ ProbeOk g P x ∧ ∀ q ∈ ps, q.1 = g ∨ (CalmM g n q.2 ∧ q.2.kind = 3 ∧ q.2.tgt = g ∧ q.2.frm = 1 ∧ q.1 ≠ 1)) ∨
  (∃ t m, ps = [(t, m)] ∧ Find g n P S D x ∧ x.probe = some ⟨t, m.seq, x.clock, false⟩ ∧ CalmM g n m ∧ m.kind = 1 ∧ m.tgt = t ∧ m.frm = 1 ∧ t ≠ 1 ∧ t ≠ g ∧ (1 ≤ t ∧ t ≤ n))

/-- The clock goes on; a suspect's time is up. -/
theorem clocked_find (h : Find g n P S D x) :
    Calm g n 1 x.clocked ∧ Known n 1 x.clocked ∧ x.clocked.relays = [] ∧ x.clocked.c = x.c ∧ x.clocked.probe = x.probe ∧ x.clocked.clock = x.clock + 1 ∧ x.clocked.seq = x.seq ∧ x.clocked.self = x.self ∧
    ((∃ m ∈ x.clocked.others, m.k.id = g ∧ m.k.st = 1 ∧ x.clocked.pass = x.pass ∧ x.clock ≤ D ∧ Waits g P D x) ∨ (∃ m ∈ x.clocked.others, m.k.id = g ∧ m.k.st = 2 ∧ m.due ≤ D + S ∧ x.clock + 1 < m.due) ∨ (∃ m ∈ x.clocked.others, m.k.id = g ∧ m.k.st = 3)) := by
  have hcfg := cfg_bounds h.calm.ok.cfg
  obtain ⟨z, hz⟩ : ∃ z : Nd, ({ x with clock := x.clock + 1, relays := x.relays.filter (fun r => decide (x.clock + 1 < r.ends)) } : Nd) = z := ⟨_, rfl⟩
  have zo : z.others = x.others := by subst hz; rfl
  have zr : z.relays = [] := by subst hz; show x.relays.filter _ = []; rw [h.relays]; rfl
  have zc : z.c = x.c := by subst hz; rfl
  have zp : z.probe = x.probe := by subst hz; rfl
  have zk : z.clock = x.clock + 1 := by subst hz; rfl
  have zs : z.seq = x.seq := by subst hz; rfl
  have zf : z.self = x.self := by subst hz; rfl
  have zpa : z.pass = x.pass := by subst hz; rfl
  have zq : z.queue = x.queue := by subst hz; rfl
  have hzc : Calm g n 1 z := by
    refine { ok := ?_, self := by rw [zf]; exact h.calm.self, range := h.calm.range, ne := h.calm.ne, small := h.calm.small, clk := by have := h.calm.clk; omega, oth := by rw [zo]; exact h.calm.oth, que := by rw [zq]; exact h.calm.que }
    subst hz
    exact { h.calm.ok.relaysOf (l := x.relays.filter (fun r => decide (x.clock + 1 < r.ends))) List.filter_sublist with
      rok := fun r hr => by
        obtain ⟨a, b, c, d, e⟩ := h.calm.ok.rok r (List.mem_filter.1 hr).1
        exact ⟨a, b, c, d, e.1, by show r.ends ≤ x.clock + 1 + 50; omega⟩
      prb := fun p hp => by
        obtain ⟨a, b, c⟩ := h.calm.ok.prb p hp
        exact ⟨a, b, c.1, by show p.start ≤ x.clock + 1; omega⟩
      due := fun m hm => by
        have := h.calm.ok.due m hm
        exact ⟨this.1, by show m.due ≤ x.clock + 1 + 500; omega⟩ }
  have hzk : Known n 1 z := by unfold Known; rw [zo]; exact h.known
  have hcl : x.clocked = z.due.foldl (fun y m => y.hear ⟨m.k.id, m.k.inc, 3⟩) z := by
    unfold Nd.clocked
    simp only
    rw [hz]
  rw [foldl_hears] at hcl
  have hdg : ∀ m ∈ z.due, m.k.id = g ∧ m.k.st = 2 ∧ m ∈ x.others ∧ m.due ≤ x.clock + 1 := fun m hm => by
    obtain ⟨h1, h2⟩ := List.mem_filter.1 hm
    simp only [Bool.and_eq_true, beq_iff_eq, decide_eq_true_eq] at h2
    rw [zo] at h1
    have hc := h.calm.oth m h1
    rcases hc.2.2.2 with e | ⟨e, _⟩
    · omega
    · exact ⟨e, h2.1, h1, by rw [← zk]; exact h2.2⟩
  have hlk : ∀ k ∈ z.due.map (fun m => (⟨m.k.id, m.k.inc, 3⟩ : K)), CalmK g n k := fun k hk => by
    obtain ⟨m, hm, rfl⟩ := List.mem_map.1 hk
    obtain ⟨h1, h2, h3, _⟩ := hdg m hm
    have hc := h.calm.oth m h3
    exact ⟨hc.1, hc.2.1, by show (1 : Int) ≤ 3; omega, .inr ⟨h1, by show (3 : Int) ≤ 3; omega⟩⟩
  obtain ⟨c1, c2, c3⟩ := hzc.hears _ hlk
  have s := same_hears (z.due.map (fun m => (⟨m.k.id, m.k.inc, 3⟩ : K))) z
  rw [hcl]
  have hself : (List.foldl Nd.hear z (z.due.map (fun m => (⟨m.k.id, m.k.inc, 3⟩ : K)))).self = x.self := by
    rw [c1.self, h.calm.self]
  refine ⟨c1, fun i h1 h2 h3 => c2 i (hzk i h1 h2 h3), s.relays.trans zr, s.c.trans zc, s.probe.trans zp, s.clock.trans zk, s.seq.trans zs, hself, ?_⟩
  by_cases hd : z.due = []
  · rw [hd]
    simp only [List.map_nil, List.foldl_nil]
    rw [zo, zpa]
    rcases h.phase with ⟨m, hm, a, b, c, d⟩ | ⟨m, hm, a, b, c, d⟩ | ⟨m, hm, a, b⟩
    · exact .inl ⟨m, hm, a, b, rfl, c, d⟩
    · refine .inr (.inl ⟨m, hm, a, b, c, ?_⟩)
      rcases Int.lt_or_le (x.clock + 1) m.due with h' | h'
      · exact h'
      · exfalso
        have : m ∈ z.due := List.mem_filter.2 ⟨by rw [zo]; exact hm, by rw [zk]; simp [b, h']⟩
        rw [hd] at this; simp at this
    · exact .inr (.inr ⟨m, hm, a, b⟩)
  · obtain ⟨m0, r0, hm0⟩ := List.exists_cons_of_ne_nil hd
    have h0 := hdg m0 (by rw [hm0]; simp)
    refine .inr (.inr ?_)
    have hlt : ∃ m ∈ z.others, m.k.id = g ∧ m.k.st = 2 := ⟨m0, by rw [zo]; exact h0.2.2.1, h0.1, h0.2.1⟩
    -- after the first one it is dead; the rest are the same
    have hstep : ∀ (l : List K) (y : Nd), Calm g n 1 y → Known n 1 y → (∀ k ∈ l, CalmK g n k ∧ k.id = g ∧ k.st = 3) → (∃ m ∈ y.others, m.k.id = g ∧ (m.k.st = 3 ∨ (m.k.st = 2 ∧ l ≠ []))) → ∃ m ∈ (l.foldl Nd.hear y).others, m.k.id = g ∧ m.k.st = 3 := by
      intro l
      induction l with
      | nil =>
        intro y _ _ _ ⟨m, hm, a, b⟩
        rcases b with b | ⟨_, b⟩
        · exact ⟨m, hm, a, b⟩
        · exact absurd rfl b
      | cons k l ih =>
        intro y hy hyk hl ⟨m, hm, a, b⟩
        obtain ⟨k1, k2, k3⟩ := hl k (by simp)
        obtain ⟨y1, y2, y3⟩ := hy.hear k1
        refine ih _ y1 (fun i h1 h2 h3 => y2 i (hyk i h1 h2 h3)) (fun k' hk' => hl k' (by simp [hk'])) ?_
        rcases hy.hear_known hyk k1 with e | ⟨_, _, e⟩
        · rw [e]
          rcases b with b | ⟨b, _⟩
          · exact ⟨m, hm, a, .inl b⟩
          · exfalso
            -- it was less, so it was taken
            have hf : findM y.others k.id = some m := by
              cases hf : findM y.others k.id with
              | none => exact absurd (mem_ids.2 ⟨m, hm, by rw [a, k2]⟩) (findM_none hf)
              | some m' =>
                obtain ⟨h1, h2⟩ := findM_some hf
                rw [rise_inj hy.ok.rise h1 hm (by omega)]
            have hne : k.id ≠ y.self.id := by rw [hy.id, k2]; exact fun e => hy.ne e.symm
            have : y.hear k = y.taken k := by
              unfold Nd.hear
              rw [if_neg hne, hf]
              simp only
              have := (hy.oth m hm).1
              have := k1.1
              rw [if_pos (by simp only [lessK, decide_eq_true_eq]; omega)]
            have hin := taken_mem y k
            rw [← this, e] at hin
            have := rise_inj hy.ok.rise hin hm (by show k.id = _; omega)
            rw [← this] at b
            simp only at b
            omega
        · rw [e]
          exact ⟨_, taken_mem y k, k2, .inl k3⟩
    exact hstep _ z hzc hzk (fun k hk => ⟨hlk k hk, by
      obtain ⟨m, hm, rfl⟩ := List.mem_map.1 hk
      exact ⟨(hdg m hm).1, rfl⟩⟩) (by
      obtain ⟨m, hm, a, b⟩ := hlt
      exact ⟨m, hm, a, .inr ⟨b, by rw [hm0]; simp⟩⟩)
/-- The next probe begins. -/
theorem begins_find (hc : Calm g n 1 x) (hk : Known n 1 x) (hr : x.relays = []) (hper : x.c.period = P) (hsu : x.c.susp = S) (h2 : 2 ≤ g ∧ g ≤ n) (hpr : x.probe = none) (hs : 0 ≤ x.seq ∧ x.seq < 4294967295) (hD : D = 1 + P * (n - 1))
    (hph : (∃ m ∈ x.others, m.k.id = g ∧ m.k.st = 1 ∧ ((x.pass = [] ∧ x.clock = 1) ∨ ∃ pre post, x.pass = pre ++ g :: post ∧ x.clock + P * ((pre.length : Int) + 1) ≤ D)) ∨ (∃ m ∈ x.others, m.k.id = g ∧ m.k.st = 2 ∧ m.due ≤ D + S ∧ x.clock < m.due) ∨ (∃ m ∈ x.others, m.k.id = g ∧ m.k.st = 3)) :
    Sends g n P S D x.begins.1 x.begins.2 ∧ x.begins.2.clock = x.clock ∧ x.begins.2.seq ≤ x.seq + 1 ∧ 0 ≤ x.begins.2.seq := by
  have hcfg := cfg_bounds hc.ok.cfg
  have hlen := hc.known_len hk
  obtain ⟨k, l, _, hp1, hp2, hb⟩ := begins_calm hc hs
  have hmono : ∀ a b : Int, a ≤ b → P * a ≤ P * b := fun a b h => Int.mul_le_mul_of_nonneg_left h (by omega)
  have hPn : P * 1 ≤ P * (n - 1) := hmono _ _ (by omega)
  have hgl : (∃ m ∈ x.others, m.k.id = g ∧ m.k.st = 1) → x.pass = [] → g ∈ l := fun ⟨m, hm, a, b⟩ e => (hp1 e).symm.mem_iff.1 (List.mem_map.2 ⟨m, List.mem_filter.2 ⟨hm, by unfold here; rw [b]; rfl⟩, a⟩)
  have hll : x.pass = [] → (l.length : Int) ≤ n - 1 := fun e => by
    have := (hp1 e).length_eq
    rw [List.length_map] at this
    have h3 := List.length_filter_le here x.others
    omega
  rcases hb with ⟨rfl, hb⟩ | ⟨t, rest, m, q, rfl, hb, hcy, hm, hkind, htgt, hsq, hfrm, hin⟩
  · rw [hb]
    refine ⟨.inl ⟨{ calm := ?_, known := hk, relays := hr, per := hper, susp := hsu, two := h2, phase := ?_ }, fun p hp => ?_, by simp⟩, rfl, by show x.seq ≤ x.seq + 1; omega, hs.1⟩
    · refine { ok := ?_, self := hc.self, range := hc.range, ne := hc.ne, small := hc.small, clk := hc.clk, oth := hc.oth, que := hc.que }
      exact { hc.ok with pin := by simp, pnd := by simp }
    · rcases hph with ⟨m, hm, a, b, ⟨e, _⟩ | ⟨pre, post, e, _⟩⟩ | ⟨m, hm, a, b, c, d⟩ | ⟨m, hm, a, b⟩
      · have := hgl ⟨m, hm, a, b⟩ e; simp at this
      · have := hp2 (by rw [e]; simp); rw [e] at this; simp at this
      · exact .inr (.inl ⟨m, hm, a, b, c, d⟩)
      · exact .inr (.inr ⟨m, hm, a, b⟩)
    · have hp : x.probe = some p := hp
      rw [hpr] at hp; cases hp
  · rw [hb]
    have hF : Find g n P S D { x with at_ := k, pass := rest, probe := some ⟨t, x.seq + 1, x.clock, false⟩, seq := x.seq + 1, queue := q } := by
      refine { calm := hcy, known := hk, relays := hr, per := hper, susp := hsu, two := h2, phase := ?_ }
      rcases hph with ⟨m', hm', a, b, hw⟩ | ⟨m', hm', a, b, c, d⟩ | ⟨m', hm', a, b⟩
      · have hw' : x.clock + P ≤ D ∧ (t = g ∨ ∃ pre post, rest = pre ++ g :: post ∧ x.clock + P * ((pre.length : Int) + 2) ≤ D) := by
          rcases hw with ⟨e, e1⟩ | ⟨pre, post, e, hle⟩
          · have hg := hgl ⟨m', hm', a, b⟩ e
            have hl := hll e
            refine ⟨by omega, ?_⟩
            rcases List.mem_cons.1 hg with eg | hg
            · exact .inl eg.symm
            · obtain ⟨pre, post, e'⟩ := List.append_of_mem hg
              refine .inr ⟨pre, post, e', ?_⟩
              have : ((pre.length : Int) + 2) ≤ n - 1 := by
                rw [e'] at hl
                simp only [List.length_cons, List.length_append] at hl
                omega
              have := hmono _ _ this
              omega
          · have el := hp2 (by rw [e]; simp)
            rw [e] at el
            cases pre with
            | nil =>
              simp only [List.nil_append, List.cons.injEq] at el
              simp only [List.length_nil] at hle
              have e0 : P * (((0 : Nat) : Int) + 1) = P := by simp
              rw [e0] at hle
              exact ⟨hle, .inl el.1⟩
            | cons u pre' =>
              simp only [List.cons_append, List.cons.injEq] at el
              have e2 : P * (((u :: pre').length : Int) + 1) = P * ((pre'.length : Int) + 2) := by congr 1
              rw [e2] at hle
              have := hmono 1 ((pre'.length : Int) + 2) (by omega)
              exact ⟨by omega, .inr ⟨pre', post, el.2, hle⟩⟩
        refine .inl ⟨m', hm', a, b, by show x.clock ≤ D; omega, .inr ⟨_, rfl, ?_⟩⟩
        rcases hw'.2 with e | ⟨pre, post, e, hle⟩
        · exact .inl ⟨e, rfl, hw'.1⟩
        · exact .inr ⟨pre, post, e, hle⟩
      · exact .inr (.inl ⟨m', hm', a, b, c, d⟩)
      · exact .inr (.inr ⟨m', hm', a, b⟩)
    obtain ⟨mm, hmm, emm⟩ := mem_ids.1 hin
    have hrr := (hc.oth mm hmm).2.1
    have hns := hc.ok.notSelf mm hmm
    rw [hc.id, emm] at hns
    refine ⟨?_, rfl, Int.le_refl _, by show 0 ≤ x.seq + 1; omega⟩
    by_cases htg : t = g
    · refine .inl ⟨hF, fun p hp => ?_, fun q hq => ?_⟩
      · cases hp
        exact ⟨fun e => absurd htg e, by show x.clock < x.clock + P; omega⟩
      · rw [List.mem_singleton] at hq
        subst hq
        exact .inl htg
    · exact .inr ⟨t, m, rfl, hF, by rw [hsq], hm, hkind, htgt, hfrm, hns, htg, by omega⟩
/-- A tick. -/
theorem tick_find (h : Find g n P S D x) (hp : ProbeOk g P x) (hs : 0 ≤ x.seq ∧ x.seq < 4294967295) (hD : D = 1 + P * (n - 1)) :
    Sends g n P S D x.tick.1 x.tick.2 ∧ x.tick.2.clock = x.clock + 1 ∧ x.tick.2.seq ≤ x.seq + 1 ∧ 0 ≤ x.tick.2.seq := by
  have hcfg := cfg_bounds h.calm.ok.cfg
  have hper := h.per
  obtain ⟨zc, zk, zr, zcc, zp, zcl, zs, zse, zph⟩ := clocked_find h
  unfold Nd.tick
  simp only
  generalize x.clocked = z at zc zk zr zcc zp zcl zs zse zph
  have hst : z.self.st = 1 := by rw [zc.self]
  have hmono : ∀ a b : Int, a ≤ b → P * a ≤ P * b := fun a b h => Int.mul_le_mul_of_nonneg_left h (by omega)
  rcases Option.eq_none_or_eq_some x.probe with e | ⟨p, e⟩
  · have hw : z.waits = ([], z) := by
      unfold Nd.waits
      rw [zp, e]
    rw [hw, if_pos ⟨by rw [zp, e]; rfl, by show z.self.st ≠ 4; omega⟩]
    have := begins_find (D := D) (S := S) (P := P) zc zk zr (by rw [zcc]; exact h.per) (by rw [zcc]; exact h.susp) h.two (zp.trans e) (by rw [zs]; exact hs) hD (by
      rcases zph with ⟨m, hm, a, b, c, d, w⟩ | ⟨m, hm, a, b, c, d⟩ | h'
      · refine .inl ⟨m, hm, a, b, .inl ?_⟩
        rcases w with ⟨w1, w2, _⟩ | ⟨p, w, _⟩
        · exact ⟨c.trans w2, by omega⟩
        · rw [e] at w; cases w
      · exact .inr (.inl ⟨m, hm, a, b, c, by rw [zcl]; exact d⟩)
      · exact .inr (.inr h'))
    rw [zs, zcl] at this
    exact this
  · obtain ⟨hack, hclk⟩ := hp p e
    have hzp : z.probe = some p := zp.trans e
    obtain ⟨p1, p2, p3⟩ := h.calm.ok.prb p e
    by_cases hlt : z.clock - p.start < z.c.period
    · have hr : ∃ r : List Pk × Nd, z.waits = r ∧ Calm g n 1 r.2 ∧ (∃ k q, r.2 = { z with at_ := k, queue := q }) ∧ ∀ q ∈ r.1, q.1 = g ∨ (CalmM g n q.2 ∧ q.2.kind = 3 ∧ q.2.tgt = g ∧ q.2.frm = 1 ∧ q.1 ≠ 1) := by
        have hw : z.waits = ((if z.clock - p.start = z.c.wait ∧ p.acked = false then Nd.askAll p z.c.prox.toNat (z.helpers p) z else ([], z)).1, (if z.clock - p.start = z.c.wait ∧ p.acked = false then Nd.askAll p z.c.prox.toNat (z.helpers p) z else ([], z)).2.endProbe p) := by
          unfold Nd.waits
          rw [hzp]
        rw [hw]
        by_cases hcond : z.clock - p.start = z.c.wait ∧ p.acked = false
        · rw [if_pos hcond]
          have htg : p.tgt = g := by
            rcases Int.decEq p.tgt g with h' | h'
            · rw [hack h'] at hcond; simp at hcond
            · exact h'
          obtain ⟨a1, ⟨k, q, a2⟩, a3⟩ := askAll_calm (g := g) (n := n) (j := 1) p ⟨p1, by omega, by omega⟩ z.c.prox.toNat (z.helpers p) zc (fun i hi => zc.ok.ids_ok (helpers_in hi))
          refine ⟨_, rfl, ?_, ⟨k, q, ?_⟩, fun q hq => ?_⟩
          · have : (Nd.askAll p z.c.prox.toNat (z.helpers p) z).2.endProbe p = (Nd.askAll p z.c.prox.toNat (z.helpers p) z).2 := by
              unfold Nd.endProbe; rw [a2]; simp only; rw [if_pos hlt]
            rw [this]; exact a1
          · have : (Nd.askAll p z.c.prox.toNat (z.helpers p) z).2.endProbe p = (Nd.askAll p z.c.prox.toNat (z.helpers p) z).2 := by
              unfold Nd.endProbe; rw [a2]; simp only; rw [if_pos hlt]
            simp only
            rw [this]; exact a2
          · obtain ⟨b1, b2, b3, b4, b5⟩ := a3 q hq
            obtain ⟨mm, hmm, emm⟩ := mem_ids.1 (helpers_in b1)
            have := zc.ok.notSelf mm hmm
            rw [zc.id, emm] at this
            exact .inr ⟨b2, b3, b4.trans htg, b5, this⟩
        · rw [if_neg hcond]
          have : z.endProbe p = z := by unfold Nd.endProbe; rw [if_pos hlt]
          refine ⟨_, rfl, by rw [this]; exact zc, ⟨z.at_, z.queue, by rw [this]⟩, by simp⟩
      obtain ⟨r, er, rc, ⟨k, q, re⟩, rq⟩ := hr
      rw [er, if_neg (by rw [re]; simp [hzp])]
      have hcl : z.clock < p.start + P := by rw [zcc] at hlt; omega
      refine ⟨.inl ⟨{ calm := rc, known := by rw [re]; exact zk, relays := by rw [re]; exact zr, per := by rw [re]; show z.c.period = P; rw [zcc]; exact h.per, susp := by rw [re]; show z.c.susp = S; rw [zcc]; exact h.susp, two := h.two, phase := ?_ }, fun p' hp' => ?_, rq⟩, by rw [re]; exact zcl, by rw [re]; show z.seq ≤ _; omega, by rw [re]; show 0 ≤ z.seq; omega⟩
      · rw [re]
        rcases zph with ⟨m, hm, a, b, c, d, w⟩ | ⟨m, hm, a, b, c, d⟩ | h'
        · rcases w with ⟨_, _, w⟩ | ⟨p', w, w'⟩
          · rw [e] at w; cases w
          · rw [e] at w; cases w
            refine .inl ⟨m, hm, a, b, ?_, .inr ⟨p, hzp, ?_⟩⟩
            · show z.clock ≤ D
              rcases w' with ⟨_, _, w'⟩ | ⟨pre, post, _, w'⟩
              · omega
              · have := hmono 1 ((pre.length : Int) + 2) (by omega); omega
            · rcases w' with w' | ⟨pre, post, w', w''⟩
              · exact .inl w'
              · exact .inr ⟨pre, post, c.trans w', w''⟩
        · exact .inr (.inl ⟨m, hm, a, b, c, by show z.clock < m.due; omega⟩)
        · exact .inr (.inr h')
      · rw [re] at hp' ⊢
        have hp' : z.probe = some p' := hp'
        rw [hzp] at hp'
        cases hp'
        exact ⟨hack, hcl⟩
    · have hzcl : z.clock = p.start + P := by rw [zcc] at hlt; omega
      have hw : z.waits = ([], z.endProbe p) := by
        unfold Nd.waits
        rw [hzp]
        simp only
        rw [if_neg (by rw [zcc]; intro hcond; omega)]
      have hy0 : Calm g n 1 { z with probe := none } := { zc with ok := zc.ok.probeOf (fun q hq => by cases hq), self := zc.self, clk := zc.clk, oth := zc.oth, que := zc.que }
      have hy : ∃ y : Nd, z.endProbe p = y ∧ Calm g n 1 y ∧ Known n 1 y ∧ y.relays = [] ∧ y.c = x.c ∧ y.probe = none ∧ y.clock = z.clock ∧ y.seq = z.seq ∧ ((y.others = z.others ∧ y.pass = z.pass ∧ (p.tgt = g → p.acked = false → ∀ m ∈ z.others, m.k.id = g → m.k.st ≠ 1)) ∨ ∃ m ∈ y.others, m.k.id = g ∧ m.k.st = 2 ∧ m.due = z.clock + S ∧ p.tgt = g ∧ p.acked = false ∧ ∃ m0 ∈ z.others, m0.k.id = g ∧ m0.k.st = 1) := by
        unfold Nd.endProbe
        rw [if_neg hlt]
        simp only
        have hstay : (p.tgt = g → p.acked = false → ∀ m ∈ z.others, m.k.id = g → m.k.st ≠ 1) → ∃ y : Nd, ({ z with probe := none } : Nd) = y ∧ Calm g n 1 y ∧ Known n 1 y ∧ y.relays = [] ∧ y.c = x.c ∧ y.probe = none ∧ y.clock = z.clock ∧ y.seq = z.seq ∧ ((y.others = z.others ∧ y.pass = z.pass ∧ (p.tgt = g → p.acked = false → ∀ m ∈ z.others, m.k.id = g → m.k.st ≠ 1)) ∨ ∃ m ∈ y.others, m.k.id = g ∧ m.k.st = 2 ∧ m.due = z.clock + S ∧ p.tgt = g ∧ p.acked = false ∧ ∃ m0 ∈ z.others, m0.k.id = g ∧ m0.k.st = 1) :=
          fun hno => ⟨_, rfl, hy0, zk, zr, zcc, rfl, rfl, rfl, .inl ⟨rfl, rfl, hno⟩⟩
        cases hf : findM z.others p.tgt with
        | none =>
          simp only
          exact hstay (fun e1 _ m hm e2 _ => findM_none hf (mem_ids.2 ⟨m, hm, by omega⟩))
        | some m =>
          simp only
          obtain ⟨hm, hme⟩ := findM_some hf
          by_cases hcond : p.acked = false ∧ m.k.st = 1
          · rw [if_pos hcond]
            have htg : p.tgt = g := by
              rcases Int.decEq p.tgt g with h' | h'
              · rw [hack h'] at hcond; simp at hcond
              · exact h'
            have hcm := zc.oth m hm
            have hkc : CalmK g n ⟨m.k.id, m.k.inc, 2⟩ := ⟨hcm.1, hcm.2.1, by show (1 : Int) ≤ 2; omega, .inr ⟨by show m.k.id = g; omega, by show (2 : Int) ≤ 3; omega⟩⟩
            obtain ⟨c1, c2, c3⟩ := hy0.hear hkc
            have s := same_hear { z with probe := none } ⟨m.k.id, m.k.inc, 2⟩
            have ht : Nd.hear { z with probe := none } ⟨m.k.id, m.k.inc, 2⟩ = Nd.taken { z with probe := none } ⟨m.k.id, m.k.inc, 2⟩ := by
              have hne := zc.ok.notSelf m hm
              unfold Nd.hear
              simp only
              rw [if_neg hne, hme, hf]
              simp only
              have h1 := hcond.2
              rw [if_pos (by unfold lessK; exact decide_eq_true (.inr ⟨rfl, by show m.k.st < 2; omega⟩))]
            refine ⟨_, rfl, c1, fun i h1 h2 h3 => c2 i (zk i h1 h2 h3), s.relays.trans zr, s.c.trans zcc, s.probe, s.clock, s.seq, .inr ?_⟩
            rw [ht]
            refine ⟨_, taken_mem _ _, by show m.k.id = g; omega, rfl, ?_, htg, hcond.1, m, hm, by omega, hcond.2⟩
            show z.clock + z.c.susp = z.clock + S
            rw [zcc, h.susp]
          · rw [if_neg hcond]
            exact hstay (fun e1 e2 m' hm' e3 e4 => hcond ⟨e2, by rw [rise_inj zc.ok.rise hm hm' (by omega)]; exact e4⟩)
      obtain ⟨y, ey, yc, yk, yr, ycc, yp, ycl, ys, yph⟩ := hy
      rw [hw]
      simp only
      rw [ey, if_pos ⟨by rw [yp]; rfl, by rw [yc.self]; simp⟩]
      have hb := begins_find (D := D) (S := S) (P := P) yc yk yr (by rw [ycc]; exact h.per) (by rw [ycc]; exact h.susp) h.two yp (by rw [ys, zs]; exact hs) hD (by
        rcases yph with ⟨yo, ypa, hno⟩ | ⟨m, hm, a, b, c, d, dd, m0, hm0, a0, b0⟩
        · rw [yo, ypa, ycl]
          rcases zph with ⟨m, hm, a, b, c, d, w⟩ | ⟨m, hm, a, b, c, d⟩ | h'
          · refine .inl ⟨m, hm, a, b, .inr ?_⟩
            rcases w with ⟨_, _, w⟩ | ⟨p', w, w'⟩
            · rw [e] at w; cases w
            · rw [e] at w; cases w
              rcases w' with ⟨w1, w2, _⟩ | ⟨pre, post, w', w''⟩
              · exact absurd b (hno w1 w2 m hm a)
              · refine ⟨pre, post, c.trans w', ?_⟩
                have e3 : P * ((pre.length : Int) + 2) = P * ((pre.length : Int) + 1) + P := by
                  have : ((pre.length : Int) + 2) = ((pre.length : Int) + 1) + 1 := by omega
                  rw [this, Int.mul_add]; simp
                omega
          · exact .inr (.inl ⟨m, hm, a, b, c, by omega⟩)
          · exact .inr (.inr h')
        · refine .inr (.inl ⟨m, hm, a, b, ?_, ?_⟩)
          · rcases zph with ⟨m', hm', a', b', c', d', w⟩ | ⟨m', hm', a', b', _⟩ | ⟨m', hm', a', b'⟩
            · rcases w with ⟨_, _, w⟩ | ⟨p', w, w'⟩
              · rw [e] at w; cases w
              · rw [e] at w; cases w
                rcases w' with ⟨_, _, w'⟩ | ⟨pre, post, _, w'⟩
                · omega
                · have := hmono 1 ((pre.length : Int) + 2) (by omega); omega
            all_goals
              have := rise_inj zc.ok.rise hm0 hm' (by omega)
              subst this; omega
          · rw [ycl, c]
            have : S = x.c.susp := h.susp.symm
            omega)
      rw [ys, ycl, zs, zcl] at hb
      exact hb
end
end Go.Proofs.YtfngdplkcppabaaGreat
