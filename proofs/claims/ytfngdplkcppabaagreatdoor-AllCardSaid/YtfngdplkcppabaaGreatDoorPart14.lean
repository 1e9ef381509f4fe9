/-
  Texts of the proof: NdOp, Send, SendH, AnsA. No condition.
-/
import Derived.Test.YtfngdplkcppabaaGreatDoorPart01
import Derived.Test.YtfngdplkcppabaaGreatDoorPart09
import Derived.Test.YtfngdplkcppabaaGreatDoorPart02
import Derived.Test.YtfngdplkcppabaaGreatDoorPart12
import Derived.Test.YtfngdplkcppabaaGreatDoorPart13
import Derived.Deep.RegionLaw
set_option linter.all false
set_option maxRecDepth 100000
set_option maxHeartbeats 4000000
namespace Go.Proofs.YtfngdplkcppabaaGreatDoor
open Go.RowKit
theorem keyB_of {k : K} (h : Jp k) : keyB k = true := keyB_iff.2 h
theorem keyOk_of {k : K} (h : keyB k = true) : Jp k := keyB_iff.1 h
def PkOk (p : Pk) : Prop := Jn p.2 = true /\ idOk p.1
theorem whole_of {m : M} (hr : (m.kind = 1 \/ m.kind = 2 \/ m.kind = 3) /\ idOk m.tgt /\ m.ups.length <= 4 \/ (m.kind = 4 \/ m.kind = 5) /\ m.tgt = 0 /\ m.ups.length <= 8) (hf : idOk m.frm) (hi : 1 <= m.inc /\ m.inc <= 1073741824) (hs : 0 <= m.seq /\ m.seq <= 4294967295) (hu : ∀ k ∈ m.ups, Jp k) : Jn m = true := by
 have hall : m.ups.all keyB = true := List.all_eq_true.2 (fun k hk => keyB_of (hu k hk))
 have h1 : Kl m.frm 1 250 = true := withinB_iff.2 hf; have h2 : Kl m.inc 1 1073741824 = true := withinB_iff.2 hi; have h3 : Kl m.seq 0 4294967295 = true := withinB_iff.2 hs; unfold Jn; rw [hall, h1, h2, h3]; simp only [Bool.and_true, Bool.and_eq_true, Bool.not_eq_true', decide_eq_false_iff_not]; rcases hr with ⟨hk, ht, hl⟩ | ⟨hk, ht, hl⟩
 · have hr : Jy m.kind = 4 := by unfold Jy; rw [if_pos hk]
   unfold tgtB; rw [hr]; refine ⟨?_, by omega⟩
   rw [if_neg (by omega)]
   exact withinB_iff.2 ht
 · have hr : Jy m.kind = 8 := by unfold Jy; rw [if_neg (by omega), if_pos hk]
   unfold tgtB; rw [hr]; refine ⟨?_, by omega⟩
   rw [if_pos rfl, ht]; rfl
theorem Ok.firstKeys {x : Nd} (h : Ok x) : ∀ k ∈ x.first.map (·.k), Jp k := fun k hk => by
 obtain ⟨u, hu, rfl⟩ := List.mem_map.1 hk; exact (h.qkey u (first_mem hu)).1
theorem Ok.low {x : Nd} (h : Ok x) {kind seq tgt : Int} (hk : kind = 1 \/ kind = 2 \/ kind = 3) (hs : 0 <= seq /\ seq <= 4294967295) (ht : idOk tgt) (f i : Int) (l : List K) : Jn (x.msg ⟨kind, f, i, seq, tgt, l⟩) = true := by
 have e : (x.msg ⟨kind, f, i, seq, tgt, l⟩).ups = x.first.map (·.k) := by
  show (if kind < 4 then x.first.map (·.k) else l) = _
  rw [if_pos (by omega)]
 refine whole_of (.inl ⟨hk, ht, by rw [e, List.length_map]; exact first_len x⟩) h.self.1 h.self.2.1 hs (by rw [e]; exact h.firstKeys)
theorem Ok.high {x : Nd} (h : Ok x) {kind seq : Int} (hk : kind = 4 \/ kind = 5) (hs : 0 <= seq /\ seq <= 4294967295) (f i : Int) {l : List K} (hl : l.length <= 8) (hu : ∀ k ∈ l, Jp k) : Jn (x.msg ⟨kind, f, i, seq, 0, l⟩) = true := by
 have e : (x.msg ⟨kind, f, i, seq, 0, l⟩).ups = l := by
  show (if kind < 4 then x.first.map (·.k) else l) = _
  rw [if_neg (by omega)]
 refine whole_of (.inr ⟨hk, rfl, by rw [e]; exact hl⟩) h.self.1 h.self.2.1 hs (by rw [e]; exact hu)
/-! ### next, pinged, acked, asked, joined -/
theorem Ok.next {x : Nd} (h : Ok x) : Ok x.next :=
 { h with
   rok := fun r hr => by obtain ⟨a, b⟩ := h.rok r hr; exact ⟨⟨a.1, by show r.seq <= x.seq + 1; omega⟩, b⟩
   prb := fun p hp => by obtain ⟨a, b, c⟩ := h.prb p hp; exact ⟨a, ⟨b.1, by show p.seq <= x.seq + 1; omega⟩, c⟩ }
theorem Bd.next {B : Int} {x : Nd} (h : Bd B x) : Bd (B + 1) x.next := by
 have := h.seq; have k := h.mono (C := B + 1) (by omega)
 exact ⟨k.clock, ⟨by show 0 <= x.seq + 1; omega, by show x.seq + 1 <= B + 1; omega⟩, k.dropped, k.lost, k.at_⟩
theorem Ok.relaysOf {x : Nd} (h : Ok x) {l : List Rel} (hl : l.Sublist x.relays) : Ok { x with relays := l } :=
 { h with
   rnd := h.rnd.sublist (hl.map _)
   rlen := Nat.le_trans hl.length_le h.rlen
   rok := fun r hr => h.rok r (hl.subset hr) }
theorem Ok.probeOf {x : Nd} (h : Ok x) {p : Option Prb} (hp : ∀ q, p = some q -> idOk q.tgt /\ (1 <= q.seq /\ q.seq <= x.seq) /\ (0 <= q.start /\ q.start <= x.clock)) : Ok { x with probe := p } := { h with prb := hp }
theorem Ok.ackProbe {x : Nd} (h : Ok x) (m : M) : Ok { x with probe := ackProbe x.probe m } := by
 refine h.probeOf (fun q hq => ?_)
 unfold Go.Proofs.YtfngdplkcppabaaGreatDoor.ackProbe at hq; cases hp : x.probe with
 | none => rw [hp] at hq; cases hq
 | some p =>
  rw [hp] at hq; have := h.prb p hp; simp only [Option.map_some, Option.some.injEq] at hq; subst hq
  split
  · exact this
  · exact this
structure MOk (m : M) : Prop where
 frm : idOk m.frm
 inc : 1 <= m.inc /\ m.inc <= 1073741824
 seq : 0 <= m.seq /\ m.seq <= 4294967295
 tgt : (m.kind = 1 \/ m.kind = 2 \/ m.kind = 3) -> idOk m.tgt
 kind : 1 <= m.kind /\ m.kind <= 5
 len : m.ups.length <= 8
 ups : ∀ k ∈ m.ups, Jp k
theorem mok_of {m : M} (h : Jn m = true) : MOk m := by
 obtain ⟨h1, h2, h3, h4, h5, h6, h7⟩ := whole_fields h; refine ⟨h2, h3, h4, fun hk => ?_, h1, h6, fun k hk => keyOk_of (h7 k hk)⟩
 unfold Jn at h; simp only [Bool.and_eq_true] at h; have ht := h.1.1.1.1.1; unfold tgtB at ht; have hr : Jy m.kind = 4 := by unfold Jy; rw [if_pos hk]
 rw [hr, if_neg (by omega)] at ht
 exact withinB_iff.1 ht
structure Good (B : Int) (r : List Pk × Nd) : Prop where
 ok : Ok r.2
 bd : Bd B r.2
 pks : ∀ p ∈ r.1, PkOk p
theorem Good.mono {B C : Int} {r : List Pk × Nd} (h : Good B r) (hc : B <= C) : Good C r := ⟨h.ok, h.bd.mono hc, h.pks⟩
theorem Good.nil {B : Int} {x : Nd} (h : Ok x) (hb : Bd B x) : Good B ([], x) := ⟨h, hb, by simp⟩
theorem good_low {B : Int} {x : Nd} (h : Ok x) (hb : Bd B x) {toN kind seq tgt : Int} (hto : idOk toN) (hk : kind = 1 \/ kind = 2 \/ kind = 3) (hs : 0 <= seq /\ seq <= 4294967295) (ht : idOk tgt) :
  Good B ([(toN, x.msg ⟨kind, 0, 0, seq, tgt, []⟩)], x.sent ⟨kind, 0, 0, seq, tgt, []⟩) :=
 ⟨h.sent _, hb.sent _, fun p hp => by rw [List.mem_singleton] at hp; subst hp; exact ⟨h.low hk hs ht _ _ _, hto⟩⟩
theorem good_pinged {B : Int} {x : Nd} (h : Ok x) (hb : Bd B x) {m : M} (hm : MOk m) (hk : m.kind = 1 \/ m.kind = 3) : Good B (x.pinged m) := by
 unfold Nd.pinged
 split
 · exact good_low h hb hm.frm (.inr (.inl rfl)) hm.seq (hm.tgt (by omega))
 · exact Good.nil h hb
theorem good_acked {B : Int} {x : Nd} (h : Ok x) (hb : Bd B x) {m : M} : Good B (x.acked m) := by
 have h1 := h.ackProbe m; have hb1 : Bd B { x with probe := ackProbe x.probe m } := ⟨hb.clock, hb.seq, hb.dropped, hb.lost, hb.at_⟩; unfold Nd.acked; simp only; cases hf : x.relays.find? (fun r => r.seq == m.seq && r.tgt == m.tgt) with
 | none => exact Good.nil h1 hb1
 | some r =>
  simp only; have hr := h.rok r (List.mem_of_find?_eq_some hf); have h2 : Ok { x with probe := ackProbe x.probe m, relays := x.relays.filter (fun r => !(r.seq == m.seq)) } := h1.relaysOf List.filter_sublist
  have hb2 : Bd B { x with probe := ackProbe x.probe m, relays := x.relays.filter (fun r => !(r.seq == m.seq)) } := ⟨hb.clock, hb.seq, hb.dropped, hb.lost, hb.at_⟩
  exact good_low h2 hb2 hr.2.2.1 (.inr (.inl rfl)) hr.2.2.2.1 hr.2.1
theorem cfg_bounds {c : Cfg} (h : cfgB c = true) : (1 <= c.self /\ c.self <= 250) /\ (4 <= c.period /\ c.period <= 50) /\ (1 <= c.wait /\ c.wait <= c.period - 2) /\ (1 <= c.susp /\ c.susp <= 500) /\ (0 <= c.prox /\ c.prox <= 3) /\ (1 <= c.sends /\ c.sends <= 8) := by
 simp only [cfgB, Kl, Bool.and_eq_true, decide_eq_true_eq] at h; omega
theorem good_asked {B : Int} {x : Nd} (h : Ok x) (hb : Bd B x) (hB : B <= 4000000000) {m : M} (hm : MOk m) (hk : m.kind = 3) : Good (B + 1) (x.asked m) := by
 unfold Nd.asked
 split
 · exact (good_pinged h hb hm (.inr hk)).mono (by omega)
 · split
   · exact (Good.nil h hb).mono (by omega)
   · rename_i hn hl
     have hc := cfg_bounds h.cfg; have hs := hb.seq; have hcl := hb.clock
     have h1 : Ok { x.next with relays := x.relays ++ [⟨x.seq + 1, m.tgt, m.frm, m.seq, x.clock + x.c.period⟩] } :=
      { h.next with
        rnd := by
         show (rids (x.relays ++ [_])).Nodup
         simp only [rids, List.map_append, List.map_cons, List.map_nil]; rw [List.nodup_append]; refine ⟨h.rnd, by simp, fun a ha b hb' hab => ?_⟩
         obtain ⟨r, hr, rfl⟩ := List.mem_map.1 ha; have := (h.rok r hr).1; simp only [List.mem_singleton] at hb'; omega
        rlen := by
         show (x.relays ++ [_]).length <= 4
         have := h.rlen; rw [List.length_append, List.length_singleton]; omega
        rok := fun r hr => by
         have hr : r ∈ x.relays ++ [⟨x.seq + 1, m.tgt, m.frm, m.seq, x.clock + x.c.period⟩] := hr; rcases List.mem_append.1 hr with hr | hr
         · exact h.next.rok r hr
         · rw [List.mem_singleton] at hr
           subst hr; exact ⟨⟨by show 1 <= x.seq + 1; omega, Int.le_refl _⟩, hm.tgt (.inr (.inr hk)), hm.frm, hm.seq, by show 0 <= x.clock + x.c.period; omega, by show x.clock + x.c.period <= x.clock + 50; omega⟩ }
     have hb1 := hb.next; have hb2 : Bd (B + 1) { x.next with relays := x.relays ++ [⟨x.seq + 1, m.tgt, m.frm, m.seq, x.clock + x.c.period⟩] } := ⟨hb1.clock, hb1.seq, hb1.dropped, hb1.lost, hb1.at_⟩; exact good_low h1 hb2 (hm.tgt (.inr (.inr hk))) (.inl rfl) (by omega) (hm.tgt (.inr (.inr hk)))
theorem putK_len (k : K) (l : List K) : (putK k l).length = l.length + 1 := by
 induction l with
 | nil => rfl
 | cons a r ih => unfold putK; split; · simp [ih]
                  simp
theorem mem_putK {k a : K} {l : List K} : a ∈ putK k l ↔ a = k \/ a ∈ l := by
 induction l with
 | nil => simp [putK]
 | cons b r ih => unfold putK; split; · simp only [List.mem_cons, ih]; exact ⟨fun h => by rcases h with h | h | h <;> simp [h], fun h => by rcases h with h | h | h <;> simp [h]⟩
                  simp
theorem good_joined {B : Int} {x : Nd} (h : Ok x) (hb : Bd B x) {m : M} (hm : MOk m) : Good B (x.joined m) := by
 refine ⟨h, hb, fun p hp => ?_⟩
 unfold Nd.joined at hp; simp only [List.mem_singleton] at hp; subst hp; refine ⟨h.high (.inr rfl) hm.seq _ _ (by rw [putK_len, List.length_map]; have := h.len; omega) (fun k hk => ?_), hm.frm⟩
 rcases mem_putK.1 hk with rfl | hk
 · exact h.self
 · obtain ⟨m, hm, rfl⟩ := List.mem_map.1 hk
   exact h.key m hm
theorem good_answer {B : Int} {x : Nd} (h : Ok x) (hb : Bd B x) (hB : B <= 4000000000) {m : M} (hm : MOk m) : Good (B + 1) (x.answer m) := by
 unfold Nd.answer
 split
 · rename_i e
   exact (good_pinged h hb hm (.inl e)).mono (by omega)
 · split
   · exact (good_acked h hb).mono (by omega)
   · split
     · rename_i e
       exact good_asked h hb hB hm e
     · split
       · exact (good_joined h hb hm).mono (by omega)
       · exact (Good.nil h hb).mono (by omega)
theorem ok_heardAll {x : Nd} (h : Ok x) (h0 : 0 <= x.clock) {m : M} (hm : MOk m) : Ok (x.heardAll m) :=
 (h.hear h0 (k := ⟨m.frm, m.inc, 1⟩) ⟨hm.frm, hm.inc, by show (1 : Int) <= 1 /\ (1 : Int) <= 4; omega⟩).hears (by rw [(same_hear _ _).clock]; exact h0) _ hm.ups
theorem bd_heardAll {B : Int} {x : Nd} (h : Bd B x) {m : M} (hm : MOk m) : Bd (B + 9) (x.heardAll m) :=
 (Bd.hears m.ups (h.hear ⟨m.frm, m.inc, 1⟩)).mono (by have := hm.len; omega)
theorem good_receive {B : Int} {x : Nd} (h : Ok x) (hb : Bd B x) (hB : B <= 3999999000) (o : Option M) (hm : ∀ m, o = some m -> MOk m) : Good (B + 10) (x.receive o) := by
 have hd : Good (B + 10) ([], { x with dropped := x.dropped + 1 }) := by
  have := hb.dropped; have k := hb.mono (C := B + 10) (by omega)
  exact ⟨{ h with }, ⟨k.clock, k.seq, ⟨by show 0 <= x.dropped + 1; omega, by show x.dropped + 1 <= B + 10; omega⟩, k.lost, k.at_⟩, by simp⟩
 unfold Nd.receive; cases o with
 | none => exact hd
 | some m =>
  simp only
  split
  · exact hd
  · have hm := hm m rfl
    exact (good_answer (ok_heardAll h hb.clock.1 hm) (bd_heardAll hb hm) (by omega) hm).mono (by omega)
theorem good_join {B : Int} {x : Nd} (h : Ok x) (hb : Bd B x) (hB : B <= 4000000000) (n : Int) : Good (B + 1) ((x.join n).1, (x.join n).2.2) := by
 unfold Nd.join
 split
 · exact (Good.nil h hb).mono (by omega)
 · split
   · exact (Good.nil h hb).mono (by omega)
   · rename_i h1 h2
     have hs := hb.seq; refine ⟨h.next, hb.next, fun p hp => ?_⟩
     simp only [List.mem_singleton] at hp; subst hp; exact ⟨h.next.high (.inl rfl) (by omega) _ _ (by simp) (by simp), by unfold idOk; omega⟩
theorem ok_leave {x : Nd} (h : Ok x) : Ok x.leave.2 := by
 unfold Nd.leave
 split
 · exact h
 · have hs : Jp { x.self with st := 4 } := ⟨h.self.1, h.self.2.1, by show (1 : Int) <= 4 /\ (4 : Int) <= 4; omega⟩
   have h' : Ok { x with self := { x.self with st := 4 } } := { h with self := hs }; exact h'.changed hs (.inl rfl)
theorem bd_changed {B : Int} {x : Nd} (h : Bd B x) (k : K) : Bd (B + 1) (x.changed k) := by
 have hl := lost_changed x k; have h4 := h.lost; have m := h.mono (C := B + 1) (by omega)
 exact ⟨m.clock, m.seq, m.dropped, by omega, m.at_⟩
theorem bd_leave {B : Int} {x : Nd} (h : Bd B x) : Bd (B + 1) x.leave.2 := by
 unfold Nd.leave
 split
 · exact h.mono (by omega)
 · exact bd_changed (x := { x with self := { x.self with st := 4 } }) ⟨h.clock, h.seq, h.dropped, h.lost, h.at_⟩ _
/-! ### the tick -/
theorem ok_draw {x : Nd} (h : Ok x) (n : Int) : Ok (x.draw n).2 := by
 unfold Nd.draw; split
 · exact h
 · exact { h with }
theorem bd_draw {B : Int} {x : Nd} (h : Bd B x) (n : Int) : Bd (B + 1) (x.draw n).2 := by
 have m := h.mono (C := B + 1) (by omega)
 unfold Nd.draw; split
 · exact m
 · have := h.at_
   exact ⟨m.clock, m.seq, m.dropped, m.lost, by show ((x.at_ + 1 : Nat) : Int) <= B + 1; omega⟩
theorem draw_range (x : Nd) {n : Int} (hn : 0 < n) : 0 <= (x.draw n).1 /\ (x.draw n).1 < n := by
 unfold Nd.draw; split
 · exact ⟨Int.le_refl _, hn⟩
 · exact ⟨Int.emod_nonneg _ (by omega), Int.emod_lt_of_pos _ hn⟩
theorem draw_eq (x : Nd) (n : Int) : ∃ k, (x.draw n).2 = { x with at_ := k } := by
 unfold Nd.draw; split
 · exact ⟨x.at_, rfl⟩
 · exact ⟨_, rfl⟩
theorem good_askAll (p : Prb) (hp : idOk p.tgt /\ 0 <= p.seq /\ p.seq <= 4294967295) : ∀ (n : Nat) (l : List Int) {B : Int} {x : Nd}, Ok x -> Bd B x -> (∀ i ∈ l, idOk i) -> Good (B + n) (Nd.askAll p n l x) := by
 intro n
 induction n with
 | zero => intro l B x h hb _; exact (Good.nil h hb).mono (by omega)
 | succ n ih =>
  intro l B x h hb hl; unfold Nd.askAll
  split
  · exact (Good.nil h hb).mono (by omega)
  · rename_i hne
    simp only; have hlen : 0 < l.length := List.length_pos_iff.2 hne; obtain ⟨d0, d1⟩ := draw_range x (n := (l.length : Int)) (by omega)
    have hd : (x.draw l.length).1.toNat < l.length := by omega
    have hg := good_low (ok_draw h (l.length : Int)) (bd_draw hb (l.length : Int)) (toN := l.getD (x.draw l.length).1.toNat 0) (kind := 3) (seq := p.seq) (tgt := p.tgt)
     (hl _ (by rw [List.getD_eq_getElem?_getD, List.getElem?_eq_getElem hd]; exact List.getElem_mem hd)) (.inr (.inr rfl)) hp.2 hp.1
    have hr := ih (l.eraseIdx (x.draw l.length).1.toNat) hg.ok hg.bd (fun i hi => hl i (List.mem_of_mem_eraseIdx hi))
    refine ⟨hr.ok, hr.bd.mono (by omega), fun q hq => ?_⟩
    rcases List.mem_cons.1 hq with rfl | hq
    · exact hg.pks _ (by simp)
    · exact hr.pks q hq
theorem Ok.ids_ok {x : Nd} (h : Ok x) {n : Int} (hn : n ∈ Zf x.others) : idOk n := by
 obtain ⟨m, hm, rfl⟩ := Jk.1 hn; exact (h.key m hm).1
theorem helpers_in {x : Nd} {p : Prb} {n : Int} (h : n ∈ x.helpers p) : n ∈ Zf x.others := by
 obtain ⟨m, hm, rfl⟩ := List.mem_map.1 h; exact Jk.2 ⟨m, (List.mem_filter.1 hm).1, rfl⟩
theorem ok_endProbe {x : Nd} (h : Ok x) (hc : 0 <= x.clock) (p : Prb) : Ok (x.endProbe p) := by
 have h1 : Ok { x with probe := none } := h.probeOf (fun q hq => by cases hq)
 unfold Nd.endProbe
 split
 · exact h
 · simp only
   split
   · exact h1
   · rename_i m hf
     split
     · obtain ⟨hm, e⟩ := Zd hf
       exact h1.hear hc ⟨(h.key m hm).1, (h.key m hm).2.1, by show (1 : Int) <= 2 /\ (2 : Int) <= 4; omega⟩
     · exact h1
theorem bd_endProbe {B : Int} {x : Nd} (h : Bd B x) (p : Prb) : Bd (B + 1) (x.endProbe p) := by
 have h1 : Bd B { x with probe := none } := ⟨h.clock, h.seq, h.dropped, h.lost, h.at_⟩; unfold Nd.endProbe
 split
 · exact h.mono (by omega)
 · simp only
   split
   · exact h1.mono (by omega)
   · split
     · exact h1.hear _
     · exact h1.mono (by omega)
theorem good_waits {B : Int} {x : Nd} (h : Ok x) (hb : Bd B x) (hB : B <= 4000000000) : Good (B + 4) x.waits := by
 unfold Nd.waits; cases hp : x.probe with
 | none => exact (Good.nil h hb).mono (by omega)
 | some p =>
  simp only; obtain ⟨p1, p2, p3⟩ := h.prb p hp; have hs := hb.seq; have hc := cfg_bounds h.cfg
  have hg : Good (B + 3) (if x.clock - p.start = x.c.wait /\ p.acked = false then Nd.askAll p x.c.prox.toNat (x.helpers p) x else ([], x)) := by
   split
   · exact (good_askAll p ⟨p1, by omega, by omega⟩ _ _ h hb (fun i hi => h.ids_ok (helpers_in hi))).mono (by omega)
   · exact (Good.nil h hb).mono (by omega)
  exact ⟨ok_endProbe hg.ok hg.bd.clock.1 p, (bd_endProbe hg.bd p).mono (by omega), hg.pks⟩
theorem swapL_len (l : List Int) (i j : Nat) : (swapL l i j).length = l.length := by simp [swapL]
theorem swapL_perm {l : List Int} {i j : Nat} (hi : i < l.length) (hj : j < l.length) : (swapL l i j).Perm l := by
 unfold swapL; have ei : l.getD i 0 = l[i] := by simp [hi]
 have ej : l.getD j 0 = l[j] := by simp [hj]
 rw [ei, ej]; exact List.set_set_perm hi hj
theorem mix_all (i : Nat) : ∀ (l : List Int) {B : Int} {x : Nd}, Ok x -> Bd B x -> (i < l.length \/ i = 0) -> (Nd.mix i l x).1.Perm l /\ Ok (Nd.mix i l x).2 /\ Bd (B + i) (Nd.mix i l x).2 /\ ∃ k, (Nd.mix i l x).2 = { x with at_ := k } := by
 induction i with
 | zero => intro l B x h hb _; exact ⟨List.Perm.refl _, h, hb.mono (by omega), x.at_, rfl⟩
 | succ i ih =>
  intro l B x h hb hl; unfold Nd.mix; have hl : i + 1 < l.length := by omega
  obtain ⟨d0, d1⟩ := draw_range x (n := ((i : Int) + 2)) (by omega)
  obtain ⟨h1, h2, h3, k, hk⟩ := ih (swapL l (i + 1) (x.draw (i + 2)).1.toNat) (ok_draw h _) (bd_draw hb _) (.inl (by rw [swapL_len]; omega))
  refine ⟨h1.trans (swapL_perm hl (by omega)), h2, h3.mono (by omega), k, ?_⟩
  obtain ⟨k', hk'⟩ := draw_eq x ((i : Int) + 2); rw [hk, hk']
theorem hereIds_in {x : Nd} {n : Int} (h : n ∈ (x.others.filter here).map (·.k.id)) : n ∈ Zf x.others := by
 obtain ⟨m, hm, rfl⟩ := List.mem_map.1 h; exact Jk.2 ⟨m, (List.mem_filter.1 hm).1, rfl⟩
theorem newPass_all {B : Int} {x : Nd} (h : Ok x) (hb : Bd B x) : Ok x.newPass /\ Bd (B + 7) x.newPass /\ (∃ k l, x.newPass = { x with at_ := k, pass := l }) /\
  (x.pass = [] -> x.newPass.pass.Perm ((x.others.filter here).map (·.k.id))) /\ (x.pass ≠ [] -> x.newPass = x) := by
 unfold Nd.newPass
 split
 · rename_i e
   simp only
   have hlen : ((x.others.filter here).map (·.k.id)).length <= 7 := by
    rw [List.length_map]; exact Nat.le_trans (List.length_filter_le _ _) h.len
   obtain ⟨h1, h2, h3, k, hk⟩ := mix_all (((x.others.filter here).map (·.k.id)).length - 1) ((x.others.filter here).map (·.k.id)) h hb (by omega)
   refine ⟨?_, ?_, ⟨k, _, by rw [hk]⟩, fun _ => h1, fun hne => absurd e hne⟩
   · exact { h2 with
             pin := fun n hn => by
              have := hereIds_in (h1.mem_iff.1 hn); rw [hk]; exact this
             pnd := by show (Nd.mix _ _ x).1.length <= 7; rw [h1.length_eq]; exact hlen }
   · exact ⟨h3.mono (C := B + 7) (by omega) |>.clock, h3.mono (C := B + 7) (by omega) |>.seq, h3.mono (C := B + 7) (by omega) |>.dropped, h3.mono (C := B + 7) (by omega) |>.lost, h3.mono (C := B + 7) (by omega) |>.at_⟩
 · rename_i e
   exact ⟨h, hb.mono (by omega), ⟨x.at_, x.pass, rfl⟩, fun e' => absurd e' e, fun _ => rfl⟩
theorem good_begins {B : Int} {x : Nd} (h : Ok x) (hb : Bd B x) (hB : B <= 4000000000) : Good (B + 8) x.begins := by
 obtain ⟨h1, h2, _⟩ := newPass_all h hb; unfold Nd.begins; simp only
 generalize x.newPass = y at h1 h2
 cases hp : y.pass with
 | nil => exact (Good.nil h1 h2).mono (by omega)
 | cons t rest =>
  simp only; have hs := h2.seq; have hcl := h2.clock; have hin : ∀ n ∈ t :: rest, n ∈ Zf y.others := fun n hn => h1.pin n (by rw [hp]; exact hn)
  have ht : idOk t := h1.ids_ok (hin t (by simp))
  have h3 : Ok { y.next with pass := rest, probe := some ⟨t, y.seq + 1, y.clock, false⟩ } :=
   { h1.next with
     pin := fun n hn => hin n (List.mem_cons_of_mem _ hn)
     pnd := by have := h1.pnd; rw [hp, List.length_cons] at this; show rest.length <= 7; omega
     prb := fun p hp => by
      cases hp
      exact ⟨ht, ⟨by show 1 <= y.seq + 1; omega, Int.le_refl _⟩, hcl.1, Int.le_refl _⟩ }
  have h4 := h2.next; have h5 : Bd (B + 8) { y.next with pass := rest, probe := some ⟨t, y.seq + 1, y.clock, false⟩ } := ⟨(h4.mono (C := B + 8) (by omega)).clock, (h4.mono (C := B + 8) (by omega)).seq, (h4.mono (C := B + 8) (by omega)).dropped, (h4.mono (C := B + 8) (by omega)).lost, (h4.mono (C := B + 8) (by omega)).at_⟩
  exact good_low h3 h5 ht (.inl rfl) (by omega) ht
theorem foldl_hears (l : List Mem) (st : Int) (x : Nd) : l.foldl (fun y m => y.hear ⟨m.k.id, m.k.inc, st⟩) x = (l.map (fun m => (⟨m.k.id, m.k.inc, st⟩ : K))).foldl Nd.hear x := by
 induction l generalizing x with
 | nil => rfl
 | cons a r ih => exact ih _
theorem clocked_all {B : Int} {x : Nd} (h : Ok x) (hb : Bd B x) : Ok x.clocked /\ Bd (B + 8) x.clocked := by
 have h1 : Ok { x with clock := x.clock + 1, relays := x.relays.filter (fun r => decide (x.clock + 1 < r.ends)) } :=
  { h.relaysOf (l := x.relays.filter (fun r => decide (x.clock + 1 < r.ends))) List.filter_sublist with
    rok := fun r hr => by
     obtain ⟨a, b, c, d, e⟩ := h.rok r (List.mem_filter.1 hr).1; exact ⟨a, b, c, d, e.1, by show r.ends <= x.clock + 1 + 50; omega⟩
    prb := fun p hp => by
     obtain ⟨a, b, c⟩ := h.prb p hp; exact ⟨a, b, c.1, by show p.start <= x.clock + 1; omega⟩
    due := fun m hm => by
     have := h.due m hm; exact ⟨this.1, by show m.due <= x.clock + 1 + 500; omega⟩ }
 have hcl := hb.clock; have k := hb.mono (C := B + 1) (by omega)
 have h2 : Bd (B + 1) { x with clock := x.clock + 1, relays := x.relays.filter (fun r => decide (x.clock + 1 < r.ends)) } :=
  ⟨⟨by show 0 <= x.clock + 1; omega, by show x.clock + 1 <= B + 1; omega⟩, k.seq, k.dropped, k.lost, k.at_⟩
 have hdl : (Nd.due { x with clock := x.clock + 1, relays := x.relays.filter (fun r => decide (x.clock + 1 < r.ends)) }).length <= 7 := Nat.le_trans (List.length_filter_le _ _) h.len
 unfold Nd.clocked; simp only; rw [foldl_hears]; refine ⟨h1.hears (by show 0 <= x.clock + 1; omega) _ (fun k hk => ?_), (Bd.hears _ h2).mono ?_⟩
 · obtain ⟨m, hm, rfl⟩ := List.mem_map.1 hk
   have := h.key m (List.mem_filter.1 hm).1; exact ⟨this.1, this.2.1, by show (1 : Int) <= 3 /\ (3 : Int) <= 4; omega⟩
 · rw [List.length_map]; omega
theorem good_tick {B : Int} {x : Nd} (h : Ok x) (hb : Bd B x) (hB : B <= 3999999000) : Good (B + 20) x.tick := by
 obtain ⟨h1, h2⟩ := clocked_all h hb; have h3 := good_waits h1 h2 (by omega)
 unfold Nd.tick; simp only
 split
 · have h4 := good_begins h3.ok h3.bd (by omega)
   refine ⟨h4.ok, h4.bd.mono (by omega), fun p hp => ?_⟩
   rcases List.mem_append.1 hp with hp | hp
   · exact h3.pks p hp
   · exact h4.pks p hp
 · exact h3.mono (by omega)
theorem ok_new {c : Cfg} (hc : cfgB c = true) (ds : List Int) : Ok (Nd.new c ds) := by
 have h := cfg_bounds hc; have h1 : Jp (Nd.new c ds).self := ⟨h.1, by show (1 : Int) <= 1 /\ (1 : Int) <= 1073741824; omega, by show (1 : Int) <= 1 /\ (1 : Int) <= 4; omega⟩
 constructor
 · exact hc
 · rfl
 · exact h1
 · exact List.Pairwise.nil
 all_goals simp [Nd.new, uids, rids]
theorem bd_new (c : Cfg) (ds : List Int) : Bd 0 (Nd.new c ds) := by constructor <;> simp [Nd.new]
def pkCells (p : Pk) : List Value := [.int .i64 p.1, .string (strOfNums (Jr p.2))]
def Jm (w : World) (B : Nat) (ov : Value) (ps : List Pk) : Prop := w.ownsRow B 78 2 ov ps.length (ps.flatMap pkCells)
theorem Jm.nil (w : World) (B : Nat) : Jm w B (.slice none 0 0) [] := ⟨rfl, .inl ⟨rfl, rfl⟩⟩
theorem NodeAt.notPk {w : World} {a : Ad} {ov : Value} {x : Nd} (h : NodeAt w a ov x) {k : Nat} {c : Array Value} {f : Nat × Nat} (hk : w.heap[k]? = some (.cells c 78 f)) : ¬ Zh a x k := by
 have nc : ∀ {b : Nat} {cs : Array Value} {t : TypeId} {g : Nat × Nat}, w.heap[b]? = some (.cells cs t g) -> t ≠ 78 -> k ≠ b := by
  rintro b cs t g h1 ht rfl; rw [hk] at h1; simp only [Option.some.injEq, Obj.cells.injEq] at h1; exact ht h1.2.1.symm
 have nm : ∀ {b : Nat} {o : Obj}, w.heap[b]? = some o -> (∀ cs t f, o ≠ .cells cs t f) -> k ≠ b := by
  rintro b o h1 hno rfl; rw [hk] at h1; exact hno _ _ _ (Option.some.inj h1).symm
 obtain ⟨es, n, hm⟩ := h.news.isMap; obtain ⟨es1, n1, hb1⟩ := h.others.isMap; obtain ⟨es2, n2, hb2⟩ := h.relays.isMap; obtain ⟨s, r, hc⟩ := h.chan; obtain ⟨cs, h0⟩ := h.blk.block; intro ho; rcases ho with e | e | e | e | e | e | ⟨m, hmm, e⟩ | e | ⟨hp, e⟩ | e | e | e
 · exact nc h0 (by decide) e
 · exact nm hb1 (by simp) e
 · exact nc h.queue (by decide) e
 · exact nm hm (by simp) e
 · exact nm hc (by simp) e
 · exact nm hb2 (by simp) e
 · exact nc (h.mems m hmm) (by decide) e
 · obtain ⟨cur, hg⟩ := h.pass.blk e; exact nc hg (by decide) rfl
 · obtain ⟨p, hp⟩ := Option.isSome_iff_exists.1 hp
   exact nc (h.prb p hp) (by decide) e
 · exact nc h.box1 (by decide) e
 · exact nc h.box2 (by decide) e
 · obtain ⟨cur, hg⟩ := h.ds.blk e; exact nc hg (by decide) rfl
def isPk (o : Obj) : Prop := ∃ c f, o = .cells c 78 f
structure St (B : Nat) (w : World) (a : Ad) (x : Nd) (w' : World) (a' : Ad) (x' : Nd) (ov' : Value) (ps' : List Pk) : Prop where
 node : NodeAt w' a' ov' x'
 out : Jm w' B ov' ps'
 chg : Chg (fun j o => Zh a x j \/ (B <= j /\ isPk o)) w w'
 own : ∀ k, Zh a' x' k -> Zh a x k \/ w.heap.size <= k
 b : a'.b = a.b
theorem St.refl {B : Nat} {w : World} {a : Ad} {x : Nd} {ov : Value} {ps : List Pk} (h : NodeAt w a ov x) (ho : Jm w B ov ps) : St B w a x w a x ov ps := ⟨h, ho, Chg.refl _ w, fun _ => .inl, rfl⟩
theorem St.trans {B : Nat} {w w' w'' : World} {a a' a'' : Ad} {x x' x'' : Nd} {ov ov' : Value} {ps ps' : List Pk} (h : St B w a x w' a' x' ov ps) (k : St B w' a' x' w'' a'' x'' ov' ps') : St B w a x w'' a'' x'' ov' ps' :=
 ⟨k.node, k.out, ⟨k.chg.os.trans h.chg.os, k.chg.tape.trans h.chg.tape, k.chg.output.trans h.chg.output, Nat.le_trans h.chg.size k.chg.size, fun i o ho hs => k.chg.kept i o (h.chg.kept i o ho hs) (fun hk => hk.elim (fun hk => (h.own i hk).elim (fun hk => hs (.inl hk)) (fun hl => absurd (Kb ho) (by omega))) (fun hk => hs (.inr hk)))⟩,
  fun j hj => (k.own j hj).elim (h.own j) (fun hl => .inr (Nat.le_trans h.chg.size hl)), k.b.trans h.b⟩
theorem St.turned {B : Nat} {w w' : World} {a a' : Ad} {x x' : Nd} {ov : Value} {ps : List Pk} (h0 : NodeAt w a ov x) (ho : Jm w B ov ps) (h : Turned ov w a x w' a' x') : St B w a x w' a' x' ov ps :=
 ⟨h.node, Kq ho h.chg (fun g o hg hk => by
  obtain ⟨_, c, hc⟩ := Ke ho hg; exact h0.notPk hc hk), h.chg.mono (fun _ _ _ => .inl), h.own, h.b⟩
theorem info_pk : (Tryz.prog.info? 78).map (fun i => (i.zero, i.size, i.bytes)) = some (some (.agg #[.int .i64 0, .string ⟨#[]⟩]), 2, 24) := by kernel_rfl
theorem St.sent {B : Nat} {w w4 w5 w7 : World} {a : Ad} {x x' : Nd} {ov : Value} {ps : List Pk} {p : Pk} {gg gc : Nat} {o : Obj} (hc : Chg (fun j o => Zh a x j \/ (B <= j /\ isPk o)) w w4) (hO4 : Jm w4 B ov ps) (h5 : Below w4.heap.size w4 w5) (hT : AppTo (w5.alloc o) w7 ov gg)
  (hL : w7.ownsRow B 78 2 (.slice (some ⟨gg, 0, none⟩) (ps.length + 1) gc) (ps.length + 1) (ps.flatMap pkCells ++ pkCells p)) (hN : NodeAt w7 a ov x') (ho : ∀ k, Zh a x' k -> Zh a x k) :
  St B w a x (w7.setCell ⟨a.b, 20, none⟩ (.slice (some ⟨gg, 0, none⟩) (ps.length + 1) gc)) a x' (.slice (some ⟨gg, 0, none⟩) (ps.length + 1) gc) (ps ++ [p]) := by
 obtain ⟨cs, hb⟩ := hN.blk.block; refine ⟨?_, ?_, ?_, fun k hk => .inl (ho k hk), rfl⟩
 · refine hN.setNode (Kn ((Chg.refl _ _).setCell _ (fun _ _ => rfl))) ?_ ⟨rfl, rfl, rfl, rfl, rfl, rfl, rfl, rfl, rfl⟩
   exact (hN.blk.set (i := 20) (by omega) _).congr (by (intro i hi; rcases i with _ | _ | _ | _ | _ | _ | _ | _ | _ | _ | _ | _ | _ | _ | _ | _ | _ | _ | _ | _ | _ | _ | _ | _ | _ | _ | _ | i <;> first | rfl | exact absurd hi (by omega)))
 · have h1 : (w7.setCell ⟨a.b, 20, none⟩ (.slice (some ⟨gg, 0, none⟩) (ps.length + 1) gc)).ownsRow B 78 2 (.slice (some ⟨gg, 0, none⟩) (ps.length + 1) gc) (ps.length + 1) (ps.flatMap pkCells ++ pkCells p) :=
    Ju hL (fun j hj => by
     obtain ⟨_, cu, hcu⟩ := Ke hL hj; exact Kj _ _ _ _ _ (cells_ne hcu hb (by decide)))
   unfold Jm; rw [List.flatMap_append, List.length_append]
   simpa using h1
 · have c5 := (hc.trans (Zc h5)).alloc o
   have c7 := c5.grown hT.grown (fun k o' e ho' => by
    obtain ⟨hb, cu, hcu⟩ := Ke hO4 e; have h1 : (w5.alloc o).heap[k]? = some (.cells cu 78 (0, 0)) := (Below.heap_alloc _ _ _ (Nat.lt_of_lt_of_le (Kb hcu) h5.size)).trans ((h5.block _ (Kb hcu)).trans hcu); rw [h1] at ho'; exact .inr ⟨hb, cu, (0, 0), (Option.some.inj ho').symm⟩)
   exact c7.setCell _ (fun _ _ => .inl (ho _ (.inl rfl)))
theorem send_low {x : Nd} (ho : Ok x) (a : Ad) (ov : Value) (B : Nat) (ps : List Pk) (w : World) (h : NodeAt w a ov x) (hout : Jm w B ov ps) (hB : B <= w.heap.size) (hps : ps.length < 1000) (toN kind f i seq tgt : Int) (hk : kind < 4) :
  Calls Tryz.prog 58 #[.pointer (some ⟨a.b, 0, none⟩), .int .i64 toN, .agg #[.int .i64 kind, .int .i64 f, .int .i64 i, .int .i64 seq, .int .i64 tgt, .slice none 0 0]] w fun e w' =>
   e = .returned (.tuple #[]) /\ ∃ ov', St B w a x w' a (x.sent ⟨kind, f, i, seq, tgt, []⟩) ov' (ps ++ [(toN, x.msg ⟨kind, f, i, seq, tgt, []⟩)]) := by
 obtain ⟨w1, hw1⟩ : ∃ w1, w.alloc (.cells #[.int .i64 kind, .int .i64 f, .int .i64 i, .int .i64 seq, .int .i64 tgt, .slice none 0 0] 68) = w1 := ⟨_, rfl⟩; have hs1 : w1.heap.size = w.heap.size + 1 := by rw [<- hw1]; simp
 have hb1 : Below w.heap.size w w1 := by rw [<- hw1]; exact (Below.refl _ _).alloc (Nat.le_refl _) _
 have hx1 : w1.heap[w.heap.size]? = some (.cells #[.int .i64 kind, .int .i64 f, .int .i64 i, .int .i64 seq, .int .i64 tgt, .slice none 0 0] 68 (0, 0)) := by rw [<- hw1]; exact Kc w _
 have h1 : NodeAt w1 a ov x := h.below hb1; have c7 : w1.cell? ⟨a.b, 7, none⟩ = some (.int .i64 x.self.id) := h1.blk.cell (by omega)
 have c8 : w1.cell? ⟨a.b, 8, none⟩ = some (.int .i64 x.self.inc) := h1.blk.cell (by omega)
 have d0 := Ka hx1 0; have d1 := Ka hx1 1; have d2 := Ka hx1 2; have fx := Kr hx1; simp only [List.getElem?_toArray, List.getElem?_cons_succ, List.getElem?_cons_zero] at d0 d1 d2; have HW1 := Hd hw1; have H := Hd h; have H1 := Hd h1; have HX1 := Hd hx1; have HO := Hd ho; have HOUT := Hd hout; have HB1 := Hd hb1; have hkb : decide (kind < 4) = true := by simpa using hk
 obtain ⟨w2, hw2⟩ : ∃ w2, ((w1.setCell ⟨w.heap.size, 1, none⟩ (.int .i64 x.self.id)).setCell ⟨w.heap.size, 2, none⟩ (.int .i64 x.self.inc)).drew = w2 := ⟨_, rfl⟩; have hc2 : Chg (fun j _ => j = w.heap.size) w1 w2 := by rw [<- hw2]; exact (((Chg.refl _ _).setCell _ (fun _ _ => rfl)).setCell _ (fun _ _ => rfl)).drew
 have hx2 : w2.heap[w.heap.size]? = some (.cells #[.int .i64 kind, .int .i64 x.self.id, .int .i64 x.self.inc, .int .i64 seq, .int .i64 tgt, .slice none 0 0] 68 (0, 0)) := by rw [<- hw2]; exact Kf (Kf hx1)
 have hs2 : w2.heap.size = w.heap.size + 1 := by rw [<- hw2]; simpa using hs1
 have hb2 : Below w.heap.size w w2 := hb1.trans (hc2.below (by omega) (fun k _ e => by omega))
 have h2 : NodeAt w2 a ov x := h.below hb2; have hout2 : Jm w2 B ov ps := Ks hout hb2; have c11 : w2.cell? ⟨a.b, 11, none⟩ = some (.pointer (some ⟨a.bq, 0, none⟩)) := h2.blk.cell (by omega)
 have e0 := Ka hx2 0; simp only [List.getElem?_toArray, List.getElem?_cons_zero] at e0; have hql : x.queue.length < 900000 := by have := ho.qlen; omega
 have hqf : Hid (∀ u ∈ x.queue, fitsI u.k.id /\ 0 <= u.sent /\ u.sent < 1000000) := Hd (fun u hu => by
  obtain ⟨k1, k2, k3⟩ := ho.qkey u hu; have hc := cfg_bounds ho.cfg; have := k1.1; unfold fitsI; omega)
 have HX2 := Hd hx2; have HB2 := Hd hb2; have H2 := Hd h2; have HOUT2 := Hd hout2; have HW2 := Hd hw2; clear hw1 h h1 hx1 ho hout hb1 hw2 hc2 hx2 hb2 h2 hout2; go_enter Tryz.func58, Tryz.ntmps58; go_wp2; rw [HW1.out]; go_region
 all_goals
  rw [HW2.out]
  go_wp2_with (first
   | (go_at_call 86; refine (take_news a.bq a.bm x.c.sends x.queue w2 H2.out.queue H2.out.news HO.out.qnd hql hqf.out).mono ?_; rintro e w3 ⟨v, rfl, hrow3, hm3, hc3⟩
      obtain ⟨ra, rc, rfl⟩ := Kg hrow3; have hx3 : w3.heap[w.heap.size]? = _ := hc3.kept _ _ HX2.out (by have := H.out.news.lt; omega)
      have f3 := Kr hx3; have e35 := Ka hx3 5; simp only [List.getElem?_toArray, List.getElem?_cons_succ, List.getElem?_cons_zero] at e35; have HX3 := Hd hx3; have HR3 := Hd hrow3; have HM3 := Hd hm3; have HC3 := Hd hc3; clear hx3 hrow3 hm3 hc3))
  obtain ⟨w4, hw4⟩ : ∃ w4, w3.setCell ⟨w.heap.size, 5, none⟩ (.slice ra (Jb x.queue).length rc) = w4 := ⟨_, rfl⟩; go_upto_region 4 with (fail); rw [hw4]; have hx4 : w4.heap[w.heap.size]? = some (.cells #[.int .i64 kind, .int .i64 x.self.id, .int .i64 x.self.inc, .int .i64 seq, .int .i64 tgt, .slice ra (Jb x.queue).length rc] 68 (0, 0)) := by rw [<- hw4]; exact Kf HX3.out
  have hC34 : Chg (fun j _ => j = w.heap.size) w3 w4 := by rw [<- hw4]; exact (Chg.refl _ _).setCell _ (fun _ _ => rfl)
  have hs3 := HC3.out.size; have hs34 := hC34.size
  have hN4 : NodeAt w4 a ov { x with queue := takeL x.c.sends x.queue } := NodeAt.keep (H2.out.setNews (Kn HC3.out) HM3.out) (fun j hj => by
   have hlt := H.out.owns_lt hj; rw [<- hw4]; exact Kj _ _ _ _ _ (by omega))
  have hR4 : w4.ownsRow w2.heap.size 76 3 (.slice ra (Jb x.queue).length rc) (Jb x.queue).length (Kd ((Jb x.queue).map (·.k))) := Kq HR3.out hC34 (fun g o hg e => by have := (HR3.out.lt g hg).1; omega)
  have hO4 : Jm w4 B ov ps := Kq (Kq HOUT2.out HC3.out (fun g o hg e => by
    obtain ⟨_, cu, hc⟩ := Ke HOUT2.out hg; obtain ⟨es, n, hmm⟩ := H2.out.news.isMap; exact Kx hc hmm e)) hC34 (fun g o hg e => by
    obtain ⟨_, cu, hc⟩ := Ke HOUT2.out hg; exact cells_ne hc HX2.out (by decide) e)
  obtain ⟨hll, hka⟩ := keysAt_row hR4; obtain ⟨oa, oc, rfl⟩ := Kg hO4; have c20 : w4.cell? ⟨a.b, 20, none⟩ = some (.slice oa ps.length oc) := hN4.blk.cell (by omega)
  have g0 := Ka hx4 0; have g1 := Ka hx4 1; have g2 := Ka hx4 2; have g3 := Ka hx4 3; have g4 := Ka hx4 4; have g5 := Ka hx4 5; simp only [List.getElem?_toArray, List.getElem?_cons_succ, List.getElem?_cons_zero] at g0 g1 g2 g3 g4 g5; have hby := bytes_any kind x.self.id x.self.inc seq tgt ((Jb x.queue).map (·.k)) ra rc w4.drew (by rw [List.length_map, firstL_len]; omega) (hka.below (Below.refl _ _).drew)
  rw [List.length_map] at hby; have HBY := Hd hby; have hltb := hN4.blk.lt; have HN4 := Hd hN4; have HO4 := Hd hO4; have HW4 := Hd hw4; have HC34 := Hd hC34; clear hby hN4 hO4 hw4 hC34 hll hka hR4 hx4; obtain ⟨i0, hi, hz0, hz1, hz2⟩ := info_parts info_pk; have K3 := Hd (show ps.length + 1 <= maxLen by unfold maxLen; omega)
  go_region_law (first
   | (refine Ji rfl _ _ _ rfl B 78 i0 _ 2 24 Tryz.underlying77 hi hz0 hz1 hz2 rfl (by decide) (.slice oa ps.length oc) ps.length _ rfl HO5.out ⟨w5.heap.size, 0, none⟩ 1 1 _ rfl rfl HNEW.out (by simp [Value.oneCell']) (by omega) K3.out (by omega) (by have := HSZ.out; simp; omega) ?_; intro gg gc w7 hl7 hto7
      have hk7 : ∀ j, j < w4.heap.size -> (Value.slice oa ps.length oc).ownBlock ≠ some j -> w7.heap[j]? = w4.heap[j]? := fun j hj hne => (hto7.block (by simp; have := HSZ.out; omega) hne).trans ((Below.heap_alloc _ _ _ (by have := HSZ.out; omega)).trans (HB5.out.block j hj))
      have HN7 := Hd (HN4.out.keep (w' := w7) (fun j hj => hk7 j (HN4.out.owns_lt hj) (fun e => by
       obtain ⟨_, cu, hc⟩ := Ke HO4.out e; exact HN4.out.notPk hc hj)))
      have c207 : w7.cell? ⟨a.b, 20, none⟩ = some (.slice oa ps.length oc) := HN7.out.blk.cell (by omega)
      have f207 : w7.frozen? ⟨a.b, 20, none⟩ = false := HN7.out.blk.free 20; have HK7 := Hd hk7; have HL7 := Hd hl7; have HT7 := Hd hto7; clear hk7 hl7 hto7)
   | (go_simp; go_at_call 46; refine HBY.out.mono ?_; rintro e w5 ⟨rfl, hb5d⟩
      have hb5 : Below w4.heap.size w4 w5 := ((Below.refl w4.heap.size w4).drew).trans hb5d; have c205 : w5.cell? ⟨a.b, 20, none⟩ = some (.slice oa ps.length oc) := (hb5.cell (p := ⟨a.b, 20, none⟩) hltb).trans c20; have c205a : ∀ o, (w5.alloc o).cell? ⟨a.b, 20, none⟩ = some (.slice oa ps.length oc) := fun o => by rw [World.cell?_alloc_lt _ _ _ (Nat.lt_of_lt_of_le hltb hb5.size)]; exact c205
      have HSZ := Hd hb5.size; have HB5 := Hd hb5; have HNEW := Hd (Kt w5 [.int .i64 toN, .string (strOfNums (Jr ⟨kind, x.self.id, x.self.inc, seq, tgt, (Jb x.queue).map (·.k)⟩))] 78 (n := w5.heap.size) rfl); have HO5 := Hd (World.ownsRow.alloc (Ks HO4.out hb5) (.cells #[.int .i64 toN, .string (strOfNums (Jr ⟨kind, x.self.id, x.self.inc, seq, tgt, (Jb x.queue).map (·.k)⟩))] 78)); clear hb5 hb5d))
  all_goals
   go_end0
   refine ⟨rfl, .slice (some ⟨gg, 0, none⟩) (ps.length + 1) gc, ?_⟩; have e1 : x.sent ⟨kind, f, i, seq, tgt, []⟩ = { x with queue := takeL x.c.sends x.queue } := by unfold Nd.sent; rw [if_pos hk]; rfl
   have e2 : x.msg ⟨kind, f, i, seq, tgt, []⟩ = ⟨kind, x.self.id, x.self.inc, seq, tgt, (Jb x.queue).map (·.k)⟩ := by unfold Nd.msg; simp only; rw [if_pos hk]; rfl
   rw [e1, e2]; refine St.sent (w4 := w4) ?_ HO4.out HB5.out HT7.out HL7.out HN7.out (fun _ h => h)
   have q1 : Chg (fun j o => Zh a x j \/ (B <= j /\ isPk o)) w w2 := Zc HB2.out
   have q2 : Chg (fun j o => Zh a x j \/ (B <= j /\ isPk o)) w2 w3 := HC3.out.mono (fun _ _ _ e => .inl (.inr (.inr (.inr (.inl e)))))
   exact (q1.trans q2).andThen HC34.out (fun j o ho e => absurd (Kb ho) (by omega))
theorem send_high {x : Nd} (a : Ad) (ov : Value) (B : Nat) (ps : List Pk) (w : World) (h : NodeAt w a ov x) (hout : Jm w B ov ps) (hB : B <= w.heap.size) (hps : ps.length < 1000) (toN kind f i seq tgt : Int) (hk : 4 <= kind) (us : List K) (ra : Option Addr) (rc : Nat) (hus : Jq w ra us) (hul : us.length <= 8) :
  Calls Tryz.prog 58 #[.pointer (some ⟨a.b, 0, none⟩), .int .i64 toN, .agg #[.int .i64 kind, .int .i64 f, .int .i64 i, .int .i64 seq, .int .i64 tgt, .slice ra us.length rc]] w fun e w' =>
   e = .returned (.tuple #[]) /\ ∃ ov', St B w a x w' a (x.sent ⟨kind, f, i, seq, tgt, us⟩) ov' (ps ++ [(toN, x.msg ⟨kind, f, i, seq, tgt, us⟩)]) := by
 obtain ⟨w1, hw1⟩ : ∃ w1, w.alloc (.cells #[.int .i64 kind, .int .i64 f, .int .i64 i, .int .i64 seq, .int .i64 tgt, .slice ra us.length rc] 68) = w1 := ⟨_, rfl⟩; have hs1 : w1.heap.size = w.heap.size + 1 := by rw [<- hw1]; simp
 have hb1 : Below w.heap.size w w1 := by rw [<- hw1]; exact (Below.refl _ _).alloc (Nat.le_refl _) _
 have hx1 : w1.heap[w.heap.size]? = some (.cells #[.int .i64 kind, .int .i64 f, .int .i64 i, .int .i64 seq, .int .i64 tgt, .slice ra us.length rc] 68 (0, 0)) := by rw [<- hw1]; exact Kc w _
 have h1 : NodeAt w1 a ov x := h.below hb1; have c7 : w1.cell? ⟨a.b, 7, none⟩ = some (.int .i64 x.self.id) := h1.blk.cell (by omega)
 have c8 : w1.cell? ⟨a.b, 8, none⟩ = some (.int .i64 x.self.inc) := h1.blk.cell (by omega)
 have d0 := Ka hx1 0; have d1 := Ka hx1 1; have d2 := Ka hx1 2; have fx := Kr hx1; simp only [List.getElem?_toArray, List.getElem?_cons_succ, List.getElem?_cons_zero] at d0 d1 d2; have HW1 := Hd hw1; have H := Hd h; have H1 := Hd h1; have HX1 := Hd hx1; have HOUT := Hd hout; have HB1 := Hd hb1; have hkb : decide (kind < 4) = false := by simpa using hk
 have HUS := Hd hus; clear hus; obtain ⟨w2, hw2⟩ : ∃ w2, ((w1.setCell ⟨w.heap.size, 1, none⟩ (.int .i64 x.self.id)).setCell ⟨w.heap.size, 2, none⟩ (.int .i64 x.self.inc)).drew = w2 := ⟨_, rfl⟩; have hc2 : Chg (fun j _ => j = w.heap.size) w1 w2 := by rw [<- hw2]; exact (((Chg.refl _ _).setCell _ (fun _ _ => rfl)).setCell _ (fun _ _ => rfl)).drew
 have hx2 : w2.heap[w.heap.size]? = some (.cells #[.int .i64 kind, .int .i64 x.self.id, .int .i64 x.self.inc, .int .i64 seq, .int .i64 tgt, .slice ra us.length rc] 68 (0, 0)) := by rw [<- hw2]; exact Kf (Kf hx1)
 have hs2 : w2.heap.size = w.heap.size + 1 := by rw [<- hw2]; simpa using hs1
 have hb2 : Below w.heap.size w w2 := hb1.trans (hc2.below (by omega) (fun k _ e => by omega))
 have h2 : NodeAt w2 a ov x := h.below hb2; have hout2 : Jm w2 B ov ps := Ks hout hb2; have c11 : w2.cell? ⟨a.b, 11, none⟩ = some (.pointer (some ⟨a.bq, 0, none⟩)) := h2.blk.cell (by omega)
 have e0 := Ka hx2 0; simp only [List.getElem?_toArray, List.getElem?_cons_zero] at e0; have HX2 := Hd hx2; have HB2 := Hd hb2; have H2 := Hd h2; have HOUT2 := Hd hout2; have HW2 := Hd hw2; clear hw1 h h1 hx1 hout hb1 hw2 hc2 hx2 hb2 h2 hout2; go_enter Tryz.func58, Tryz.ntmps58; go_wp2; rw [HW1.out]; go_region
 all_goals
  rw [HW2.out]; go_upto_region 4 with (fail); obtain ⟨w4, hw4⟩ : ∃ w4, w2 = w4 := ⟨_, rfl⟩; rw [hw4]; rw [hw4] at HX2 HB2 H2 HOUT2 hs2; clear c11 e0; have hx4 := HX2.out; have hN4 := H2.out; have hO4 := HOUT2.out; have hka := HUS.out.below HB2.out; obtain ⟨oa, oc, rfl⟩ := Kg hO4; have c20 : w4.cell? ⟨a.b, 20, none⟩ = some (.slice oa ps.length oc) := hN4.blk.cell (by omega)
  have g0 := Ka hx4 0; have g1 := Ka hx4 1; have g2 := Ka hx4 2; have g3 := Ka hx4 3; have g4 := Ka hx4 4; have g5 := Ka hx4 5; simp only [List.getElem?_toArray, List.getElem?_cons_succ, List.getElem?_cons_zero] at g0 g1 g2 g3 g4 g5; have hby := bytes_any kind x.self.id x.self.inc seq tgt us ra rc w4.drew hul (hka.below (Below.refl _ _).drew); have HBY := Hd hby; have hltb := hN4.blk.lt; have HN4 := Hd hN4; have HO4 := Hd hO4; have HW4 := Hd hw4; clear hby hN4 hO4 hw4 hka hx4; obtain ⟨i0, hi, hz0, hz1, hz2⟩ := info_parts info_pk; have K3 := Hd (show ps.length + 1 <= maxLen by unfold maxLen; omega)
  go_region_law (first
   | (refine Ji rfl _ _ _ rfl B 78 i0 _ 2 24 Tryz.underlying77 hi hz0 hz1 hz2 rfl (by decide) (.slice oa ps.length oc) ps.length _ rfl HO5.out ⟨w5.heap.size, 0, none⟩ 1 1 _ rfl rfl HNEW.out (by simp [Value.oneCell']) (by omega) K3.out (by omega) (by have := HSZ.out; simp; omega) ?_; intro gg gc w7 hl7 hto7
      have hk7 : ∀ j, j < w4.heap.size -> (Value.slice oa ps.length oc).ownBlock ≠ some j -> w7.heap[j]? = w4.heap[j]? := fun j hj hne => (hto7.block (by simp; have := HSZ.out; omega) hne).trans ((Below.heap_alloc _ _ _ (by have := HSZ.out; omega)).trans (HB5.out.block j hj))
      have HN7 := Hd (HN4.out.keep (w' := w7) (fun j hj => hk7 j (HN4.out.owns_lt hj) (fun e => by
       obtain ⟨_, cu, hc⟩ := Ke HO4.out e; exact HN4.out.notPk hc hj)))
      have c207 : w7.cell? ⟨a.b, 20, none⟩ = some (.slice oa ps.length oc) := HN7.out.blk.cell (by omega)
      have f207 : w7.frozen? ⟨a.b, 20, none⟩ = false := HN7.out.blk.free 20; have HK7 := Hd hk7; have HL7 := Hd hl7; have HT7 := Hd hto7; clear hk7 hl7 hto7)
   | (go_simp; go_at_call 46; refine HBY.out.mono ?_; rintro e w5 ⟨rfl, hb5d⟩
      have hb5 : Below w4.heap.size w4 w5 := ((Below.refl w4.heap.size w4).drew).trans hb5d; have c205 : w5.cell? ⟨a.b, 20, none⟩ = some (.slice oa ps.length oc) := (hb5.cell (p := ⟨a.b, 20, none⟩) hltb).trans c20; have c205a : ∀ o, (w5.alloc o).cell? ⟨a.b, 20, none⟩ = some (.slice oa ps.length oc) := fun o => by rw [World.cell?_alloc_lt _ _ _ (Nat.lt_of_lt_of_le hltb hb5.size)]; exact c205
      have HSZ := Hd hb5.size; have HB5 := Hd hb5; have HNEW := Hd (Kt w5 [.int .i64 toN, .string (strOfNums (Jr ⟨kind, x.self.id, x.self.inc, seq, tgt, us⟩))] 78 (n := w5.heap.size) rfl); have HO5 := Hd (World.ownsRow.alloc (Ks HO4.out hb5) (.cells #[.int .i64 toN, .string (strOfNums (Jr ⟨kind, x.self.id, x.self.inc, seq, tgt, us⟩))] 78)); clear hb5 hb5d))
  all_goals
   go_end0
   refine ⟨rfl, .slice (some ⟨gg, 0, none⟩) (ps.length + 1) gc, ?_⟩; have e1 : x.sent ⟨kind, f, i, seq, tgt, us⟩ = x := by unfold Nd.sent; rw [if_neg (by show ¬ kind < 4; omega)]
   have e2 : x.msg ⟨kind, f, i, seq, tgt, us⟩ = ⟨kind, x.self.id, x.self.inc, seq, tgt, us⟩ := by unfold Nd.msg; simp only; rw [if_neg (by omega)]
   rw [e1, e2]; refine St.sent (w4 := w4) ?_ HO4.out HB5.out HT7.out HL7.out HN7.out (fun _ h => h)
   exact Zc HB2.out
theorem St.alloc {B : Nat} {w w' : World} {a a' : Ad} {x x' : Nd} {ov : Value} {ps : List Pk} (h : St B w a x w' a' x' ov ps) (o : Obj) : St B w a x (w'.alloc o) a' x' ov ps :=
 ⟨h.node.below ((Below.refl _ _).alloc (Nat.le_refl _) _), World.ownsRow.alloc h.out o, h.chg.alloc o, h.own, h.b⟩
theorem St.drewN {B : Nat} {w w' : World} {a a' : Ad} {x x' : Nd} {ov : Value} {ps : List Pk} (h : St B w a x w' a' x' ov ps) (n : Nat) : St B w a x (w'.drewN n) a' x' ov ps :=
 ⟨h.node.keep (fun _ _ => rfl), Ju h.out (fun _ _ => rfl), ⟨h.chg.os, h.chg.tape, h.chg.output, h.chg.size, h.chg.kept⟩, h.own, h.b⟩
def Does (B : Nat) (w : World) (a : Ad) (x : Nd) (ps : List Pk) (r : List Pk × Nd) (e : Ending) (w' : World) : Prop :=
 e = .returned (.tuple #[]) /\ ∃ a' ov', St B w a x w' a' r.2 ov' (ps ++ r.1)
theorem Does.of {B : Nat} {w w' : World} {a a' : Ad} {x x' : Nd} {ov : Value} {ps : List Pk} {r : List Pk} (h : St B w a x w' a' x' ov (ps ++ r)) : Does B w a x ps (r, x') (.returned (.tuple #[])) w' := ⟨rfl, _, _, h⟩
theorem next_any {x : Nd} (hs : -9223372036854775808 <= x.seq /\ x.seq < 9223372036854775807) (a : Ad) (ov : Value) (w : World) (h : NodeAt w a ov x) :
  Calls Tryz.prog 59 #[.pointer (some ⟨a.b, 0, none⟩)] w fun e w' => e = .returned (.int .i64 (x.seq + 1)) /\ Turned ov w a x w' a x.next := by
 have c14 : w.cell? ⟨a.b, 14, none⟩ = some (.int .i64 x.seq) := h.blk.cell (by omega)
 have f14 : w.frozen? ⟨a.b, 14, none⟩ = false := h.blk.free 14; have wl : IntKind.i64.wrap (x.seq + 1) = x.seq + 1 := IntWalk.i64_in _ (by omega)
 have H := Hd h; clear h; go_enter Tryz.func59, Tryz.ntmps59; go_wp2; go_ret
 refine ⟨rfl, ?_, (Chg.refl _ _).setCell _ (fun _ _ => .inl rfl), fun _ => .inl, rfl⟩
 refine H.out.setNode (Kn ((Chg.refl _ _).setCell _ (fun _ _ => rfl))) ?_ ⟨rfl, rfl, rfl, rfl, rfl, rfl, rfl, rfl, rfl⟩
 exact (H.out.blk.set (i := 14) (by omega) (.int .i64 (x.seq + 1))).congr (by (intro i hi; rcases i with _ | _ | _ | _ | _ | _ | _ | _ | _ | _ | _ | _ | _ | _ | _ | _ | _ | _ | _ | _ | _ | _ | _ | _ | _ | _ | _ | i <;> first | rfl | exact absurd hi (by omega)))
theorem pinged_any {x : Nd} (ho : Ok x) (a : Ad) (ov : Value) (B : Nat) (ps : List Pk) (w : World) (h : NodeAt w a ov x) (hout : Jm w B ov ps) (hB : B <= w.heap.size) (hps : ps.length < 1000) (m : M) (ma : Option Addr) (mn mc : Nat) :
  Calls Tryz.prog 120 #[.pointer (some ⟨a.b, 0, none⟩), m.agg (.slice ma mn mc)] w (Does B w a x ps (x.pinged m)) := by
 obtain ⟨kind, frm, inc, seq, tgt, ups⟩ := m; obtain ⟨w1, hw1⟩ : ∃ w1, w.alloc (.cells #[.int .i64 kind, .int .i64 frm, .int .i64 inc, .int .i64 seq, .int .i64 tgt, .slice ma mn mc] 68) = w1 := ⟨_, rfl⟩; have T := (St.refl h hout).alloc (.cells #[.int .i64 kind, .int .i64 frm, .int .i64 inc, .int .i64 seq, .int .i64 tgt, .slice ma mn mc] 68); rw [hw1] at T; have hs1 : w.heap.size <= w1.heap.size := by rw [<- hw1]; simp
 have hx1 : w1.heap[w.heap.size]? = some (.cells #[.int .i64 kind, .int .i64 frm, .int .i64 inc, .int .i64 seq, .int .i64 tgt, .slice ma mn mc] 68 (0, 0)) := by rw [<- hw1]; exact Kc w _
 have d1 := Ka hx1 1; have d3 := Ka hx1 3; have d4 := Ka hx1 4; simp only [List.getElem?_toArray, List.getElem?_cons_succ, List.getElem?_cons_zero] at d1 d3 d4; have c7 : w1.cell? ⟨a.b, 7, none⟩ = some (.int .i64 x.self.id) := T.node.blk.cell (by omega)
 have HT := Hd T; have HW1 := Hd hw1; clear T hw1 hx1 h hout; unfold M.agg; by_cases ht : tgt = x.self.id
 · have e : x.pinged ⟨kind, frm, inc, seq, tgt, ups⟩ = ([(frm, x.msg ⟨2, 0, 0, seq, tgt, []⟩)], x.sent ⟨2, 0, 0, seq, tgt, []⟩) := by unfold Nd.pinged; rw [if_pos ht]
   rw [e]; have htb : (tgt == x.self.id) = true := by simpa using ht
   clear ht e; go_enter Tryz.func120, Tryz.ntmps120; go_wp2; rw [HW1.out]; go_quiet (fail); go_wp2_with (go_at_call 58; refine (send_low ho a ov B ps _ (HT.out.drewN nq).node (HT.out.drewN nq).out (by show B <= w1.heap.size; omega) hps frm 2 0 0 seq tgt (by omega)).mono ?_; rintro e w2 ⟨rfl, ov', hT2⟩)
   ((try simp only [Exit.inBlock, Exit.then]); first | refine bodyPost_ret (results_none rfl _ _ _) rfl ?_ | refine bodyPost_end (results_none rfl _ _ _) rfl ?_)
   exact Does.of ((HT.out.drewN nq).trans hT2)
 · have e : x.pinged ⟨kind, frm, inc, seq, tgt, ups⟩ = ([], x) := by unfold Nd.pinged; rw [if_neg ht]
   rw [e]; have htb : (tgt == x.self.id) = false := by simpa using ht
   clear ht e; go_enter Tryz.func120, Tryz.ntmps120; go_wp2; rw [HW1.out]; go_quiet (fail); go_wp2
   ((try simp only [Exit.inBlock, Exit.then]); first | refine bodyPost_ret (results_none rfl _ _ _) rfl ?_ | refine bodyPost_end (results_none rfl _ _ _) rfl ?_)
   exact Does.of (by rw [List.append_nil]; exact HT.out.drewN nq)
