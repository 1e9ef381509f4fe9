/-
  Texts of the proof: RfPick, RfP, RfAt, RfB. No condition.
-/
import Derived.Test.YtfngdplkcppabaaGreatDoorPart01
import Derived.Test.YtfngdplkcppabaaGreatDoorPart09
import Derived.Test.YtfngdplkcppabaaGreatDoorPart05
import Derived.Test.YtfngdplkcppabaaGreatDoorPart07
import Derived.Deep.QuietTactic
import Derived.BigQuiet
import Derived.Deep.DeepCutAuto
set_option linter.all false
set_option maxRecDepth 100000
set_option maxHeartbeats 4000000
namespace Go.Proofs.YtfngdplkcppabaaGreatDoor
open Go.RowKit
theorem updLe_tr' (a b c : Upd) : Kv a b = true -> Kv b c = true -> Kv a c = true := by
 intro h1 h2; simp only [Kv, decide_eq_true_eq] at *; omega
theorem updLe_tot' (a b : Upd) : (Kv a b || Kv b a) = true := by
 simp only [Kv, Bool.or_eq_true, decide_eq_true_eq]; omega
structure Pick (q : List Upd) (n : Nat) (l : List Upd) : Prop where
 left : l.mergeSort Kv = (q.mergeSort Kv).drop n
 rest : l = q.filter (fun u => !(((q.mergeSort Kv).take n).any fun v => v.k.id == u.k.id))
theorem Pick.start (q : List Upd) : Pick q 0 q := ⟨rfl, (List.filter_eq_self.2 (fun u _ => by simp)).symm⟩
theorem Pick.len {q l : List Upd} {n : Nat} (h : Pick q n l) : l.length = q.length - n := by
 have := congrArg List.length h.left; rw [List.length_mergeSort, List.length_drop, List.length_mergeSort] at this; exact this
theorem eraseIdx_filter {l : List Upd} (hnd : (uids l).Nodup) {b : Nat} {u : Upd} (hb : l[b]? = some u) : l.eraseIdx b = l.filter (fun v => v.k.id != u.k.id) := by
 induction l generalizing b with
 | nil => simp at hb
 | cons a r ih =>
  have hn := List.nodup_cons.1 (show (a.k.id :: uids r).Nodup from hnd); cases b with
  | zero =>
   simp only [List.getElem?_cons_zero, Option.some.injEq] at hb; subst hb; rw [List.eraseIdx_zero, List.tail_cons, List.filter_cons_of_neg (by simp)]
   refine (List.filter_eq_self.2 (fun v hv => ?_)).symm
   simp only [bne_iff_ne, ne_eq]; exact fun e => hn.1 (by rw [<- e]; exact List.mem_map.2 ⟨v, hv, rfl⟩)
  | succ b =>
   simp only [List.getElem?_cons_succ] at hb; rw [List.eraseIdx_cons_succ, List.filter_cons_of_pos, ih hn.2 hb]; simp only [bne_iff_ne, ne_eq]; exact fun e => hn.1 (by rw [e]; exact List.mem_map.2 ⟨u, List.mem_of_getElem? hb, rfl⟩)
theorem Pick.more {q l : List Upd} {n b : Nat} {u : Upd} (h : Pick q n l) (hnd : (uids q).Nodup) (hb : l[b]? = some u) (hmin : ∀ v ∈ l, Kv u v = true) :
  (q.mergeSort Kv)[n]? = some u /\ Pick q (n + 1) (l.eraseIdx b) := by
 have hsub : l.Sublist q := by rw [h.rest]; exact List.filter_sublist
 have hndl : (uids l).Nodup := hnd.sublist (hsub.map _); have hndr : (l.eraseIdx b).Sublist l := List.eraseIdx_sublist _ _
 have hinj : ∀ v ∈ l, ∀ v' ∈ l, v.k.id = v'.k.id -> v = v' := fun v hv v' hv' e => by
  obtain ⟨i, hi⟩ := List.mem_iff_getElem?.1 hv; obtain ⟨j, hj⟩ := List.mem_iff_getElem?.1 hv'; have hi' : (uids l)[i]? = some v.k.id := by unfold uids; rw [List.getElem?_map, hi]; rfl
  have hj' : (uids l)[j]? = some v.k.id := by unfold uids; rw [List.getElem?_map, hj, e]; rfl
  have hil := (List.getElem?_eq_some_iff.1 hi').1; have := (List.getElem?_inj hil hndl).1 (hi'.trans hj'.symm); subst this; rw [hi] at hj; cases hj; rfl
 have hsort : l.mergeSort Kv = u :: (l.eraseIdx b).mergeSort Kv := by
  have hp : (l.mergeSort Kv).Perm (u :: (l.eraseIdx b).mergeSort Kv) := by
   refine (List.mergeSort_perm _ _).trans ?_
   have h1 : l.Perm (u :: l.eraseIdx b) := by
    have hbl := (List.getElem?_eq_some_iff.1 hb); obtain ⟨hbl, e⟩ := hbl
    have h2 : l = l.take b ++ u :: l.drop (b + 1) := by
     rw [<- e, <- List.drop_eq_getElem_cons hbl, List.take_append_drop]
    rw [List.eraseIdx_eq_take_drop_succ]
    conv => lhs; rw [h2]
    exact List.perm_middle
   exact h1.trans ((List.mergeSort_perm _ _).symm.cons u)
  refine hp.eq_of_pairwise (le := fun a b => Kv a b = true) (fun a c ha hc h1 h2 => ?_) (List.pairwise_mergeSort updLe_tr' updLe_tot' l) ?_
  · have ha' : a ∈ l := (List.mergeSort_perm l Kv).mem_iff.1 ha
    have hc' : c ∈ l := (List.mergeSort_perm l Kv).mem_iff.1 (hp.mem_iff.2 hc); refine hinj a ha' c hc' ?_; simp only [Kv, decide_eq_true_eq] at h1 h2; omega
  · refine List.pairwise_cons.2 ⟨fun v hv => hmin v (hndr.subset ((List.mergeSort_perm _ Kv).mem_iff.1 hv)), List.pairwise_mergeSort updLe_tr' updLe_tot' _⟩
 have hd : (q.mergeSort Kv).drop n = u :: (l.eraseIdx b).mergeSort Kv := by rw [<- h.left]; exact hsort
 have hu : (q.mergeSort Kv)[n]? = some u := by
  have : ((q.mergeSort Kv).drop n)[0]? = some u := by rw [hd]; rfl
  rw [List.getElem?_drop] at this
  simpa using this
 have htake : (q.mergeSort Kv).take (n + 1) = (q.mergeSort Kv).take n ++ [u] := by
  rw [List.take_add_one, hu]; rfl
 refine ⟨hu, ⟨?_, ?_⟩⟩
 · have : ((q.mergeSort Kv).drop n).drop 1 = (q.mergeSort Kv).drop (n + 1) := by rw [List.drop_drop]
   rw [<- this, hd]; rfl
 · rw [htake, eraseIdx_filter hndl hb]
   conv => lhs; rw [h.rest]
   rw [List.filter_filter]; refine List.filter_congr (fun v _ => ?_)
   rw [List.any_append, Bool.not_or, Bool.and_comm]
   congr 1
   simp only [List.any_cons, List.any_nil, Bool.or_false, bne, Bool.beq_comm (a := v.k.id)]
theorem Pick.first {x : Nd} {l : List Upd} {n : Nat} (h : Pick x.queue n l) (hn : n <= 4) (he : n = 4 \/ l = []) : (x.queue.mergeSort Kv).take n = x.first := by
 unfold Nd.first; rcases he with rfl | rfl
 · rfl
 · have := h.left
   rw [List.mergeSort_nil] at this
   have hl : (x.queue.mergeSort Kv).length <= n := by
    have := congrArg List.length this; rw [List.length_drop] at this; simp only [List.length_nil] at this; omega
   rw [List.take_of_length_le hl, List.take_of_length_le (by omega)]
def backs (sends : Int) (l : List Upd) : List Upd := (l.map fun u => ⟨u.k, u.sent + 1⟩).filter (fun u => decide (u.sent < sends))
theorem backs_snoc (sends : Int) (l : List Upd) (u : Upd) : backs sends (l ++ [u]) = backs sends l ++ if u.sent + 1 < sends then [⟨u.k, u.sent + 1⟩] else [] := by
 unfold backs; rw [List.map_append, List.filter_append]
 congr 1
 simp only [List.map_cons, List.map_nil]; by_cases h : u.sent + 1 < sends
 · rw [if_pos h, List.filter_cons_of_pos (by simpa using h), List.filter_nil]
 · rw [if_neg h, List.filter_cons_of_neg (by simpa using h), List.filter_nil]
theorem Pick.take {x : Nd} (ho : Ok x) {l : List Upd} {n : Nat} (h : Pick x.queue n l) (hn : n <= 4) (he : n = 4 \/ l = []) : x.take = { x with queue := l ++ backs x.c.sends ((x.queue.mergeSort Kv).take n) } := by
 have e := h.first hn he; rw [e]; have hr := h.rest; rw [e] at hr; unfold Nd.take; rw [<- hr]
 congr 2
 unfold backs; refine List.filter_congr (fun u hu => ?_)
 obtain ⟨v, hv, rfl⟩ := List.mem_map.1 hu; have := (ho.qkey v (first_mem hv)).2; by_cases hlt : v.sent + 1 < x.c.sends
 · have h1 : (v.sent + 1 != x.c.sends) = true := by simp only [bne_iff_ne, ne_eq]; omega
   simp only [h1, hlt, decide_true]
 · have h1 : (v.sent + 1 != x.c.sends) = false := by simp only [bne_eq_false_iff_eq]; omega
   simp only [h1, hlt, decide_false]
/-! ### the table -/
def nrm (m : Mem) : Mem := ⟨m.k, if m.k.st = 2 then m.due else 0⟩
def posM (n : Int) : List Mem -> Nat
 | [] => 0
 | a :: r => if a.k.id < n then posM n r + 1 else 0
theorem posM_le (n : Int) (l : List Mem) : posM n l <= l.length := by
 induction l with
 | nil => exact Nat.le_refl _
 | cons a r ih => unfold posM; split <;> simp <;> omega
theorem posM_eq {n : Int} {l : List Mem} {i : Nat} (hi : i <= l.length) (lo : ∀ (j : Nat) a, j < i -> l[j]? = some a -> a.k.id < n) (up : ∀ a, l[i]? = some a -> n <= a.k.id) : posM n l = i := by
 induction l generalizing i with
 | nil => simp at hi; subst hi; rfl
 | cons a r ih =>
  cases i with
  | zero =>
   have := up a rfl; unfold posM; rw [if_neg (by omega)]
  | succ i =>
   have h0 := lo 0 a (by omega) rfl
   unfold posM; rw [if_pos h0, ih (i := i) (by simpa using hi) (fun j b hj hb => lo (j + 1) b (by omega) (by simpa using hb)) (fun b hb => up b (by simpa using hb))]
theorem findM_pos {n : Int} {l : List Mem} (h : Rise (Zf l)) : Jo l n = (l[posM n l]?).filter (fun a => a.k.id == n) := by
 induction l with
 | nil => rfl
 | cons a r ih =>
  have hr : Rise (Zf r) := (List.pairwise_cons.1 h).2; have ha : ∀ b ∈ r, a.k.id < b.k.id := fun b hb => (List.pairwise_cons.1 h).1 b.k.id (List.mem_map.2 ⟨b, hb, rfl⟩)
  unfold posM; by_cases h1 : a.k.id < n
  · rw [if_pos h1]
    have e : (a.k.id == n) = false := by simp; omega
    have : Jo (a :: r) n = Jo r n := by unfold Jo; rw [List.find?_cons, e]
    rw [this, ih hr, List.getElem?_cons_succ]
  · rw [if_neg h1, List.getElem?_cons_zero]
    by_cases h2 : a.k.id = n
    · have e : (a.k.id == n) = true := by simpa using h2
      unfold Jo; rw [List.find?_cons, e]; simp [Option.filter, e]
    · have e : (a.k.id == n) = false := by simpa using h2
      have e2 : Jo (a :: r) n = none := by
       unfold Jo; rw [List.find?_eq_none]; intro b hb; rcases List.mem_cons.1 hb with rfl | hb
       · simpa using h2
       · have := ha b hb; simp; omega
      rw [e2]; simp [Option.filter, e]
def thereM (n : Int) (l : List Mem) : Bool := (Jo l n).isSome
theorem findM_at {n : Int} {l : List Mem} (h : Rise (Zf l)) {m : Mem} (hf : Jo l n = some m) : l[posM n l]? = some m := by
 rw [findM_pos h] at hf; cases hp : l[posM n l]? with
 | none => rw [hp] at hf; cases hf
 | some a =>
  rw [hp] at hf; by_cases e : (a.k.id == n) = true
  · simp [Option.filter, e] at hf; rw [hf]
  · simp [Option.filter, e] at hf
theorem thereM_at {n : Int} {l : List Mem} (h : Rise (Zf l)) {a : Mem} (hp : l[posM n l]? = some a) : thereM n l = (a.k.id == n) := by
 unfold thereM; rw [findM_pos h, hp]; by_cases e : (a.k.id == n) = true
 · simp [Option.filter, e]
 · simp [Option.filter, e]
theorem thereM_end {n : Int} {l : List Mem} (h : Rise (Zf l)) (hp : posM n l = l.length) : thereM n l = false := by
 unfold thereM; rw [findM_pos h, hp, List.getElem?_eq_none (Nat.le_refl _)]; rfl
theorem putM_new {m : Mem} {l : List Mem} (hr : Rise (Zf l)) (h : Jo l m.k.id = none) : Js m l = l.take (posM m.k.id l) ++ m :: l.drop (posM m.k.id l) := by
 induction l with
 | nil => rfl
 | cons a r ih =>
  have hn := findM_none h; have hne : a.k.id ≠ m.k.id := fun e => hn (by rw [<- e]; exact List.mem_cons_self ..)
  unfold Js posM; by_cases h1 : a.k.id < m.k.id
  · rw [if_pos h1, if_pos h1]
    have h2 : Jo r m.k.id = none := by
     unfold Jo at h ⊢; rw [List.find?_eq_none] at h ⊢; exact fun b hb => h b (List.mem_cons_of_mem _ hb)
    rw [ih (List.pairwise_cons.1 hr).2 h2, List.take_succ_cons, List.drop_succ_cons]; rfl
  · rw [if_neg h1, if_neg h1, if_neg hne]; rfl
theorem putM_old {m : Mem} {l : List Mem} (hr : Rise (Zf l)) {a : Mem} (h : l[posM m.k.id l]? = some a) (e : a.k.id = m.k.id) : Js m l = l.set (posM m.k.id l) m := by
 induction l with
 | nil => simp at h
 | cons b r ih =>
  unfold posM at h ⊢; unfold Js; by_cases h1 : b.k.id < m.k.id
  · rw [if_pos h1] at h ⊢
    rw [if_pos h1, List.set_cons_succ, ih (List.pairwise_cons.1 hr).2 (by simpa using h)]
  · rw [if_neg h1] at h ⊢
    simp only [List.getElem?_cons_zero, Option.some.injEq] at h; subst h; rw [if_neg h1, if_pos e, List.set_cons_zero]
theorem posM_at {l : List Mem} (hr : Rise (Zf l)) {i : Nat} {m : Mem} (h : l[i]? = some m) : posM m.k.id l = i := by
 obtain ⟨hi, e⟩ := List.getElem?_eq_some_iff.1 h; refine posM_eq (by omega) (fun j a hj ha => ?_) (fun a ha => by rw [h] at ha; cases ha; omega)
 have h1 : (Zf l)[j]? = some a.k.id := by unfold Zf; rw [List.getElem?_map, ha]; rfl
 have h2 : (Zf l)[i]? = some m.k.id := by unfold Zf; rw [List.getElem?_map, h]; rfl
 obtain ⟨j1, e1⟩ := List.getElem?_eq_some_iff.1 h1; obtain ⟨j2, e2⟩ := List.getElem?_eq_some_iff.1 h2; have := (List.pairwise_iff_getElem.1 hr) j i j1 j2 hj; rw [e1, e2] at this; exact this
theorem findM_here {l : List Mem} (hr : Rise (Zf l)) {i : Nat} {m : Mem} (h : l[i]? = some m) : Jo l m.k.id = some m := by
 rw [findM_pos hr, posM_at hr h, h]; simp [Option.filter]
/-! ### the tick's members -/
def rdue (c : Int) (m : Mem) : Bool := m.k.st == 2 && decide (m.due <= c)
def hearDead (y : Nd) (m : Mem) : Nd := y.hear ⟨m.k.id, m.k.inc, 3⟩
theorem hear_at {z : Nd} (h : Ok z) {i : Nat} {m : Mem} (hi : z.others[i]? = some m) (hst : m.k.st = 2) :
  z.hear ⟨m.k.id, m.k.inc, 3⟩ = z.taken ⟨m.k.id, m.k.inc, 3⟩ /\ (z.hear ⟨m.k.id, m.k.inc, 3⟩).others = z.others.set i ⟨⟨m.k.id, m.k.inc, 3⟩, z.clock + z.c.susp⟩ := by
 have hm := List.mem_of_getElem? hi; have hne := h.notSelf m hm
 have e : z.hear ⟨m.k.id, m.k.inc, 3⟩ = z.taken ⟨m.k.id, m.k.inc, 3⟩ := by
  unfold Nd.hear; rw [if_neg hne]; simp only; rw [findM_here h.rise hi]
  have : lessK m.k ⟨m.k.id, m.k.inc, 3⟩ = true := by
   unfold lessK; exact decide_eq_true (.inr ⟨rfl, by show m.k.st < 3; omega⟩)
  simp only [this, if_true]
 refine ⟨e, ?_⟩; rw [e]
 show Js ⟨⟨m.k.id, m.k.inc, 3⟩, z.clock + z.c.susp⟩ z.others = _
 have hp := posM_at h.rise hi; rw [putM_old (m := ⟨⟨m.k.id, m.k.inc, 3⟩, z.clock + z.c.susp⟩) (a := m) h.rise (by show z.others[posM m.k.id z.others]? = _; rw [hp]; exact hi) rfl]
 show z.others.set (posM m.k.id z.others) _ = _
 rw [hp]
structure Dues (y z : Nd) (i : Nat) : Prop where
 fold : z = ((y.others.take i).filter (rdue y.clock)).foldl hearDead y
 left : z.others.drop i = y.others.drop i
 len : z.others.length = y.others.length
 clock : z.clock = y.clock
 ok : Ok z
theorem Dues.start {y : Nd} (h : Ok y) : Dues y y 0 := ⟨rfl, rfl, rfl, rfl, h⟩
theorem Dues.at_ {y z : Nd} {i : Nat} (h : Dues y z i) : z.others[i]? = y.others[i]? := by
 have := congrArg (fun l : List Mem => l[0]?) h.left
 simpa using this
theorem Dues.skip {y z : Nd} {i : Nat} (h : Dues y z i) {m : Mem} (hm : z.others[i]? = some m) (hd : rdue y.clock m = false) : Dues y z (i + 1) := by
 have hy := h.at_ ▸ hm; refine ⟨?_, ?_, h.len, h.clock, h.ok⟩
 · rw [List.take_add_one, hy, List.filter_append]
   simp only [Option.toList_some, List.filter_cons, hd, Bool.false_eq_true, if_false, List.filter_nil, List.append_nil]; exact h.fold
 · have := congrArg (List.drop 1) h.left
   rwa [List.drop_drop, List.drop_drop] at this
theorem Dues.more {y z : Nd} {i : Nat} (h : Dues y z i) (h0 : 0 <= y.clock) {m : Mem} (hm : z.others[i]? = some m) (hd : rdue y.clock m = true) : Dues y (z.hear ⟨m.k.id, m.k.inc, 3⟩) (i + 1) := by
 have hy := h.at_ ▸ hm; have hst : m.k.st = 2 := by simp only [rdue, Bool.and_eq_true, beq_iff_eq] at hd; exact hd.1
 obtain ⟨h1, h2⟩ := hear_at h.ok hm hst; have hk := h.ok.key m (List.mem_of_getElem? hm); refine ⟨?_, ?_, by rw [h2, List.length_set]; exact h.len, by rw [(same_hear _ _).clock]; exact h.clock, h.ok.hear (by rw [h.clock]; exact h0) ⟨hk.1, hk.2.1, by show (1 : Int) <= 3 /\ (3 : Int) <= 4; omega⟩⟩
 · rw [List.take_add_one, hy, List.filter_append]
   simp only [Option.toList_some, List.filter_cons, hd, if_true, List.filter_nil, List.foldl_append, List.foldl_cons, List.foldl_nil]; rw [<- h.fold]; rfl
 · rw [h2, List.drop_set_of_lt (by omega)]
   have := congrArg (List.drop 1) h.left
   rwa [List.drop_drop, List.drop_drop] at this
theorem Dues.done {x z : Nd} {i : Nat} (h : Dues { x with clock := x.clock + 1, relays := x.relays.filter (fun r => decide (x.clock + 1 < r.ends)) } z i) (hi : z.others.length <= i) : z = x.clocked := by
 have hl := h.len; have := h.fold; rw [List.take_of_length_le (by omega)] at this
 exact this
/-! ### a table for one that joins -/
theorem putK_before {k a : K} {l : List K} (h : ∀ b ∈ l, b.id < k.id) (ha : ¬ a.id < k.id) : putK k (l ++ [a]) = l ++ [k, a] := by
 induction l with
 | nil => show putK k [a] = _; unfold putK; rw [if_neg ha]; rfl
 | cons b r ih =>
  show putK k (b :: (r ++ [a])) = _
  unfold putK; rw [if_pos (h b (by simp)), ih (fun c hc => h c (by simp [hc]))]; rfl
theorem putK_last {k : K} {l : List K} (h : ∀ b ∈ l, b.id < k.id) : putK k l = l ++ [k] := by
 induction l with
 | nil => rfl
 | cons b r ih => unfold putK; rw [if_pos (h b (by simp)), ih (fun c hc => h c (by simp [hc]))]; rfl
theorem putK_snoc {k a : K} {l : List K} (h : ∃ b ∈ l, ¬ b.id < k.id) : putK k (l ++ [a]) = putK k l ++ [a] := by
 induction l with
 | nil => obtain ⟨b, hb, _⟩ := h; simp at hb
 | cons b r ih =>
  show putK k (b :: (r ++ [a])) = _
  unfold putK; by_cases hb : b.id < k.id
  · rw [if_pos hb, if_pos hb]
    obtain ⟨c, hc, h1⟩ := h; rcases List.mem_cons.1 hc with rfl | hc
    · exact absurd hb h1
    · rw [ih ⟨c, hc, h1⟩]; rfl
  · rw [if_neg hb, if_neg hb]; rfl
/-! ### relays -/
def rhit (m : M) (r : Rel) : Bool := r.seq == m.seq && r.tgt == m.tgt
theorem relays_none {l : List Rel} {m : M} (h : ∀ r ∈ l, rhit m r = false) : l.find? (fun r => r.seq == m.seq && r.tgt == m.tgt) = none /\ l.filter (fun r => !rhit m r) = l := by
 refine ⟨List.find?_eq_none.2 (fun r hr => by have := h r hr; unfold rhit at this; simp [this]), List.filter_eq_self.2 (fun r hr => by rw [h r hr]; rfl)⟩
theorem relays_some {l : List Rel} {m : M} (hnd : (rids l).Nodup) {r : Rel} (hr : r ∈ l) (hh : rhit m r = true) :
  l.find? (fun r => r.seq == m.seq && r.tgt == m.tgt) = some r /\ l.filter (fun r => !rhit m r) = l.filter (fun r => !(r.seq == m.seq)) := by
 have hinj : ∀ r' ∈ l, r'.seq = r.seq -> r' = r := fun r' hr' e => by
  obtain ⟨i, hi⟩ := List.mem_iff_getElem?.1 hr'; obtain ⟨j, hj⟩ := List.mem_iff_getElem?.1 hr; have hi' : (rids l)[i]? = some r.seq := by unfold rids; rw [List.getElem?_map, hi, <- e]; rfl
  have hj' : (rids l)[j]? = some r.seq := by unfold rids; rw [List.getElem?_map, hj]; rfl
  have hil := (List.getElem?_eq_some_iff.1 hi').1; have := (List.getElem?_inj hil hnd).1 (hi'.trans hj'.symm); subst this; rw [hi] at hj; cases hj; rfl
 have hs : r.seq = m.seq /\ r.tgt = m.tgt := by unfold rhit at hh; simpa using hh
 constructor
 · cases hf : l.find? (fun r => r.seq == m.seq && r.tgt == m.tgt) with
   | none => exact absurd hh (by have := List.find?_eq_none.1 hf r hr; unfold rhit; simpa using this)
   | some r' =>
    have h1 := List.mem_of_find?_eq_some hf; have h2 := List.find?_some hf; simp only [Bool.and_eq_true, beq_iff_eq] at h2; rw [hinj r' h1 (by omega)]
 · refine List.filter_congr (fun r' hr' => ?_)
   by_cases e : r'.seq = m.seq
   · have := hinj r' hr' (by omega)
     subst this; rw [hh]; simp [e]
   · simp [rhit, e]
def Jd (l : List Mem) : List Value := l.flatMap fun m => [.int .i64 m.k.id, .int .i64 m.k.inc, .int .i64 m.k.st, .int .i64 (nrm m).due]
def Kz (l : List Upd) : List Value := l.flatMap fun u => [.int .i64 u.k.id, .int .i64 u.k.inc, .int .i64 u.k.st, .int .i64 u.sent]
def Za (l : List Rel) : List Value := l.flatMap fun r => [.int .i64 r.seq, .int .i64 r.tgt, .int .i64 r.orig, .int .i64 r.oseq, .int .i64 r.ends]
def tgtP : Option Prb -> Int
 | none => 0
 | some p => p.tgt
abbrev RB (w : World) (b : Nat) (f : Nat -> Value) : Prop := SB 93 25 w b f
structure RfCells (w : World) (B : Nat) (f : Nat -> Value) (x : Nd) : Prop where
 c0 : f 0 = .int .i64 x.c.self
 c1 : f 1 = .int .i64 x.c.period
 c2 : f 2 = .int .i64 x.c.wait
 c3 : f 3 = .int .i64 x.c.susp
 c4 : f 4 = .int .i64 x.c.prox
 c5 : f 5 = .int .i64 x.c.sends
 ds : ∃ a c, f 6 = .slice a x.ds.length c /\ IntIn w a x.ds
 df : ∀ v ∈ x.ds, fits v
 n7 : f 7 = .int .i64 (x.at_ : Int)
 n8 : f 8 = .int .i64 x.clock
 n9 : f 9 = .int .i64 x.seq
 s10 : f 10 = .int .i64 x.self.id
 s11 : f 11 = .int .i64 x.self.inc
 s12 : f 12 = .int .i64 x.self.st
 oth : w.ownsRow B 149 4 (f 13) x.others.length (Jd x.others)
 pas : w.ownsRow B 3 1 (f 14) x.pass.length (x.pass.map (Value.int .i64))
 n15 : f 15 = .int .i64 (tgtP x.probe)
 prb : ∃ s n a, f 16 = .int .i64 s /\ f 17 = .int .i64 n /\ f 18 = .bool a /\ ∀ p, x.probe = some p -> p.start = s /\ p.seq = n /\ p.acked = a
 que : w.ownsRow B 166 4 (f 19) x.queue.length (Kz x.queue)
 rel : w.ownsRow B 147 5 (f 20) x.relays.length (Za x.relays)
 n21 : f 21 = .int .i64 x.dropped
 evs : w.ownsRow B 58 3 (f 22) x.events.length (Kd x.events)
 n23 : f 23 = .int .i64 x.lost
 o24 : ∃ a n c, f 24 = .slice a n c
structure RfAt (w : World) (B b : Nat) (f : Nat -> Value) (x : Nd) : Prop extends RfCells w B f x where
 blk : RB w b f
 lo : B <= b
def RFoot (b : Nat) (f : Nat -> Value) (k : Nat) : Prop := k = b \/ (f 13).ownBlock = some k \/ (f 14).ownBlock = some k \/ (f 19).ownBlock = some k \/ (f 20).ownBlock = some k \/ (f 22).ownBlock = some k
def RHas (b : Nat) (f : Nat -> Value) (k : Nat) : Prop := RFoot b f k \/ (f 6).ownBlock = some k
theorem Je {w w' : World} {B e s n : Nat} {v : Value} {xs : List Value} (h : w.ownsRow B e s v n xs) (hk : ∀ k, v.ownBlock = some k -> w'.heap[k]? = w.heap[k]?) : w'.ownsRow B e s v n xs := by
 refine ⟨h.1, ?_⟩; rcases h.2 with hn | ⟨g, cap, cur, rfl, hb, hg, rest⟩
 · exact .inl hn
 · exact .inr ⟨g, cap, cur, rfl, hb, (hk g rfl).trans hg, rest⟩
theorem IntIn.keep {w w' : World} {a : Option Addr} {n c : Nat} {l : List Int} (h : IntIn w a l) (hk : ∀ k, (Value.slice a n c).ownBlock = some k -> w'.heap[k]? = w.heap[k]?) : IntIn w' a l := by
 have e : ∀ p, a = some p -> w'.heap[p.block]? = w.heap[p.block]? := fun p ep => hk _ (by rw [ep]; rfl)
 refine ⟨h.1.heap fun b off ea hlt => ⟨e _ ea, ?_⟩, fun p ep => ?_⟩
 · obtain ⟨cs, f, hg⟩ := h.2 _ ea
   exact Kb ((e _ ea).trans hg)
 · obtain ⟨cs, f, hg⟩ := h.2 p ep
   exact ⟨cs, f, (e p ep).trans hg⟩
theorem RfAt.keep {w w' : World} {B b : Nat} {f : Nat -> Value} {x : Nd} (h : RfAt w B b f x) (e : ∀ k, RHas b f k -> w'.heap[k]? = w.heap[k]?) : RfAt w' B b f x :=
 { h with
   blk := h.blk.heap (e _ (.inl (.inl rfl)))
   ds := by
    obtain ⟨a, c, e6, hi⟩ := h.ds; exact ⟨a, c, e6, hi.keep (n := x.ds.length) (c := c) (fun k hk => e k (.inr (by rw [e6]; exact hk)))⟩
   oth := Je h.oth (fun k hk => e k (.inl (.inr (.inl hk))))
   pas := Je h.pas (fun k hk => e k (.inl (.inr (.inr (.inl hk)))))
   que := Je h.que (fun k hk => e k (.inl (.inr (.inr (.inr (.inl hk))))))
   rel := Je h.rel (fun k hk => e k (.inl (.inr (.inr (.inr (.inr (.inl hk)))))))
   evs := Je h.evs (fun k hk => e k (.inl (.inr (.inr (.inr (.inr (.inr hk))))))) }
theorem RfAt.foot_lt {w : World} {B b : Nat} {f : Nat -> Value} {x : Nd} (h : RfAt w B b f x) {k : Nat} (hk : RFoot b f k) : B <= k /\ k < w.heap.size := by
 rcases hk with rfl | hk | hk | hk | hk | hk
 · exact ⟨h.lo, h.blk.lt⟩
 · exact h.oth.lt k hk
 · exact h.pas.lt k hk
 · exact h.que.lt k hk
 · exact h.rel.lt k hk
 · exact h.evs.lt k hk
theorem RfAt.foot_type {w : World} {B b : Nat} {f : Nat -> Value} {x : Nd} (h : RfAt w B b f x) {k : Nat} (hk : RFoot b f k) : ∃ cs t, w.heap[k]? = some (.cells cs t (0, 0)) /\ t ∈ [93, 149, 3, 166, 147, 58] := by
 rcases hk with rfl | hk | hk | hk | hk | hk
 · obtain ⟨cs, h⟩ := h.blk.block; exact ⟨cs, _, h, by simp⟩
 · obtain ⟨_, cs, h⟩ := Ke h.oth hk; exact ⟨cs, _, h, by simp⟩
 · obtain ⟨_, cs, h⟩ := Ke h.pas hk; exact ⟨cs, _, h, by simp⟩
 · obtain ⟨_, cs, h⟩ := Ke h.que hk; exact ⟨cs, _, h, by simp⟩
 · obtain ⟨_, cs, h⟩ := Ke h.rel hk; exact ⟨cs, _, h, by simp⟩
 · obtain ⟨_, cs, h⟩ := Ke h.evs hk; exact ⟨cs, _, h, by simp⟩
theorem RfAt.ds_type {w : World} {B b : Nat} {f : Nat -> Value} {x : Nd} (h : RfAt w B b f x) {k : Nat} (hk : (f 6).ownBlock = some k) : ∃ cs fr, w.heap[k]? = some (.cells cs 3 fr) := by
 obtain ⟨a, c, e6, hi⟩ := h.ds; rw [e6] at hk; cases a with
 | none => simp [Value.ownBlock] at hk
 | some p =>
  simp only [Value.ownBlock, Option.some.injEq] at hk; rw [<- hk]; exact hi.2 p rfl
theorem RfAt.below {w w' : World} {B b : Nat} {f : Nat -> Value} {x : Nd} (h : RfAt w B b f x) (hb : Below w.heap.size w w') : RfAt w' B b f x :=
 h.keep (fun k hk => hb.block k (by
  rcases hk with hk | hk
  · exact (h.foot_lt hk).2
  · obtain ⟨cs, fr, hg⟩ := h.ds_type hk
    exact Kb hg))
theorem RfAt.drewN {w : World} {B b : Nat} {f : Nat -> Value} {x : Nd} (h : RfAt w B b f x) (n : Nat) : RfAt (w.drewN n) B b f x := h.keep (fun _ _ => rfl)
section
variable {w : World} {B b : Nat} {f : Nat -> Value} {x : Nd}
theorem own_cell {t : TypeId} {s n i : Nat} {u v : Value} {xs : List Value} (hb : RB w b f) (h : w.ownsRow B t s u n xs) (ht : 93 ≠ t) : (w.setCell ⟨b, i, none⟩ v).ownsRow B t s u n xs :=
 Kq h ((Chg.refl (fun k _ => k = b) w).setCell _ (fun _ _ => rfl)) (fun _ _ e h' => hb.neOwn h ht (h' ▸ e))
theorem IntIn.cell {a : Option Addr} {l : List Int} {i : Nat} {v : Value} (hb : RB w b f) (h : IntIn w a l) : IntIn (w.setCell ⟨b, i, none⟩ v) a l :=
 h.typed ((Chg.refl (fun k _ => k = b) w).setCell _ (fun _ _ => rfl)) (fun k o hk e cs fr ho => by
  subst e; obtain ⟨cs', hb'⟩ := hb.block; rw [hb'] at hk; cases hk; cases ho)
theorem own_ne {B1 B2 t1 t2 s1 s2 n1 n2 : Nat} {u v : Value} {xs ys : List Value} (h1 : w.ownsRow B1 t1 s1 u n1 xs) (h2 : w.ownsRow B2 t2 s2 v n2 ys) (ht : t1 ≠ t2) : ∀ k, u.ownBlock = some k -> v.ownBlock ≠ some k := by
 intro k hu hv; obtain ⟨_, c1, g1⟩ := Ke h1 hu; obtain ⟨_, c2, g2⟩ := Ke h2 hv; rw [g1] at g2; simp only [Option.some.injEq, Obj.cells.injEq] at g2; exact ht g2.2.1
theorem IntIn.grown {w2 : World} {a : Option Addr} {l : List Int} {row : Option Nat} (h : IntIn w a l) (hg : w.grownBy w2 row) (hr : ∀ k, row = some k -> ∃ cs t, w.heap[k]? = some (.cells cs t (0, 0)) /\ t ≠ 3) : IntIn w2 a l :=
 h.typed (S := fun k _ => row = some k) ⟨hg.os, hg.tape, hg.output, hg.size, fun k o hk hs => (hg.block k (Kb hk) (fun e => hs e.symm)).trans hk⟩ (fun k o hk hs cs fr e => by
  obtain ⟨cs', t, h', ht⟩ := hr k hs; rw [h'] at hk; cases hk; simp only [Obj.cells.injEq] at e; exact ht e.2.1)
theorem RfAt.set (h : RfAt w B b f x) {w2 : World} (hb : RB w2 b f) {i : Nat} (hi : i < 25) {v : Value} {x2 : Nd} (F : RfCells w2 B (upd f i v) x2) : RfAt (w2.setCell ⟨b, i, none⟩ v) B b (upd f i v) x2 :=
 { F with
   blk := hb.set hi _
   lo := h.lo
   ds := by obtain ⟨a, c, e, hi⟩ := F.ds; exact ⟨a, c, e, hi.cell hb⟩
   oth := own_cell hb F.oth (by decide)
   pas := own_cell hb F.pas (by decide)
   que := own_cell hb F.que (by decide)
   rel := own_cell hb F.rel (by decide)
   evs := own_cell hb F.evs (by decide) }
theorem RfAt.setAt (h : RfAt w B b f x) (k : Nat) : RfAt (w.setCell ⟨b, 7, none⟩ (.int .i64 (k : Int))) B b (upd f 7 (.int .i64 (k : Int))) { x with at_ := k } := h.set h.blk (by omega) { h.toRfCells with n7 := rfl }
theorem RfAt.setClock (h : RfAt w B b f x) (c : Int) : RfAt (w.setCell ⟨b, 8, none⟩ (.int .i64 c)) B b (upd f 8 (.int .i64 c)) { x with clock := c } := h.set h.blk (by omega) { h.toRfCells with n8 := rfl }
theorem RfAt.setSeq (h : RfAt w B b f x) (c : Int) : RfAt (w.setCell ⟨b, 9, none⟩ (.int .i64 c)) B b (upd f 9 (.int .i64 c)) { x with seq := c } := h.set h.blk (by omega) { h.toRfCells with n9 := rfl }
theorem RfAt.setInc (h : RfAt w B b f x) (c : Int) : RfAt (w.setCell ⟨b, 11, none⟩ (.int .i64 c)) B b (upd f 11 (.int .i64 c)) { x with self := { x.self with inc := c } } := h.set h.blk (by omega) { h.toRfCells with s11 := rfl }
theorem RfAt.setSt (h : RfAt w B b f x) (c : Int) : RfAt (w.setCell ⟨b, 12, none⟩ (.int .i64 c)) B b (upd f 12 (.int .i64 c)) { x with self := { x.self with st := c } } := h.set h.blk (by omega) { h.toRfCells with s12 := rfl }
theorem RfAt.setDropped (h : RfAt w B b f x) (c : Int) : RfAt (w.setCell ⟨b, 21, none⟩ (.int .i64 c)) B b (upd f 21 (.int .i64 c)) { x with dropped := c } := h.set h.blk (by omega) { h.toRfCells with n21 := rfl }
theorem RfAt.setLost (h : RfAt w B b f x) (c : Int) : RfAt (w.setCell ⟨b, 23, none⟩ (.int .i64 c)) B b (upd f 23 (.int .i64 c)) { x with lost := c } := h.set h.blk (by omega) { h.toRfCells with n23 := rfl }
theorem RfAt.setOthers (h : RfAt w B b f x) {l : List Mem} {v : Value} (hv : w.ownsRow B 149 4 v l.length (Jd l)) : RfAt (w.setCell ⟨b, 13, none⟩ v) B b (upd f 13 v) { x with others := l } := h.set h.blk (by omega) { h.toRfCells with oth := hv }
theorem RfAt.setPass (h : RfAt w B b f x) {l : List Int} {v : Value} (hv : w.ownsRow B 3 1 v l.length (l.map (Value.int .i64))) : RfAt (w.setCell ⟨b, 14, none⟩ v) B b (upd f 14 v) { x with pass := l } := h.set h.blk (by omega) { h.toRfCells with pas := hv }
theorem RfAt.setQueue (h : RfAt w B b f x) {l : List Upd} {v : Value} (hv : w.ownsRow B 166 4 v l.length (Kz l)) : RfAt (w.setCell ⟨b, 19, none⟩ v) B b (upd f 19 v) { x with queue := l } := h.set h.blk (by omega) { h.toRfCells with que := hv }
theorem RfAt.setRelays (h : RfAt w B b f x) {l : List Rel} {v : Value} (hv : w.ownsRow B 147 5 v l.length (Za l)) : RfAt (w.setCell ⟨b, 20, none⟩ v) B b (upd f 20 v) { x with relays := l } := h.set h.blk (by omega) { h.toRfCells with rel := hv }
theorem RfAt.setEvents (h : RfAt w B b f x) {l : List K} {v : Value} (hv : w.ownsRow B 58 3 v l.length (Kd l)) : RfAt (w.setCell ⟨b, 22, none⟩ v) B b (upd f 22 v) { x with events := l } := h.set h.blk (by omega) { h.toRfCells with evs := hv }
theorem RfAt.setOut (h : RfAt w B b f x) (a : Option Addr) (n c : Nat) : RfAt (w.setCell ⟨b, 24, none⟩ (.slice a n c)) B b (upd f 24 (.slice a n c)) x := h.set h.blk (by omega) { h.toRfCells with o24 := ⟨a, n, c, rfl⟩ }
theorem RfAt.setProbe (h : RfAt w B b f x) (q : Option Prb) (t : Int) (ht : tgtP q = t) (hq : ∀ s n a, f 16 = .int .i64 s -> f 17 = .int .i64 n -> f 18 = .bool a -> ∀ p, q = some p -> p.start = s /\ p.seq = n /\ p.acked = a) :
  RfAt (w.setCell ⟨b, 15, none⟩ (.int .i64 t)) B b (upd f 15 (.int .i64 t)) { x with probe := q } :=
 h.set h.blk (by omega) { h.toRfCells with n15 := by rw [<- ht]; rfl, prb := by obtain ⟨s, n, a, e1, e2, e3, _⟩ := h.prb; exact ⟨s, n, a, e1, e2, e3, hq s n a e1 e2 e3⟩ }
theorem tgtP_map (q : Option Prb) (g : Prb -> Prb) (hg : ∀ p, (g p).tgt = p.tgt) : tgtP (q.map g) = tgtP q := by
 cases q with
 | none => rfl
 | some p => exact hg p
theorem RfAt.setStart (h : RfAt w B b f x) (st : Int) : RfAt (w.setCell ⟨b, 16, none⟩ (.int .i64 st)) B b (upd f 16 (.int .i64 st)) { x with probe := x.probe.map fun p => { p with start := st } } :=
 h.set h.blk (by omega) { h.toRfCells with n15 := h.n15.trans (congrArg (Value.int .i64) (tgtP_map x.probe (fun p => { p with start := st }) (fun _ => rfl)).symm), prb := (by
                                                                                                                       obtain ⟨s, n, a, e1, e2, e3, hp⟩ := h.prb; refine ⟨st, n, a, rfl, e2, e3, fun p hp' => ?_⟩
                                                                                                                       obtain ⟨p0, h0, rfl⟩ := Option.map_eq_some_iff.1 hp'; obtain ⟨q1, q2, q3⟩ := hp p0 h0; exact ⟨rfl, q2, q3⟩) }
theorem RfAt.setNo (h : RfAt w B b f x) (no : Int) : RfAt (w.setCell ⟨b, 17, none⟩ (.int .i64 no)) B b (upd f 17 (.int .i64 no)) { x with probe := x.probe.map fun p => { p with seq := no } } :=
 h.set h.blk (by omega) { h.toRfCells with n15 := h.n15.trans (congrArg (Value.int .i64) (tgtP_map x.probe (fun p => { p with seq := no }) (fun _ => rfl)).symm), prb := (by
                                                                                                                       obtain ⟨s, n, a, e1, e2, e3, hp⟩ := h.prb; refine ⟨s, no, a, e1, rfl, e3, fun p hp' => ?_⟩
                                                                                                                       obtain ⟨p0, h0, rfl⟩ := Option.map_eq_some_iff.1 hp'; obtain ⟨q1, q2, q3⟩ := hp p0 h0; exact ⟨q1, rfl, q3⟩) }
theorem RfAt.setAcked (h : RfAt w B b f x) (ak : Bool) : RfAt (w.setCell ⟨b, 18, none⟩ (.bool ak)) B b (upd f 18 (.bool ak)) { x with probe := x.probe.map fun p => { p with acked := ak } } :=
 h.set h.blk (by omega) { h.toRfCells with n15 := h.n15.trans (congrArg (Value.int .i64) (tgtP_map x.probe (fun p => { p with acked := ak }) (fun _ => rfl)).symm), prb := (by
                                                                                                                       obtain ⟨s, n, a, e1, e2, e3, hp⟩ := h.prb; refine ⟨s, n, ak, e1, e2, rfl, fun p hp' => ?_⟩
                                                                                                                       obtain ⟨p0, h0, rfl⟩ := Option.map_eq_some_iff.1 hp'; obtain ⟨q1, q2, q3⟩ := hp p0 h0; exact ⟨q1, q2, rfl⟩) }
theorem RfAt.grew (h : RfAt w B b f x) {w2 : World} {g t s n : Nat} {u : Value} {xs : List Value} (hto : AppTo w w2 u g) (hu : w.ownsRow B t s u n xs) (ht : t ≠ 93 /\ t ≠ 3) :
  RB w2 b f /\ (∀ {t' s' n' : Nat} {v : Value} {ys : List Value}, w.ownsRow B t' s' v n' ys -> t ≠ t' -> w2.ownsRow B t' s' v n' ys) /\ ∃ a c, f 6 = .slice a x.ds.length c /\ IntIn w2 a x.ds := by
 obtain ⟨a, c, e, hi⟩ := h.ds; exact ⟨h.blk.grown hto.grown (h.blk.neOwn hu (fun e => ht.1 e.symm)), fun ho hne => hto.other ho (own_ne hu ho hne), a, c, e, hi.grown hto.grown (fun k hk => by obtain ⟨_, cur, hg⟩ := Ke hu hk; exact ⟨cur, _, hg, ht.2⟩)⟩
theorem RfAt.appEvents (h : RfAt w B b f x) {w2 : World} {g : Nat} {l : List K} {v : Value} (hto : AppTo w w2 (f 22) g) (hv : w2.ownsRow B 58 3 v l.length (Kd l)) :
  w2.cell? ⟨b, 22, none⟩ = some (f 22) /\ w2.frozen? ⟨b, 22, none⟩ = false /\ RfAt (w2.setCell ⟨b, 22, none⟩ v) B b (upd f 22 v) { x with events := l } := by
 obtain ⟨hb, hr, hd⟩ := h.grew hto h.evs (by decide)
 exact ⟨hb.cell (by omega), hb.free _, h.set hb (by omega) { h.toRfCells with evs := hv, ds := hd, oth := hr h.oth (by decide), pas := hr h.pas (by decide), que := hr h.que (by decide), rel := hr h.rel (by decide) }⟩
theorem RfAt.appRelays (h : RfAt w B b f x) {w2 : World} {g : Nat} {l : List Rel} {v : Value} (hto : AppTo w w2 (f 20) g) (hv : w2.ownsRow B 147 5 v l.length (Za l)) :
  w2.cell? ⟨b, 20, none⟩ = some (f 20) /\ w2.frozen? ⟨b, 20, none⟩ = false /\ RfAt (w2.setCell ⟨b, 20, none⟩ v) B b (upd f 20 v) { x with relays := l } := by
 obtain ⟨hb, hr, hd⟩ := h.grew hto h.rel (by decide)
 exact ⟨hb.cell (by omega), hb.free _, h.set hb (by omega) { h.toRfCells with rel := hv, ds := hd, oth := hr h.oth (by decide), pas := hr h.pas (by decide), que := hr h.que (by decide), evs := hr h.evs (by decide) }⟩
theorem RfAt.reOthers (h : RfAt w B b f x) {W : World} {g : Nat} {l : List Mem} (hg : (f 13).ownBlock = some g) (hc : Chg (fun k _ => k = g) w W) (hv : W.ownsRow B 149 4 (f 13) l.length (Jd l)) : RfAt W B b f { x with others := l } := by
 obtain ⟨_, cur, hgb⟩ := Ke h.oth hg; have ht : ∀ {t s n : Nat} {v : Value} {xs : List Value}, w.ownsRow B t s v n xs -> t ≠ 149 -> W.ownsRow B t s v n xs := fun ho hne => Kq ho hc (fun k o hk e => own_ne ho h.oth hne k hk (by rw [e]; exact hg))
 exact
  { h with
    blk := h.blk.chg hc (fun cs e => by
     obtain ⟨cs', hb⟩ := h.blk.block; rw [e, hgb] at hb; simp only [Option.some.injEq, Obj.cells.injEq] at hb; exact absurd hb.2.1 (by decide))
    ds := by
     obtain ⟨a, c, e, hi⟩ := h.ds
     exact ⟨a, c, e, hi.typed hc (fun k o hk e' cs fr ho => by
      subst e'; rw [hgb] at hk; cases hk; simp only [Obj.cells.injEq] at ho; exact absurd ho.2.1 (by decide))⟩
    oth := hv
    pas := ht h.pas (by decide)
    que := ht h.que (by decide)
    rel := ht h.rel (by decide)
    evs := ht h.evs (by decide) }
end
theorem Below.drewR {B : Nat} {w w' : World} (h : Below B w w') (n : Nat) : Below B w (w'.drewN n) := ⟨h.os, h.tape, h.output, h.size, h.block⟩
theorem rfl_at {α : Type} {F : α -> List Value} {s : Nat} (hF : ∀ a, (F a).length = s) (l : List α) : ∀ (i : Nat) (a : α) (j : Nat) (v : Value), l[i]? = some a -> (F a)[j]? = some v -> (l.flatMap F)[i * s + j]? = some v := by
 induction l with
 | nil => intro i a j v h; simp at h
 | cons b l ih =>
  intro i a j v h hv; rw [List.flatMap_cons]; cases i with
  | zero =>
   simp at h
   subst h; rw [Nat.zero_mul, Nat.zero_add, List.getElem?_append_left (List.getElem?_eq_some_iff.1 hv).1]; exact hv
  | succ i =>
   rw [List.getElem?_append_right (by rw [hF, Nat.succ_mul]; omega), hF, show (i + 1) * s + j - s = i * s + j by rw [Nat.succ_mul]; omega]
   exact ih i a j v (by simpa using h) hv
theorem flatl {α : Type} {F : α -> List Value} {s : Nat} (hF : ∀ a, (F a).length = s) (l : List α) : (l.flatMap F).length = l.length * s := by
 induction l with
 | nil => simp
 | cons b l ih => rw [List.flatMap_cons, List.length_append, ih, hF, List.length_cons, Nat.succ_mul]; omega
theorem row_at {α : Type} {F : α -> List Value} {s : Nat} (hF : ∀ a, (F a).length = s) (hsp : 0 < s) {w : World} {B e n c : Nat} {a : Option Addr} {l : List α} (h : w.ownsRow B e s (.slice a n c) n (l.flatMap F)) {i : Nat} {x : α} (hi : l[i]? = some x) :
  ∃ g, a = some ⟨g, 0, none⟩ /\ g < w.heap.size /\ ∀ (j : Nat) v, (F x)[j]? = some v -> w.cell? ⟨g, i * s + j, none⟩ = some v := by
 rcases h.2 with ⟨e1, e2⟩ | ⟨g, cap, cur, e1, _, hg, _⟩
 · exfalso
   have hs := (List.getElem?_eq_some_iff.1 hi).1; have hl := h.1; rw [flatl hF] at hl; have hn : n = 0 := by simp only [Value.slice.injEq] at e1; exact e1.2.1
   rw [hn, Nat.zero_mul] at hl; have := Nat.mul_pos (Nat.lt_of_le_of_lt (Nat.zero_le _) hs) hsp; omega
 · simp only [Value.slice.injEq] at e1
   obtain ⟨rfl, _, rfl⟩ := e1; refine ⟨g, rfl, Kb hg, fun j v hv => ?_⟩
   obtain ⟨b, off, e', _, hc⟩ := Ki.row h _ _ (rfl_at hF l i x j v hi hv); cases e'
   rw [Nat.zero_add] at hc; exact hc
def mrF (m : Mem) : List Value := [.int .i64 m.k.id, .int .i64 m.k.inc, .int .i64 m.k.st, .int .i64 (nrm m).due]
def uF (u : Upd) : List Value := [.int .i64 u.k.id, .int .i64 u.k.inc, .int .i64 u.k.st, .int .i64 u.sent]
def rlF (r : Rel) : List Value := [.int .i64 r.seq, .int .i64 r.tgt, .int .i64 r.orig, .int .i64 r.oseq, .int .i64 r.ends]
theorem mr_eq (l : List Mem) : Jd l = l.flatMap mrF := rfl
theorem mr_at {w : World} {B e n c : Nat} {a : Option Addr} {l : List Mem} (h : w.ownsRow B e 4 (.slice a n c) n (Jd l)) {i : Nat} {m : Mem} (hi : l[i]? = some m) :
  ∃ g, a = some ⟨g, 0, none⟩ /\ g < w.heap.size /\ w.cell? ⟨g, i * 4, none⟩ = some (.int .i64 m.k.id) /\ w.cell? ⟨g, i * 4 + 1, none⟩ = some (.int .i64 m.k.inc) /\ w.cell? ⟨g, i * 4 + 2, none⟩ = some (.int .i64 m.k.st) /\ w.cell? ⟨g, i * 4 + 3, none⟩ = some (.int .i64 (nrm m).due) := by
 obtain ⟨g, e, hg, hc⟩ := row_at (F := mrF) (fun _ => rfl) (by decide) h hi
 exact ⟨g, e, hg, hc 0 _ rfl, hc 1 _ rfl, hc 2 _ rfl, hc 3 _ rfl⟩
theorem u_at {w : World} {B e n c : Nat} {a : Option Addr} {l : List Upd} (h : w.ownsRow B e 4 (.slice a n c) n (Kz l)) {i : Nat} {u : Upd} (hi : l[i]? = some u) :
  ∃ g, a = some ⟨g, 0, none⟩ /\ g < w.heap.size /\ w.cell? ⟨g, i * 4, none⟩ = some (.int .i64 u.k.id) /\ w.cell? ⟨g, i * 4 + 1, none⟩ = some (.int .i64 u.k.inc) /\ w.cell? ⟨g, i * 4 + 2, none⟩ = some (.int .i64 u.k.st) /\ w.cell? ⟨g, i * 4 + 3, none⟩ = some (.int .i64 u.sent) := by
 obtain ⟨g, e, hg, hc⟩ := row_at (F := uF) (fun _ => rfl) (by decide) h hi
 exact ⟨g, e, hg, hc 0 _ rfl, hc 1 _ rfl, hc 2 _ rfl, hc 3 _ rfl⟩
theorem rel_at {w : World} {B e n c : Nat} {a : Option Addr} {l : List Rel} (h : w.ownsRow B e 5 (.slice a n c) n (Za l)) {i : Nat} {r : Rel} (hi : l[i]? = some r) :
  ∃ g, a = some ⟨g, 0, none⟩ /\ g < w.heap.size /\ w.cell? ⟨g, i * 5, none⟩ = some (.int .i64 r.seq) /\ w.cell? ⟨g, i * 5 + 1, none⟩ = some (.int .i64 r.tgt) /\ w.cell? ⟨g, i * 5 + 2, none⟩ = some (.int .i64 r.orig) /\ w.cell? ⟨g, i * 5 + 3, none⟩ = some (.int .i64 r.oseq) /\ w.cell? ⟨g, i * 5 + 4, none⟩ = some (.int .i64 r.ends) := by
 obtain ⟨g, e, hg, hc⟩ := row_at (F := rlF) (fun _ => rfl) (by decide) h hi
 exact ⟨g, e, hg, hc 0 _ rfl, hc 1 _ rfl, hc 2 _ rfl, hc 3 _ rfl, hc 4 _ rfl⟩
theorem i_at {w : World} {B e n c : Nat} {a : Option Addr} {l : List Int} (h : w.ownsRow B e 1 (.slice a n c) n (l.map (Value.int .i64))) {i : Nat} {v : Int} (hi : l[i]? = some v) :
  ∃ g, a = some ⟨g, 0, none⟩ /\ g < w.heap.size /\ w.cell? ⟨g, i, none⟩ = some (.int .i64 v) := by
 obtain ⟨b, off, e', hb, hc⟩ := Ki.row h i (.int .i64 v) (by rw [List.getElem?_map, hi]; rfl)
 rcases h.2 with ⟨e1, e2⟩ | ⟨g, cap, cur, e1, _, hg, _⟩
 · rw [e'] at e1; simp at e1
 · simp only [Value.slice.injEq] at e1
   have ea := e1.1; rw [ea] at e'; simp only [Option.some.injEq, Addr.mk.injEq] at e'; obtain ⟨rfl, rfl, _⟩ := e'; rw [Nat.zero_add] at hc; exact ⟨g, ea, hb, hc⟩
def wirePk (p : Pk) : Int × ByteArray := (p.1, strOfNums (Jr p.2))
def OutR (w : World) (Bo : Nat) (v : Value) (ps : List Pk) : Prop := w.ownsRow Bo 60 2 v ps.length (Kk (ps.map wirePk))
def isPkR (o : Obj) : Prop := ∃ c f, o = .cells c 60 f
def RWr (b : Nat) (f : Nat -> Value) (k : Nat) : Prop := k = b \/ (f 13).ownBlock = some k \/ (f 20).ownBlock = some k \/ (f 22).ownBlock = some k
theorem RWr.foot {b : Nat} {f : Nat -> Value} {k : Nat} (h : RWr b f k) : RFoot b f k := by
 rcases h with h | h | h | h
 · exact .inl h
 · exact .inr (.inl h)
 · exact .inr (.inr (.inr (.inr (.inl h))))
 · exact .inr (.inr (.inr (.inr (.inr h))))
structure RSt (Bo B b : Nat) (w : World) (f : Nat -> Value) (w' : World) (f' : Nat -> Value) (x' : Nd) (ps' : List Pk) : Prop where
 at_ : RfAt w' B b f' x'
 out : OutR w' Bo (f' 24) ps'
 chg : Chg (fun k o => RWr b f k \/ (Bo <= k /\ isPkR o)) w w'
 own : ∀ k, RFoot b f' k -> RFoot b f k \/ w.heap.size <= k
 ownW : ∀ k, RWr b f' k -> RWr b f k \/ w.heap.size <= k
 six : f' 6 = f 6
theorem RSt.refl {Bo B b : Nat} {w : World} {f : Nat -> Value} {x : Nd} {ps : List Pk} (h : RfAt w B b f x) (ho : OutR w Bo (f 24) ps) : RSt Bo B b w f w f x ps := ⟨h, ho, Chg.refl _ _, fun _ => .inl, fun _ => .inl, rfl⟩
theorem RSt.trans {Bo B b : Nat} {w w' w'' : World} {f f' f'' : Nat -> Value} {x' x'' : Nd} {ps' ps'' : List Pk} (h : RSt Bo B b w f w' f' x' ps') (k : RSt Bo B b w' f' w'' f'' x'' ps'') : RSt Bo B b w f w'' f'' x'' ps'' :=
 ⟨k.at_, k.out, ⟨k.chg.os.trans h.chg.os, k.chg.tape.trans h.chg.tape, k.chg.output.trans h.chg.output, Nat.le_trans h.chg.size k.chg.size, fun i o ho hs => k.chg.kept i o (h.chg.kept i o ho hs) (fun hk => hk.elim (fun hk => (h.ownW i hk).elim (fun hk => hs (.inl hk)) (fun hl => absurd (Kb ho) (by omega))) (fun hk => hs (.inr hk)))⟩,
  fun j hj => (k.own j hj).elim (h.own j) (fun hl => .inr (Nat.le_trans h.chg.size hl)), fun j hj => (k.ownW j hj).elim (h.ownW j) (fun hl => .inr (Nat.le_trans h.chg.size hl)), k.six.trans h.six⟩
section
variable {Bo B b : Nat} {w w1 w2 : World} {f f1 : Nat -> Value} {x x1 : Nd} {ps : List Pk}
theorem OutR.below {v : Value} (h : OutR w Bo v ps) (hb : Below w.heap.size w w1) : OutR w1 Bo v ps := Ks h hb
theorem RSt.below (h : RSt Bo B b w f w1 f1 x1 ps) (hb : Below w1.heap.size w1 w2) : RSt Bo B b w f w2 f1 x1 ps :=
 ⟨h.at_.below hb, OutR.below h.out hb, h.chg.trans ⟨hb.os, hb.tape, hb.output, hb.size, fun k _ hk _ => (hb.block k (Kb hk)).trans hk⟩, h.own, h.ownW, h.six⟩
theorem RSt.drewN (h : RSt Bo B b w f w1 f1 x1 ps) (n : Nat) : RSt Bo B b w f (w1.drewN n) f1 x1 ps :=
 ⟨h.at_.drewN n, Je h.out (fun _ _ => rfl), ⟨h.chg.os, h.chg.tape, h.chg.output, h.chg.size, h.chg.kept⟩, h.own, h.ownW, h.six⟩
theorem RSt.cell {i : Nat} {v : Value} {x2 : Nd} (h : RSt Bo B b w f w1 f1 x1 ps) (hn : RfAt (w1.setCell ⟨b, i, none⟩ v) B b (upd f1 i v) x2) (hi : i ≠ 6 /\ i ≠ 24)
  (hv : ∀ k, v.ownBlock = some k -> i = 13 \/ i = 14 \/ i = 19 \/ i = 20 \/ i = 22 -> w.heap.size <= k) : RSt Bo B b w f (w1.setCell ⟨b, i, none⟩ v) (upd f1 i v) x2 ps := by
 refine ⟨hn, ?_, h.chg.setCell _ (fun _ _ => .inl (.inl rfl)), fun k hk => ?_, fun k hk => ?_, (Kh _ _ _ (fun e => hi.1 e.symm)).trans h.six⟩
 · rw [Kh _ _ _ (fun e => hi.2 e.symm)]
   exact own_cell h.at_.blk h.out (by decide)
 · unfold RFoot at hk
   rcases hk with hk | hk | hk | hk | hk | hk
   · exact .inl (.inl hk)
   all_goals
    unfold upd at hk
    split at hk
    · rename_i e
      exact .inr (hv k hk (by omega))
    · first
      | exact h.own k (.inr (.inl hk))
      | exact h.own k (.inr (.inr (.inl hk)))
      | exact h.own k (.inr (.inr (.inr (.inl hk))))
      | exact h.own k (.inr (.inr (.inr (.inr (.inl hk)))))
      | exact h.own k (.inr (.inr (.inr (.inr (.inr hk)))))
 · unfold RWr at hk
   rcases hk with hk | hk | hk | hk
   · exact .inl (.inl hk)
   all_goals
    unfold upd at hk
    split at hk
    · rename_i e
      exact .inr (hv k hk (by omega))
    · first
      | exact h.ownW k (.inr (.inl hk))
      | exact h.ownW k (.inr (.inr (.inl hk)))
      | exact h.ownW k (.inr (.inr (.inr hk)))
theorem RSt.keepInt (h : RSt Bo B b w f w1 f1 x1 ps) {x : Nd} (h0 : RfAt w B b f x) {B' n : Nat} {v : Value} {xs : List Value} (ho : w.ownsRow B' 3 1 v n xs) : w1.ownsRow B' 3 1 v n xs := by
 refine Jf ho h.chg (fun k o hk hs cs fr e => ?_)
 subst e
 have ht : ∀ {cs' : Array Value} {t : TypeId} {fr' : Nat × Nat}, w.heap[k]? = some (.cells cs' t fr') -> t = 3 := fun h1 => by
  rw [hk] at h1; simp only [Option.some.injEq, Obj.cells.injEq] at h1; exact h1.2.1.symm
 rcases hs with hs | ⟨_, c, fr', e⟩
 · rcases hs with rfl | hs | hs | hs
   · obtain ⟨cs', hb⟩ := h0.blk.block; exact absurd (ht hb) (by decide)
   · obtain ⟨_, cs', hb⟩ := Ke h0.oth hs; exact absurd (ht hb) (by decide)
   · obtain ⟨_, cs', hb⟩ := Ke h0.rel hs; exact absurd (ht hb) (by decide)
   · obtain ⟨_, cs', hb⟩ := Ke h0.evs hs; exact absurd (ht hb) (by decide)
 · simp only [Obj.cells.injEq] at e
   exact absurd e.2.1 (by decide)
end
