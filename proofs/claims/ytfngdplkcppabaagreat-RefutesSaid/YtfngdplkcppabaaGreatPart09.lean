/-
  news.Queue.Take.
  node.hear: a member that is known is heard of anew. (Printed by hearm.py.)
  A node's pass, cut in place.
-/
import Derived.Test.YtfngdplkcppabaaGreatPart07
import Derived.Test.YtfngdplkcppabaaGreatPart08
import Derived.Test.YtfngdplkcppabaaGreatPart06
import Derived.Deep.Cut
set_option linter.all false
namespace Go.Proofs.YtfngdplkcppabaaGreat
open Go.RowKit
set_option maxHeartbeats 1000000 in
theorem valuesQ_any (b : Nat) (w : World) : Calls Tryz.prog 75 #[.map (some b)] w fun e w' =>
    e = .returned (.func (.func 84) #[] #[.pointer (some ⟨w.heap.size, 0, none⟩)]) ∧ w' = w.alloc (.cells #[.map (some b)] 104) := by
  go_enter Tryz.func75, Tryz.ntmps75
  go_wp2
  go_ret
  exact ⟨rfl, rfl⟩
def firstL (l : List Upd) : List Upd := (l.mergeSort updLe).take 4
/-- One more was sent. -/
def sendL (sends : Int) (l : List Upd) (u : Upd) : List Upd := l.filter (fun v => v.k.id != u.k.id) ++ (if u.sent + 1 = sends then [] else [⟨u.k, u.sent + 1⟩])
def takeL (sends : Int) (l : List Upd) : List Upd := l.filter (fun u => !((firstL l).any fun v => v.k.id == u.k.id)) ++ ((firstL l).map fun u => (⟨u.k, u.sent + 1⟩ : Upd)).filter (fun u => u.sent != sends)
theorem sendL_all (sends : Int) (l : List Upd) : ∀ (f : List Upd), (uids f).Nodup → f.foldl (sendL sends) l = l.filter (fun u => !(f.any fun v => v.k.id == u.k.id)) ++ (f.map fun u => (⟨u.k, u.sent + 1⟩ : Upd)).filter (fun u => u.sent != sends) := by
  intro f hf
  suffices h : ∀ (f p : List Upd), (uids (p ++ f)).Nodup → f.foldl (sendL sends) (l.filter (fun u => !(p.any fun v => v.k.id == u.k.id)) ++ (p.map fun u => (⟨u.k, u.sent + 1⟩ : Upd)).filter (fun u => u.sent != sends)) =
      l.filter (fun u => !((p ++ f).any fun v => v.k.id == u.k.id)) ++ ((p ++ f).map fun u => (⟨u.k, u.sent + 1⟩ : Upd)).filter (fun u => u.sent != sends) by
    have := h f [] (by simpa using hf)
    have e : l.filter (fun u => !(([] : List Upd).any fun v => v.k.id == u.k.id)) = l := List.filter_eq_self.2 (fun u _ => rfl)
    rw [e] at this
    simpa using this
  intro f
  induction f with
  | nil => intro p _; simp
  | cons a r ih =>
    intro p hp
    have hn : ∀ u ∈ p, u.k.id ≠ a.k.id := fun u hu e => by
      simp only [uids, List.map_append, List.map_cons] at hp
      have := (List.nodup_append.1 hp).2.2 u.k.id (List.mem_map.2 ⟨u, hu, rfl⟩) a.k.id (by simp)
      exact this e
    have hpa : p ++ a :: r = (p ++ [a]) ++ r := by simp
    rw [List.foldl_cons, hpa, ← ih (p ++ [a]) (by rw [← hpa]; exact hp)]
    congr 1
    unfold sendL
    rw [List.filter_append, List.filter_filter]
    have e1 : (l.filter fun v => (v.k.id != a.k.id) && !(p.any fun v_1 => v_1.k.id == v.k.id)) = l.filter (fun u => !((p ++ [a]).any fun v => v.k.id == u.k.id)) := by
      refine List.filter_congr (fun u _ => ?_)
      simp only [List.any_append, List.any_cons, List.any_nil, Bool.or_false, Bool.not_or]
      rw [Bool.and_comm]
      congr 1
      rw [bne, Bool.beq_comm]
    have e2 : ((p.map fun u => (⟨u.k, u.sent + 1⟩ : Upd)).filter (fun u => u.sent != sends)).filter (fun v => v.k.id != a.k.id) = (p.map fun u => (⟨u.k, u.sent + 1⟩ : Upd)).filter (fun u => u.sent != sends) := by
      refine List.filter_eq_self.2 (fun v hv => ?_)
      obtain ⟨u, hu, rfl⟩ := List.mem_map.1 (List.mem_filter.1 hv).1
      simpa using hn u hu
    rw [e1, e2, List.append_assoc, List.map_append, List.filter_append]
    congr 2
    by_cases h : a.sent + 1 = sends
    · simp [h]
    · simp [h]
theorem firstL_nd {l : List Upd} (h : (uids l).Nodup) : (uids (firstL l)).Nodup := by
  have hp : (uids (l.mergeSort updLe)).Perm (uids l) := (List.mergeSort_perm l updLe).map _
  have := hp.nodup_iff.2 h
  unfold firstL uids at *
  rw [List.map_take]
  exact this.sublist (List.take_sublist _ _)
theorem takeL_eq (sends : Int) {l : List Upd} (h : (uids l).Nodup) : (firstL l).foldl (sendL sends) l = takeL sends l := sendL_all sends l _ (firstL_nd h)

theorem qPairs_put2 (l : List Upd) (u : Upd) : (qPairs l).filter (fun p => p.1 != u.k.id) ++ [(u.k.id, u.v)] = qPairs (l.filter (fun v => v.k.id != u.k.id) ++ [u]) := by
  simp only [qPairs, List.map_append, List.map_cons, List.map_nil, List.filter_map]
  rfl
theorem qPairs_del (l : List Upd) (i : Int) : (qPairs l).filter (fun p => p.1 != i) = qPairs (l.filter (fun v => v.k.id != i)) := by
  simp only [qPairs, List.filter_map]
  rfl
theorem filter_put (l : List Upd) (u : Upd) : (l.filter (fun v => v.k.id != u.k.id) ++ [u]).filter (fun v => v.k.id != u.k.id) = l.filter (fun v => v.k.id != u.k.id) := by
  rw [List.filter_append, List.filter_filter]
  simp
/-- Between two rounds. -/
structure TkI (bm : Nat) (sends : Int) (l : List Upd) (a : Option Addr) (cap : Nat) (w : World) (k : Nat) (vo : Value) (wr : World) : Prop where
  row : wr.ownsRow w.heap.size 130 4 (.slice a l.length cap) l.length ((l.mergeSort updLe).flatMap cellsQ)
  out : wr.ownsRow w.heap.size 31 3 vo k (keyCells (((firstL l).map (·.k)).take k))
  map : MapAt Tryz.prog 3 wr bm (qPairs (((firstL l).take k).foldl (sendL sends) l))
  chg : Chg (fun j _ => j = bm) w wr
theorem rows_apart {w : World} {B e s n B' e' s' n' : Nat} {v u : Value} {xs ys : List Value} (h : w.ownsRow B e s v n xs) (h' : w.ownsRow B' e' s' u n' ys) (hne : e ≠ e') {k : Nat} (hk : v.ownBlock = some k) : u.ownBlock ≠ some k := fun hu => by
  obtain ⟨_, c, hc⟩ := ownsRow_blk h hk
  obtain ⟨_, c', hc'⟩ := ownsRow_blk h' hu
  rw [hc] at hc'
  simp only [Option.some.injEq, Obj.cells.injEq] at hc'
  exact hne hc'.2.1
/-- One frame behind another, of which what was there is left but where the first says so. -/
theorem Chg.andThen {S S' : Nat → Obj → Prop} {w w1 w2 : World} (h : Chg S w w1) (h' : Chg S' w1 w2) (hS : ∀ k o, w.heap[k]? = some o → S' k o → S k o) : Chg S w w2 :=
  ⟨h'.os.trans h.os, h'.tape.trans h.tape, h'.output.trans h.output, Nat.le_trans h.size h'.size, fun k o ho hs => h'.kept k o (h.kept k o ho hs) (fun hk => hs (hS k o ho hk))⟩
theorem own_heap {w w' : World} {B e s n : Nat} {v : Value} {xs : List Value} (h : w.ownsRow B e s v n xs) (hb : ∀ k, v.ownBlock = some k → w'.heap[k]? = w.heap[k]?) : w'.ownsRow B e s v n xs := by
  refine ⟨h.1, ?_⟩
  rcases h.2 with hn | ⟨g, cap, cur, rfl, hB, hg, rest⟩
  · exact .inl hn
  · exact .inr ⟨g, cap, cur, rfl, hB, (hb g rfl).trans hg, rest⟩
theorem keyCells_snoc (l : List K) (k : K) : keyCells (l ++ [k]) = keyCells l ++ [.int .i64 k.id, .int .i64 k.inc, .int .i64 k.st] := by simp [keyCells]
theorem firstL_len (l : List Upd) : (firstL l).length = min 4 l.length := by unfold firstL; rw [List.length_take, List.length_mergeSort]
theorem sendL_len (sends : Int) (l : List Upd) (u : Upd) : (sendL sends l u).length ≤ l.length + 1 := by
  unfold sendL
  rw [List.length_append]
  have := List.length_filter_le (fun v : Upd => v.k.id != u.k.id) l
  split <;> simp <;> omega
theorem sendLs_len (sends : Int) (f : List Upd) : ∀ l : List Upd, (f.foldl (sendL sends) l).length ≤ l.length + f.length := by
  induction f with
  | nil => intro l; simp
  | cons a r ih => intro l; rw [List.foldl_cons]; have := ih (sendL sends l a); have := sendL_len sends l a; simp only [List.length_cons]; omega
theorem TkI.cells {bm : Nat} {sends : Int} {l : List Upd} {a : Option Addr} {cap : Nat} {w wr : World} {k : Nat} {vo : Value} (h : TkI bm sends l a cap w k vo wr) {u : Upd} (hu : (firstL l)[k]? = some u) :
    ∃ g, a = some ⟨g, 0, none⟩ ∧ g < wr.heap.size ∧ wr.cell? ⟨g, k * 4, none⟩ = some (.int .i64 u.k.id) ∧ wr.cell? ⟨g, k * 4 + 1, none⟩ = some (.int .i64 u.k.inc) ∧ wr.cell? ⟨g, k * 4 + 2, none⟩ = some (.int .i64 u.k.st) ∧ wr.cell? ⟨g, k * 4 + 3, none⟩ = some (.int .i64 u.sent) := by
  have hs : (l.mergeSort updLe)[k]? = some u := by
    unfold firstL at hu
    rw [List.getElem?_take] at hu
    split at hu
    · exact hu
    · cases hu
  have hat := fun t ht => flat_at cellsQ 4 (fun _ => rfl) (l.mergeSort updLe) k t ht u hs
  have hc := CellsAt.row h.row
  obtain ⟨b0, o0, e0, l0, c0⟩ := hc _ _ (hat 0 (by omega))
  obtain ⟨b1, o1, e1, l1, c1⟩ := hc _ _ (hat 1 (by omega))
  obtain ⟨b2, o2, e2, l2, c2⟩ := hc _ _ (hat 2 (by omega))
  obtain ⟨b3, o3, e3, l3, c3⟩ := hc _ _ (hat 3 (by omega))
  have ho : o0 = 0 := by
    rcases h.row.2 with ⟨e, _⟩ | ⟨g, cp, cur, e, _⟩
    · rw [e0] at e; simp at e
    · rw [e0] at e; simp only [Value.slice.injEq, Option.some.injEq, Addr.mk.injEq] at e; exact e.1.2.1
  subst e0
  simp only [Option.some.injEq, Addr.mk.injEq] at e1 e2 e3
  obtain ⟨rfl, rfl, _⟩ := e1
  obtain ⟨rfl, rfl, _⟩ := e2
  obtain ⟨rfl, rfl, _⟩ := e3
  subst ho
  simp only [Nat.zero_add, Nat.add_zero] at c0 c1 c2 c3
  exact ⟨b0, rfl, l0, c0, c1, c2, c3⟩

set_option maxRecDepth 100000 in
set_option maxHeartbeats 2000000 in
theorem take_news (bq bm : Nat) (sends : Int) (l : List Upd) (w : World) (hq : w.heap[bq]? = some (.cells #[.int .i64 sends, .map (some bm)] 106 (0, 0))) (hm : MapAt Tryz.prog 3 w bm (qPairs l)) (hnd : (uids l).Nodup) (hl : l.length < 900000)
    (hfit : ∀ u ∈ l, fitsI u.k.id ∧ 0 ≤ u.sent ∧ u.sent < 1000000) :
    Calls Tryz.prog 59 #[.pointer (some ⟨bq, 0, none⟩), .int .i64 4] w fun e w' =>
      ∃ v, e = .returned v ∧ w'.ownsRow w.heap.size 31 3 v (firstL l).length (keyCells ((firstL l).map (·.k))) ∧ MapAt Tryz.prog 3 w' bm (qPairs (takeL sends l)) ∧ Chg (fun k _ => k = bm) w w' := by
  obtain ⟨w1, hw1⟩ : ∃ w1, w.alloc (.cells #[.map (some bm)] 104) = w1 := ⟨_, rfl⟩
  have hb1 : Below w.heap.size w w1 := by rw [← hw1]; exact (Below.refl _ _).alloc (Nat.le_refl _) _
  have hs1 : w1.heap.size = w.heap.size + 1 := by rw [← hw1]; simp
  have hx1 : w1.heap[w.heap.size]? = some (.cells #[.map (some bm)] 104 (0, 0)) := by rw [← hw1]; exact heap_alloc_eq w _
  have hS := sortedQ_any l bm w.heap.size w1 hnd (by omega) (by omega) (by rw [cells_at hx1]; rfl) (hm.heap (hb1.block bm hm.lt))
  have HS := Lib.hid hS
  have HW1 := Lib.hid hw1
  have HB1 := Lib.hid hb1
  have HM := Lib.hid hm
  have HQ := Lib.hid hq
  have HF := Lib.hid hfit
  have HND := Lib.hid hnd
  have c1 : w.cell? ⟨bq, 1, none⟩ = some (.map (some bm)) := by rw [cells_at hq]; rfl
  clear hS hw1 hb1 hm hq hx1 hfit hnd
  obtain ⟨n4, hn4⟩ : ∃ n4 : Nat, n4 = min 4 l.length := ⟨_, rfl⟩
  have hmin : min 4 ((l.length : Nat) : Int) = (n4 : Int) := by omega
  have hn4l : n4 = (firstL l).length := by rw [firstL_len, hn4]
  have HN4 := Lib.hid hn4l
  have hn4c : n4 ≤ l.length := by omega
  have hn44 : n4 ≤ 4 := by omega
  clear hn4 hn4l
  go_enter Tryz.func59, Tryz.ntmps59
  go_wp2_with (first
    | (go_at_call 75; refine (valuesQ_any bm w).mono ?_; rintro e w' ⟨rfl, rfl⟩; rw [HW1.out])
    | (go_at_call 74; refine HS.out.mono ?_; rintro e w2 ⟨v, rfl, hrow, hb2⟩; obtain ⟨a, cap, rfl⟩ := ownsRow_sl hrow; have hcap : (n4 : Int) ≤ cap := by rcases hrow.2 with ⟨e, e'⟩ | ⟨g, cp, cur, e, _, _, h1, _⟩ <;> simp only [Value.slice.injEq] at e <;> omega))
  go_loopw [6, 22] (fun o i wr => ∃ (k : Nat), k ≤ n4 ∧ i = .int .i64 k ∧ TkI bm sends l a cap w k o wr) (fun _ i _ => n4 - (intOf i).toNat)
  case atStart => exact ⟨0, Nat.zero_le _, rfl, ⟨own_below hrow (by omega), ⟨rfl, .inl ⟨rfl, rfl⟩⟩, HM.out.heap ((hb2.block bm (by have := HM.out.lt; omega)).trans (HB1.out.block bm HM.out.lt)), chg_of_below (HB1.out.trans (hb2.mono (by omega)))⟩⟩
  case round =>
    obtain ⟨k, hk, rfl, hI⟩ := hrel
    have HI := Lib.hid hI
    clear hI hrow hb2
    by_cases hlt : k < n4
    · have hu := List.getElem?_eq_getElem (show k < (firstL l).length by rw [← HN4.out]; exact hlt)
      obtain ⟨u, hue⟩ : ∃ u, (firstL l)[k]'(by rw [← HN4.out]; exact hlt) = u := ⟨_, rfl⟩
      rw [hue] at hu
      obtain ⟨g, rfl, hg, c0, c1, c2, c3⟩ := HI.out.cells hu
      obtain ⟨⟨u1, u2, u3⟩, u4⟩ := u
      simp only at c0 c1 c2 c3
      have HU := Lib.hid hu
      clear hu hue
      obtain ⟨w3, hw3⟩ : ∃ w3, wr.alloc (.cells #[.int .i64 u1, .int .i64 u2, .int .i64 u3, .int .i64 u4] 130) = w3 := ⟨_, rfl⟩
      have HW3 := Lib.hid hw3
      clear hw3
      have hs3 : w3.heap.size = wr.heap.size + 1 := by rw [← HW3.out]; simp
      have hx3 : w3.heap[wr.heap.size]? = some (.cells #[.int .i64 u1, .int .i64 u2, .int .i64 u3, .int .i64 u4] 130 (0, 0)) := by rw [← HW3.out]; exact heap_alloc_eq wr _
      have d0 := cells_at hx3 0
      have d1 := cells_at hx3 1
      have d2 := cells_at hx3 2
      have d3 := cells_at hx3 3
      simp only [List.getElem?_toArray, List.getElem?_cons_succ, List.getElem?_cons_zero] at d0 d1 d2 d3
      have hfr3 := unfrozen hx3
      have hb3 : Below wr.heap.size wr w3 := by rw [← HW3.out]; exact (Below.refl _ _).alloc (Nat.le_refl _) _
      have HX3 := Lib.hid hx3
      have HB3 := Lib.hid hb3
      have hout3 : w3.ownsRow w.heap.size 31 3 u6 k (keyCells (((firstL l).map (·.k)).take k)) := own_under HI.out.out hb3
      have HO3 := Lib.hid (hout3.alloc (.cells #[.int .i64 u1, .int .i64 u2, .int .i64 u3] 31))
      have HNW := Lib.hid (cells_new w3 [.int .i64 u1, .int .i64 u2, .int .i64 u3] 31 (n := wr.heap.size + 1) hs3.symm)
      have hwsz : w.heap.size ≤ wr.heap.size := HI.out.chg.size
      have K3 := Lib.hid (show k + 1 ≤ maxLen by unfold maxLen; omega)
      obtain ⟨i0, hi, hz0, hz1, hz2⟩ := info_parts info_key
      clear hx3 hb3 hout3
      go_upto_region 6 with (fail)
      rw [HW3.out]
      go_wp2_with (at_builtin; refine wpList_append_own _ rfl _ _ 27 rfl w.heap.size 31 i0 _ 3 24 Tryz.underlying27 hi hz0 hz1 hz2 rfl (by decide) u6 k _ rfl HO3.out ⟨wr.heap.size + 1, 0, none⟩ 1 1 _ rfl rfl HNW.out (by simp [Value.oneCell']) K3.out (by omega) (by simp; omega) ?_)
      intro v' w5 hown5 hg5 hnil5
      obtain ⟨ad', cp', rfl⟩ := ownsRow_sl hown5
      have hbm := HM.out.lt
      have hbq := heap_lt HQ.out
      have hu6 : ∀ j, u6.ownBlock = some j → w.heap.size ≤ j ∧ j < wr.heap.size := fun j hj => HI.out.out.lt j hj
      have hblk : ∀ j, j < w3.heap.size → u6.ownBlock ≠ some j → w5.heap[j]? = w3.heap[j]? := fun j hj hne => (hg5.block j (by simp; omega) (fun e => hne e.symm)).trans (Below.heap_alloc _ _ _ hj)
      have hold : ∀ j, j < wr.heap.size → u6.ownBlock ≠ some j → w5.heap[j]? = wr.heap[j]? := fun j hj hne => (hblk j (by omega) hne).trans (HB3.out.block j hj)
      have hx5 : w5.heap[wr.heap.size]? = some (.cells #[.int .i64 u1, .int .i64 u2, .int .i64 u3, .int .i64 u4] 130 (0, 0)) := (hblk _ (by omega) (fun e => by have := hu6 _ e; omega)).trans HX3.out
      have hc5 : Chg (fun j _ => u6.ownBlock = some j ∨ j = bm ∨ j = wr.heap.size) wr w5 :=
        ((chg_of_below (S := fun j _ => u6.ownBlock = some j ∨ j = bm ∨ j = wr.heap.size) HB3.out).trans ((Chg.refl _ w3).alloc _)).grown hg5 (fun j o e _ => .inl e)
      have hm5 : MapAt Tryz.prog 3 w5 bm (qPairs (((firstL l).take k).foldl (sendL sends) l)) := HI.out.map.heap (hold bm HI.out.map.lt (fun e => by have := hu6 _ e; omega))
      have hrow5 : w5.ownsRow w.heap.size 130 4 (.slice (some ⟨g, 0, none⟩) l.length cap) l.length ((l.mergeSort updLe).flatMap cellsQ) :=
        ((own_under HI.out.row HB3.out).alloc _).kept hg5 (by
          cases hb : u6.ownBlock with
          | none => exact .inr (by simp [Value.ownBlock])
          | some j => exact .inr (fun e => rows_apart HI.out.row HI.out.out (by decide) e (by rw [hb])))
      have hq5 : w5.heap[bq]? = some (.cells #[.int .i64 sends, .map (some bm)] 106 (0, 0)) := by
        obtain ⟨es, n, hmm⟩ := HM.out.isMap
        have h1 := HI.out.chg.kept _ _ HQ.out (cells_ne_map HQ.out hmm)
        exact (hold bq (heap_lt h1) (fun e => by have := hu6 _ e; omega)).trans h1
      obtain ⟨w6, hw6⟩ : ∃ w6, w5.setCell ⟨wr.heap.size, 3, none⟩ (.int .i64 (u4 + 1)) = w6 := ⟨_, rfl⟩
      have hx6 : w6.heap[wr.heap.size]? = some (.cells #[.int .i64 u1, .int .i64 u2, .int .i64 u3, .int .i64 (u4 + 1)] 130 (0, 0)) := by rw [← hw6]; exact heap_setCell_eq hx5
      have hne6 : ∀ j, j ≠ wr.heap.size → w6.heap[j]? = w5.heap[j]? := fun j hj => by rw [← hw6]; exact heap_setCell_ne _ _ _ _ _ hj
      have hc6 : Chg (fun j _ => u6.ownBlock = some j ∨ j = bm ∨ j = wr.heap.size) wr w6 := by rw [← hw6]; exact hc5.setCell _ (fun _ _ => .inr (.inr rfl))
      have hm6 : MapAt Tryz.prog 3 w6.drew bm (qPairs (((firstL l).take k).foldl (sendL sends) l)) := hm5.heap (hne6 bm (by have := HI.out.map.lt; omega))
      have hq6 : w6.heap[bq]? = some (.cells #[.int .i64 sends, .map (some bm)] 106 (0, 0)) := (hne6 bq (by omega)).trans hq5
      have hlen6 : (((firstL l).take k).foldl (sendL sends) l).length < 1000000 - 1 := by
        have := sendLs_len sends ((firstL l).take k) l
        rw [List.length_take] at this
        have := hl
        omega
      have hul : (⟨⟨u1, u2, u3⟩, u4⟩ : Upd) ∈ l := (List.mergeSort_perm l updLe).mem_iff.1 (List.mem_of_mem_take (List.mem_of_getElem? HU.out))
      obtain ⟨hf1, hf2, hf3⟩ := HF.out _ hul
      simp only at hf1 hf2 hf3
      obtain ⟨w7, hr7, hm7, hg7, hs7⟩ := hm6.store Tryz.underlying3 Tryz.underlying104 (by rw [qPairs_len]; omega) u1 (wf_of_fits hf1) (.agg #[.int .i64 u1, .int .i64 u2, .int .i64 u3, .int .i64 (u4 + 1)])
      have wu : IntKind.i64.wrap (u4 + 1) = u4 + 1 := IntWalk.i64_in _ (by omega)
      have hx7 : w7.heap[wr.heap.size]? = some (.cells #[.int .i64 u1, .int .i64 u2, .int .i64 u3, .int .i64 (u4 + 1)] 130 (0, 0)) := (hg7.block _ (heap_lt hx6) (fun e => by cases e; have := HI.out.map.lt; omega)).trans hx6
      have hq7 : w7.heap[bq]? = some (.cells #[.int .i64 sends, .map (some bm)] 106 (0, 0)) := (hg7.block _ (heap_lt hq6) (fun e => by
        obtain ⟨es, n, hmm⟩ := HM.out.isMap
        exact cells_ne_map HQ.out hmm (by cases e; rfl))).trans hq6
      have hc7 : Chg (fun j _ => u6.ownBlock = some j ∨ j = bm ∨ j = wr.heap.size) wr w7 := hc6.drew.grown hg7 (fun j o e _ => .inr (.inl (by cases e; rfl)))
      have hput : MapAt Tryz.prog 3 w7 bm (qPairs ((((firstL l).take k).foldl (sendL sends) l).filter (fun v => v.k.id != u1) ++ [⟨⟨u1, u2, u3⟩, u4 + 1⟩])) := by
        have e := qPairs_put2 (((firstL l).take k).foldl (sendL sends) l) ⟨⟨u1, u2, u3⟩, u4 + 1⟩
        rw [← e]; exact hm7
      have d60 := cells_at hx6 0
      have d61 := cells_at hx6 1
      have d62 := cells_at hx6 2
      have d63 := cells_at hx6 3
      have d70 := cells_at hx7 0
      have d73 := cells_at hx7 3
      have q61 := cells_at hq6 1
      have q71 := cells_at hq7 1
      have q70 := cells_at hq7 0
      have q51 := cells_at hq5 1
      have d53 := cells_at hx5 3
      have f5 := unfrozen hx5
      simp only [List.getElem?_toArray, List.getElem?_cons_succ, List.getElem?_cons_zero] at d60 d61 d62 d63 d70 d73 q61 q71 q70 d53 q51
      have hk7 : ∀ j, w.heap.size ≤ j → j ≠ wr.heap.size → j < w5.heap.size → w7.heap[j]? = w5.heap[j]? := fun j h1 h2 h3 => (hg7.block j (by rw [← hw6]; simpa using h3) (fun e => by cases e; omega)).trans (hne6 j h2)
      have HR7 := Lib.hid (own_heap hrow5 (fun j hj => by
        obtain ⟨a1, c, a2⟩ := ownsRow_blk hrow5 hj
        have := (HI.out.row.lt j hj).2
        exact hk7 j a1 (by omega) (heap_lt a2)))
      have HO7 := Lib.hid (own_heap hown5 (fun j hj => by
        obtain ⟨a1, c, a2⟩ := ownsRow_blk hown5 hj
        exact hk7 j a1 (fun e => cells_ne a2 hx5 (by decide) e) (heap_lt a2)))
      have HW6 := Lib.hid hw6
      have HP7 := Lib.hid hput
      have HC7 := Lib.hid hc7
      have HOW := Lib.hid hown5
      have HROW := Lib.hid hrow5
      have HG5 := Lib.hid hg5
      have HN6 := Lib.hid hne6
      have HX7 := Lib.hid hx7
      have HG7 := Lib.hid hg7
      have HU6 := Lib.hid hu6
      clear hu6 hk7 hw6 hm5 hm6 hm7 hput hc5 hc6 hc7 hown5 hrow5 hg5 hblk hold hx5 hx6 hx7 hne6 hq5 hq6 hq7 hg7
      go_upto_region 8 with (fail)
      rw [HW6.out]
      go_region
      all_goals
        by_cases hs : u4 + 1 = sends
        · have hsb : (u4 + 1 == sends) = true := by simpa using hs
          have HS1 := Lib.hid hs
          clear hs
          go_wp2
          go_quiet (fail)
          obtain ⟨w8, hr8, hm8, hg8, hs8⟩ := MapAt.drop (w := w7.drewN (nq + 1)) Tryz.underlying3 Tryz.underlying104 (HP7.out.heap rfl) u1 (wf_of_fits hf1) 0
          have HM8 := Lib.hid hm8
          have HG8 := Lib.hid hg8
          clear hm8 hg8
          go_upto_region 10 with (fail)
          go_region
          all_goals
            go_wp2
            go_roundw
            case rel =>
              have ef : ((firstL l).take (k + 1)) = (firstL l).take k ++ [⟨⟨u1, u2, u3⟩, u4⟩] := by rw [List.take_add_one, HU.out]; rfl
              have ek : keyCells (((firstL l).map (·.k)).take (k + 1)) = keyCells (((firstL l).map (·.k)).take k) ++ [.int .i64 u1, .int .i64 u2, .int .i64 u3] := by
                rw [← List.map_take, ef, List.map_append, ← List.map_take]
                exact keyCells_snoc _ _
              refine ⟨k + 1, by omega, by go_num, ⟨?_, ?_, ?_, ?_⟩⟩
              · refine own_heap HR7.out (fun j hj => ?_)
                obtain ⟨a1, c, a2⟩ := ownsRow_blk HR7.out hj
                exact HG8.out.block j (heap_lt a2) (fun e => by cases e; omega)
              · rw [ek]
                refine own_heap HO7.out (fun j hj => ?_)
                obtain ⟨a1, c, a2⟩ := ownsRow_blk HO7.out hj
                exact HG8.out.block j (heap_lt a2) (fun e => by cases e; omega)
              · rw [ef, List.foldl_append]
                have e := HM8.out
                rw [qPairs_del] at e
                show MapAt _ _ _ _ (qPairs (sendL sends _ ⟨⟨u1, u2, u3⟩, u4⟩))
                unfold sendL
                rw [if_pos HS1.out, List.append_nil]
                have e2 := filter_put (((firstL l).take k).foldl (sendL sends) l) ⟨⟨u1, u2, u3⟩, u4 + 1⟩
                simp only at e2
                rw [e2] at e
                exact e
              · refine HI.out.chg.andThen (((HC7.out.trans (chg_of_drewN w7 _ _)).grown HG8.out (fun j o e _ => .inr (.inl (by cases e; rfl))))) (fun j o ho hj => ?_)
                have := heap_lt ho
                rcases hj with hj | hj | hj
                · have := HU6.out j hj; omega
                · exact hj
                · omega
            case measure => simp [intOf]; omega
        · have hsb : (u4 + 1 == sends) = false := by simpa using hs
          have HS1 := Lib.hid hs
          clear hs
          go_wp2
          go_quiet (fail)
          go_wp2
          go_roundw
          case rel =>
            have ef : ((firstL l).take (k + 1)) = (firstL l).take k ++ [⟨⟨u1, u2, u3⟩, u4⟩] := by rw [List.take_add_one, HU.out]; rfl
            have ek : keyCells (((firstL l).map (·.k)).take (k + 1)) = keyCells (((firstL l).map (·.k)).take k) ++ [.int .i64 u1, .int .i64 u2, .int .i64 u3] := by
              rw [← List.map_take, ef, List.map_append, ← List.map_take]
              exact keyCells_snoc _ _
            refine ⟨k + 1, by omega, by go_num, ⟨?_, ?_, ?_, ?_⟩⟩
            · exact own_heap HR7.out (fun j hj => rfl)
            · rw [ek]
              exact own_heap HO7.out (fun j hj => rfl)
            · rw [ef, List.foldl_append]
              show MapAt _ _ _ _ (qPairs (sendL sends _ ⟨⟨u1, u2, u3⟩, u4⟩))
              unfold sendL
              rw [if_neg HS1.out]
              exact HP7.out.heap rfl
            · refine HI.out.chg.andThen (HC7.out.trans (chg_of_drewN w7 _ _)) (fun j o ho hj => ?_)
              have := heap_lt ho
              rcases hj with hj | hj | hj
              · have := HU6.out j hj; omega
              · exact hj
              · omega
          case measure => simp [intOf]; omega
    · have hkn : k = n4 := by omega
      subst hkn
      go_wp2
      go_ret
      have hI := HI.out
      have e1 : ((firstL l).map (·.k)).take k = (firstL l).map (·.k) := List.take_of_length_le (by rw [List.length_map, ← HN4.out]; exact Nat.le_refl _)
      have e2 : (firstL l).take k = firstL l := List.take_of_length_le (by rw [← HN4.out]; exact Nat.le_refl _)
      have h1 := hI.out
      have h2 := hI.map
      rw [e1] at h1
      rw [e2, takeL_eq sends HND.out] at h2
      exact ⟨_, rfl, by rw [← HN4.out]; exact h1, h2, hI.chg⟩
end Go.Proofs.YtfngdplkcppabaaGreat
namespace Go.Proofs.YtfngdplkcppabaaGreat
open Go.RowKit

set_option maxRecDepth 100000 in
set_option maxHeartbeats 4000000 in
theorem hear_more {x : Nd} (ho : Ok x) {B : Int} (hb : Bd B x) (hB : B ≤ 1000000000000) (a : Ad) (ov : Value) (k : K) (hk : keyOk k) (w : World) (h : NodeAt w a ov x) (hid : (k.id == x.self.id) = false)
    (m : Mem) (hf : findM x.others k.id = some m) (hl : lessK m.k k = true) (hst : decide (k.st ≤ 2) = true) :
    Calls Tryz.prog 24 #[.pointer (some ⟨a.b, 0, none⟩), .agg #[.int .i64 k.id, .int .i64 k.inc, .int .i64 k.st]] w fun e w' =>
      e = .returned (.tuple #[]) ∧ ∃ a', Turned ov w a x w' a' (x.taken k) := by
  obtain ⟨hm, hme⟩ := findM_some hf
  have hmem := h.mems m hm
  rw [hme] at hmem
  have hin : k.id ∈ ids x.others := mem_ids.2 ⟨m, hm, hme⟩
  have m0 := cells_at hmem 0
  have m1 := cells_at hmem 1
  have m2 := cells_at hmem 2
  simp only [memCells, List.getElem?_toArray, List.getElem?_cons_succ, List.getElem?_cons_zero] at m0 m1 m2
  obtain ⟨kid, kinc, kst⟩ := k
  obtain ⟨⟨mid, minc, mst⟩, mdue⟩ := m
  simp only at hid hf hl m0 m1 m2 hst hmem hin ⊢
  obtain ⟨o, hoe⟩ : ∃ o, (Obj.cells #[.int .i64 kid, .int .i64 kinc, .int .i64 kst] 31) = o := ⟨_, rfl⟩
  obtain ⟨w1, hw1⟩ : ∃ w1, w.alloc o = w1 := ⟨_, rfl⟩
  have T := Lib.hid (fun n => Turned.drewN (Turned.alloc h o) n)
  rw [hw1] at T
  have hx1 : w1.heap[w.heap.size]? = some o := by rw [← hw1]; exact heap_alloc_eq w _
  rw [← hoe] at hx1
  have d0 := cells_at hx1 0
  have d1 := cells_at hx1 1
  have d2 := cells_at hx1 2
  simp only [List.getElem?_toArray, List.getElem?_cons_succ, List.getElem?_cons_zero] at d0 d1 d2
  have c7 : w1.cell? ⟨a.b, 7, none⟩ = some (.int .i64 x.self.id) := (T.out 0).node.blk.cell (by omega)
  have c10 : w1.cell? ⟨a.b, 10, none⟩ = some (.map (some a.bo)) := (T.out 0).node.blk.cell (by omega)
  have HX1 := Lib.hid hx1
  have HW1 := Lib.hid hw1
  have HOE := Lib.hid hoe
  have HO := Lib.hid ho
  have HB := Lib.hid hb
  have HK := Lib.hid hk
  have hbB := h.blk.lt
  have wd : IntKind.i64.wrap (x.clock + x.c.susp) = x.clock + x.c.susp := IntWalk.i64_in _ (by have := hb.clock; have h2 := ho.cfg; simp only [cfgB, withinB, Bool.and_eq_true, decide_eq_true_eq] at h2; omega)
  have hlt := heap_lt hmem
  have e1 : w1.heap[a.mem kid]? = w.heap[a.mem kid]? := by rw [← hw1]; exact Below.heap_alloc _ _ _ hlt
  have n0 : w1.cell? ⟨a.mem kid, 0, none⟩ = some (.int .i64 mid) := by rw [← hw1, World.cell?_alloc_lt _ _ _ hlt]; exact m0
  have n1 : w1.cell? ⟨a.mem kid, 1, none⟩ = some (.int .i64 minc) := by rw [← hw1, World.cell?_alloc_lt _ _ _ hlt]; exact m1
  have n2 : w1.cell? ⟨a.mem kid, 2, none⟩ = some (.int .i64 mst) := by rw [← hw1, World.cell?_alloc_lt _ _ _ hlt]; exact m2
  have hlk : ∀ n, (Instr.lookup 71 (.map (some a.bo)) (.int .i64 kid) false).run Tryz.prog (w1.drewN n) = .ok (.pointer (some ⟨a.mem kid, 0, none⟩)) (w1.drewN n) := fun n => (look_other (T.out n).node hk.1).1 _ hf
  have HL := Lib.hid hl
  have hmem1 := Lib.hid (e1.trans hmem)
  have HIN := Lib.hid hin
  clear h hf hl hmem m0 m1 m2 hw1 hoe hx1 hlt hme e1 ho hb hk hin
  go_enter Tryz.func24, Tryz.ntmps24
  go_wp2
  rw [HOE.out, HW1.out]
  go_quiet (fail)
  go_wp2
  go_quiet (fail)
  go_wp2
  (refine wp_tail 5 (by kernel_rfl) (by kernel_rfl) ?_; simp only [List.take_succ_cons, List.take_zero, List.drop_succ_cons, List.drop_zero])
  iterate 5 still_step
  refine wpStill_nil ?_
  go_wp2_with (go_at_call 42; refine (less_any ⟨mid, minc, mst⟩ ⟨kid, kinc, kst⟩ _).mono ?_; rintro e w2 ⟨rfl, hb2⟩; rw [HL.out]; have hT2 := Lib.hid (Turned.trans (T.out _) (.below (T.out _).node hb2)); have HBK := Lib.hid hT2.out.node.blk; have HX2 := Lib.hid ((hb2.block _ (heap_lt HX1.out)).trans HX1.out); have HM2 := Lib.hid ((hb2.block _ (heap_lt hmem1.out)).trans hmem1.out); clear hb2)
  have g0 := cells_at HX2.out 0
  have g1 := cells_at HX2.out 1
  have g2 := cells_at HX2.out 2
  simp only [List.getElem?_toArray, List.getElem?_cons_succ, List.getElem?_cons_zero] at g0 g1 g2
  have c13 : w2.cell? ⟨a.b, 13, none⟩ = some (.int .i64 x.clock) := HBK.out.cell (by omega)
  have c3 : w2.cell? ⟨a.b, 3, none⟩ = some (.int .i64 x.c.susp) := HBK.out.cell (by omega)
  have fm : ∀ i, w2.frozen? ⟨a.mem kid, i, none⟩ = false := fun i => unfrozen HM2.out i
  clear d0 c10 d1 d2 c7 hlk n0 n1 n2
  have q0 := cells_at HM2.out 0
  have q1 := cells_at HM2.out 1
  have q2 := cells_at HM2.out 2
  have q3 := cells_at HM2.out 3
  simp only [memCells, List.getElem?_toArray, List.getElem?_cons_succ, List.getElem?_cons_zero] at q0 q1 q2 q3
  (refine wp_tail 14 (by kernel_rfl) (by kernel_rfl) ?_; simp only [List.take_succ_cons, List.take_zero, List.drop_succ_cons, List.drop_zero])
  iterate 14 still_step
  refine wpStill_nil ?_
  go_upto_region 10 with (fail)
  obtain ⟨w3, hw3⟩ : ∃ w3, ((((w2.setCell ⟨a.mem kid, 0, none⟩ (.int .i64 kid)).setCell ⟨a.mem kid, 1, none⟩ (.int .i64 kinc)).setCell ⟨a.mem kid, 2, none⟩ (.int .i64 kst)).setCell ⟨a.mem kid, 3, none⟩ (.int .i64 (x.clock + x.c.susp))).drew = w3 := ⟨_, rfl⟩
  rw [hw3]
  obtain ⟨hS3, hC3⟩ := four_set HM2.out (.int .i64 kid) (.int .i64 kinc) (.int .i64 kst) (.int .i64 (x.clock + x.c.susp))
  have hC3 := hC3.drew
  have hS3 : (((((w2.setCell ⟨a.mem kid, 0, none⟩ (.int .i64 kid)).setCell ⟨a.mem kid, 1, none⟩ (.int .i64 kinc)).setCell ⟨a.mem kid, 2, none⟩ (.int .i64 kst)).setCell ⟨a.mem kid, 3, none⟩ (.int .i64 (x.clock + x.c.susp))).drew).heap[a.mem kid]? = some (.cells (memCells ⟨⟨kid, kinc, kst⟩, x.clock + x.c.susp⟩) 93 (0, 0)) := hS3
  rw [hw3] at hC3 hS3
  clear hw3 g0 g1 g2 c13 c3 fm q0 q1 q2 q3
  obtain ⟨mm, hmm⟩ : ∃ mm : Mem, (⟨⟨kid, kinc, kst⟩, x.clock + x.c.susp⟩ : Mem) = mm := ⟨_, rfl⟩
  have hmid : mm.k.id = kid := by rw [← hmm]
  rw [hmm] at hS3
  have hmap : MapAt Tryz.prog 3 w3 a.bo (mPairs (a.atMem mm.k.id (a.mem kid)) (putM mm x.others)) := by
    have e1 : mPairs (a.atMem mm.k.id (a.mem kid)) (putM mm x.others) = mPairs a x.others := by
      rw [mPairs_ids, mPairs_ids, ids_putM_in HO.out.rise (by rw [hmid]; exact HIN.out)]
      refine List.map_congr_left (fun i _ => ?_)
      simp only [Ad.atMem, hmid]
      by_cases hi : i = kid
      · rw [if_pos hi, hi]
      · rw [if_neg hi]
    rw [e1]
    obtain ⟨es, n, hbo⟩ := hT2.out.node.others.isMap
    exact hT2.out.node.others.heap ((hC3.kept _ _ hbo (fun e => by rw [e, HM2.out] at hbo; cases hbo)).trans hbo.symm)
  have hN3 : NodeAt w3 (a.atMem mm.k.id (a.mem kid)) ov { x with others := putM mm x.others } :=
    hT2.out.node.setMem HO.out.rise mm (a.mem kid) (.inl ⟨by rw [hmid]; exact HIN.out, by rw [hmid]⟩) (apart_of_chg (hC3.mono (fun j _ _ hj => .inr hj))) hS3 hmap
  have hT3 : Turned ov w a x w3 (a.atMem mm.k.id (a.mem kid)) { x with others := putM mm x.others } := by
    obtain ⟨m1, hm1, he1⟩ := mem_ids.1 HIN.out
    have hown : Owns a x (a.mem kid) := .inr (.inr (.inr (.inr (.inr (.inr (.inl ⟨m1, hm1, by rw [he1]⟩))))))
    refine hT2.out.trans ⟨hN3, hC3.mono (fun j _ _ hj => by have hj : j = a.mem kid := hj; rw [hj]; exact hown), fun k hk => ?_, rfl⟩
    rcases Owns.mem_of hk with h | rfl
    · exact .inl h
    · exact .inl hown
  have h2 := cells_at hS3 2
  simp only [memCells, List.getElem?_toArray, List.getElem?_cons_succ, List.getElem?_cons_zero, ← hmm] at h2
  have hX3 := hC3.kept _ _ HX2.out (fun e => by have h1 := hT2.out.node.mems; have h2 := HX2.out; rw [e, HM2.out] at h2; exact absurd h2 (by simp))
  clear hmap hC3 hS3
  have HT3 := Lib.hid hT3
  have HN3 := Lib.hid hN3
  have HX3 := Lib.hid hX3
  have HMM := Lib.hid hmm
  have g0 := cells_at hX3 0
  have g1 := cells_at hX3 1
  have g2 := cells_at hX3 2
  simp only [List.getElem?_toArray, List.getElem?_cons_succ, List.getElem?_cons_zero] at g0 g1 g2
  have hql : x.queue.length < 1000000 := by have := HO.out.qlen; omega
  have hkf : fitsI kid := by have := HK.out.1; simp only at this; unfold fitsI; omega
  have hlo : -9223372036854775808 ≤ x.lost ∧ x.lost < 9223372036854775807 := by have := HB.out.lost; omega
  have hev := HO.out.evs
  have HQ := Lib.hid hql
  have HF := Lib.hid hkf
  have HLO := Lib.hid hlo
  have HE := Lib.hid hev
  clear hT3 hN3 hX3 hmm hmid hql hkf hlo hev
  go_wp2_with (first | (go_at_call 43; refine (here_any _ kst _ h2).mono ?_; rintro e w4 ⟨rfl, rfl⟩; rw [hst]) | (go_at_call 46; refine (changed_any _ ov _ ⟨kid, kinc, kst⟩ _ HN3.out HQ.out HF.out HLO.out HE.out).mono ?_; rintro e w5 ⟨rfl, hT5⟩))
  ((try simp only [Exit.inBlock, Exit.then]); first | refine bodyPost_ret (results_none rfl _ _ _) rfl ?_ | refine bodyPost_end (results_none rfl _ _ _) rfl ?_)
  have e : x.taken ⟨kid, kinc, kst⟩ = ({ x with others := putM mm x.others } : Nd).changed ⟨kid, kinc, kst⟩ := by
    rw [← HMM.out]; simp only [decide_eq_true_eq] at hst; simp only [Nd.taken, if_pos hst]
  rw [e]
  exact ⟨rfl, _, HT3.out.trans hT5⟩
end Go.Proofs.YtfngdplkcppabaaGreat
namespace Go.Proofs.YtfngdplkcppabaaGreat
open Go.RowKit
theorem own_slice {pa : Option Addr} {n m c : Nat} : (Value.slice pa n c).ownBlock = (Value.slice pa m c).ownBlock := by cases pa <;> rfl
section
variable {w w' : World} {a : Ad} {ov : Value} {x : Nd}
theorem NodeAt.pass_ne (h : NodeAt w a ov x) : (Value.slice a.pa x.pass.length a.pc).ownBlock ≠ some a.b := fun hk => by
  obtain ⟨cur, hg⟩ := h.pass.blk hk
  obtain ⟨cs', hb⟩ := h.blk.block
  exact absurd (hg.symm.trans hb) (by simp)
theorem NodeAt.cut_blk (h : NodeAt w a ov x) (hc : Chg (fun j _ => (Value.slice a.pa x.pass.length a.pc).ownBlock = some j) w w') : NB w' a.b (nodeF a ov x) := h.blk.chg hc (fun _ => h.pass_ne)
theorem NodeAt.cutPass (h : NodeAt w a ov x) {L : List Int} (hp : NumsAt w' a.pa L.length a.pc L) (hc : Chg (fun j _ => (Value.slice a.pa x.pass.length a.pc).ownBlock = some j) w w') (h0 : a.pa = none → L = [] ∧ a.pc = 0) :
    Turned ov w a x (w'.setCell ⟨a.b, 15, none⟩ (.slice a.pa L.length a.pc)) (a.atPass a.pa a.pc) { x with pass := L } := by
  have hC : Chg (fun j _ => j = a.b ∨ (Value.slice a.pa x.pass.length a.pc).ownBlock = some j) w (w'.setCell ⟨a.b, 15, none⟩ (.slice a.pa L.length a.pc)) :=
    (hc.mono (fun _ _ _ hj => .inr hj)).setCell _ (fun _ _ => .inl rfl)
  refine ⟨h.setPass a.pa a.pc L (fun k hk => .inl (by rw [own_slice]; exact hk)) (apart_of_chg hC) ?_ (hp.heap fun k hk => ?_) h0, hC.mono (fun j _ _ hj => ?_), fun k hk => .inl ?_, rfl⟩
  · exact ((h.cut_blk hc).set (i := 15) (by omega) (.slice a.pa L.length a.pc)).congr (by (intro i hi; rcases i with _ | _ | _ | _ | _ | _ | _ | _ | _ | _ | _ | _ | _ | _ | _ | _ | _ | _ | _ | _ | _ | _ | _ | _ | _ | _ | _ | i <;> first | rfl | exact absurd hi (by omega)))
  · exact heap_setCell_ne _ _ _ _ _ (fun e => h.pass_ne (by rw [own_slice (m := L.length), hk, e]))
  · rcases hj with rfl | hj
    · exact .inl rfl
    · exact .inr (.inr (.inr (.inr (.inr (.inr (.inr (.inl hj)))))))
  · unfold Owns Ad.atPass at *
    simp only at hk
    rcases hk with h | h | h | h | h | h | h | h | h | h | h | h
    all_goals first
      | (simp only [h, true_or, or_true]; done)
      | exact .inr (.inr (.inr (.inr (.inr (.inr (.inl h))))))
      | exact .inr (.inr (.inr (.inr (.inr (.inr (.inr (.inl (by rw [own_slice (m := L.length)]; exact h))))))))
      | exact .inr (.inr (.inr (.inr (.inr (.inr (.inr (.inr (.inl h))))))))
end
end Go.Proofs.YtfngdplkcppabaaGreat
