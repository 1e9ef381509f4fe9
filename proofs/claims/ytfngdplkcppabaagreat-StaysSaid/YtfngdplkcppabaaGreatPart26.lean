/-
  A queue of packets: append(out[1:], back...), where at most one waits.
  gossipkeep.Stays. THE WALK.
-/
import Derived.Test.YtfngdplkcppabaaGreatPart25
import Derived.Deep.Upon
set_option linter.all false
namespace Go.Proofs.YtfngdplkcppabaaGreat
open Go.RowKit

/-- One packet waits in block g at off; there may be room behind it. -/
structure One (w : World) (B g off cap : Nat) (p : Pk) : Prop where
  low : B ≤ g
  pos : 1 ≤ cap
  max : cap ≤ maxLen
  blk : ∃ cur, w.heap[g]? = some (.cells cur 42 (0, 0)) ∧ off + cap * 2 ≤ cur.size ∧ cur[off]? = some (.int .i64 p.1) ∧ cur[off + 1]? = some (.string (strOfNums (msgBytes p.2)))
theorem One.to {w : World} {B g off cap : Nat} {p : Pk} (h : One w B g off cap p) : w.cell? ⟨g, off, none⟩ = some (.int .i64 p.1) := by
  obtain ⟨cur, hg, _, h1, _⟩ := h.blk
  rw [cells_at hg]; exact h1
theorem One.bytes {w : World} {B g off cap : Nat} {p : Pk} (h : One w B g off cap p) : w.cell? ⟨g, off + 1, none⟩ = some (.string (strOfNums (msgBytes p.2))) := by
  obtain ⟨cur, hg, _, _, h1⟩ := h.blk
  rw [cells_at hg]; exact h1
theorem One.heap {w w' : World} {B g off cap : Nat} {p : Pk} (h : One w B g off cap p) (e : w'.heap[g]? = w.heap[g]?) : One w' B g off cap p := by
  obtain ⟨cur, hg, h1⟩ := h.blk
  exact ⟨h.low, h.pos, h.max, cur, e.trans hg, h1⟩
theorem One.lt {w : World} {B g off cap : Nat} {p : Pk} (h : One w B g off cap p) : g < w.heap.size := by
  obtain ⟨cur, hg, _⟩ := h.blk
  exact heap_lt hg
theorem One.turned {w w' : World} {a a' : Ad} {x x' : Nd} {ov v : Value} {B g off cap : Nat} {p : Pk} (h : One w B g off cap p) (h0 : NodeAt w a ov x) (ht : Turned v w a x w' a' x') : One w' B g off cap p := by
  obtain ⟨cur, hg, _⟩ := h.blk
  exact h.heap ((ht.chg.kept _ _ hg (h0.notPk hg)).trans hg.symm)
/-- What waits. -/
def QueV (w : World) (B : Nat) (v : Value) (ps : List Pk) : Prop :=
  (ps = [] ∧ ∃ ad c, v = .slice ad 0 c) ∨ ∃ p g off cap, ps = [p] ∧ v = .slice (some ⟨g, off, none⟩) 1 cap ∧ One w B g off cap p
theorem QueV.len {w : World} {B : Nat} {v : Value} {ps : List Pk} (h : QueV w B v ps) : ∃ a c, v = .slice a ps.length c := by
  rcases h with ⟨rfl, ad, c, rfl⟩ | ⟨p, g, off, cap, rfl, rfl, _⟩
  · exact ⟨_, _, rfl⟩
  · exact ⟨_, _, rfl⟩
theorem queV_of {w : World} {B : Nat} {v : Value} {ps : List Pk} (h : OutRow w B v ps) (hl : ps.length ≤ 1) : QueV w B v ps := by
  rcases ps with _ | ⟨p, _ | ⟨p', ps⟩⟩
  · obtain ⟨a, c, rfl⟩ := ownsRow_sl h
    exact .inl ⟨rfl, a, c, rfl⟩
  · rcases h.2 with ⟨_, e⟩ | ⟨g, cap, cur, e, hB, hg, h1, h2, h3, h4⟩
    · simp at e
    · simp only [List.length_singleton] at h1 h4
      have q0 : (cur.toList.take (1 * 2))[0]? = some (.int .i64 p.1) := by rw [h4]; rfl
      have q1 : (cur.toList.take (1 * 2))[1]? = some (.string (strOfNums (msgBytes p.2))) := by rw [h4]; rfl
      rw [List.getElem?_take, if_pos (by omega), Array.getElem?_toList] at q0 q1
      exact .inr ⟨p, g, 0, cap, rfl, e, hB, h1, h2, cur, hg, by omega, q0, q1⟩
  · simp at hl
theorem Chg.que {B : Nat} {w w' : World} {bs : List Bx} {B0 : Nat} {rv : Value} (hc : Chg (fun k o => B ≤ k ∧ isPk o) w w') (h : Ns w B0 rv bs) : Ns w' B0 rv bs := by
  refine ⟨h.bxs.keep (fun q hq k hk => ?_), own_heap h.row (fun k hk => ?_), h.off⟩
  · have hq' := h.bxs.at_ q hq
    obtain ⟨o, ho⟩ : ∃ o, w.heap[k]? = some o := ⟨_, Array.getElem?_eq_getElem (hq'.lt hk)⟩
    refine (hc.kept k o ho ?_).trans ho.symm
    rintro ⟨_, c, f, rfl⟩
    rcases hk with rfl | hk
    · rw [hq'.box] at ho
      simp only [Option.some.injEq, Obj.cells.injEq] at ho
      exact absurd ho.2.1 (by decide)
    · obtain ⟨ov, hn⟩ := hq'.node
      exact hn.notPk ho hk
  · rcases h.row.2 with ⟨e, _⟩ | ⟨g, cap, cur, e, _, hg, _⟩
    · rw [e] at hk; simp [Value.ownBlock] at hk
    · rw [e] at hk
      simp only [Value.ownBlock, Option.some.injEq] at hk
      subst hk
      refine (hc.kept _ _ hg ?_).trans hg.symm
      rintro ⟨_, c, f, ho⟩
      simp only [Obj.cells.injEq] at ho
      exact absurd ho.2.1 (by decide)
section
variable (w : World)
/-- append(out[1:], back...). -/
theorem run_append_que {B g off cap : Nat} {p : Pk} (hone : One w B g off cap p) (o2 c2 : Nat) (ho2 : (cap = 1 ∧ c2 = 0) ∨ (1 < cap ∧ o2 = off + 2 ∧ c2 = cap - 1)) {B2 : Nat} {ba : Option Addr} {n bc : Nat} {bk : List Pk} (hout : OutRow w B2 (.slice ba n bc) bk) (hn : n = bk.length) (hbk : n ≤ 1) (hB : B ≤ w.heap.size) (ty : TypeId) :
    ∃ v' w', (Builtin.append_ #[36, 36] ty #[.slice (some ⟨g, o2, none⟩) 0 c2, .slice ba n bc]).run Tryz.prog w = .ok v' w' ∧ QueV w' B v' bk ∧ Chg (fun k o => B ≤ k ∧ isPk o) w w' := by
  obtain ⟨i0, hi, hz0, hz1, hz2⟩ := info_parts info_pk
  subst hn
  have hmx := hone.max
  have hps := hone.pos
  obtain ⟨cur, hg, hcs, _⟩ := hone.blk
  rcases bk with _ | ⟨p', _ | ⟨p'', bk⟩⟩
  · have hsrc : Src Tryz.prog i0.size 36 (.slice ba 0 bc) 0 [] w := by
      cases ba with
      | none => exact Src.ofNil w Tryz.underlying36 bc
      | some ad => exact Src.ofSlice w Tryz.underlying36 ad 0 bc [] (by simp) (fun j v h => by simp at h) (by simp)
    exact ⟨_, w, run_append_nothing w _ _ ty _ i0 Tryz.underlying36 hi _ 0 _ (Nat.zero_le _) _ hsrc, .inl ⟨rfl, _, _, rfl⟩, Chg.refl _ _⟩
  · obtain ⟨bg, bc', e, hBg, c0, c1⟩ := out_one hout
    simp only [List.length_singleton, Value.slice.injEq] at e
    obtain ⟨rfl, _, rfl⟩ := e
    have hsrc : Src Tryz.prog i0.size 36 (.slice (some ⟨bg, 0, none⟩) 1 bc) 1 (pkCells p') w := by
      refine Src.ofSlice w Tryz.underlying36 ⟨bg, 0, none⟩ 1 bc (pkCells p') (by rw [hz1]; rfl) (fun j v h => ?_) (by simp [pkCells, Value.oneCell'])
      rw [Addr.add_lit]
      rcases j with _ | _ | j
      · simp only [pkCells, List.getElem?_cons_zero, Option.some.injEq] at h
        subst h; exact c0
      · simp only [pkCells, List.getElem?_cons_succ, List.getElem?_cons_zero, Option.some.injEq] at h
        subst h; exact c1
      · simp [pkCells] at h
    rcases ho2 with ⟨hc, rfl⟩ | ⟨hc, rfl, rfl⟩
    · subst hc
      have hr := run_append_grow_src (P := Tryz.prog) w 36 36 ty 42 i0 _ Tryz.underlying36 hi hz0 (some ⟨g, o2, none⟩) 0 0 [] (run_firstCells_some w.drew i0.size 0 ⟨g, o2, none⟩ 0 0 [] (by simp) (by intro _ _ h'; simp at h')) _ 1 _ hsrc (by omega) (by omega) (growslice_fits (by omega) (by rw [hz2]; omega))
      have hge := grownCap_ge w (0 + 1) 0 42
      have hcm := grownCap_le_maxLen w (0 + 1) 0 42 (by unfold maxLen; omega)
      refine ⟨_, _, hr, .inr ⟨p', w.heap.size, 0, _, rfl, rfl, hB, hge, hcm, _, heap_alloc_eq w.drew _, ?_, ?_, ?_⟩, ((Chg.refl _ w).drew).alloc _⟩
      · rw [Array.size_append, size_zeroCells]
        simp [pkCells, Value.cells]
        omega
      · rw [Array.getElem?_append_left (by simp [pkCells])]; rfl
      · rw [Array.getElem?_append_left (by simp [pkCells])]; rfl
    · have hsome : ∀ j, j < 2 → (w.cell? ⟨g, off + 2 + j, none⟩).isSome = true := fun j hj => by
        rw [cells_at hg, Array.getElem?_eq_getElem (by omega)]; rfl
      have hfr : ∀ j, w.frozen? ⟨g, j, none⟩ = false := fun j => unfrozen hg j
      have hr := run_append_room_src (P := Tryz.prog) w 36 36 ty 42 i0 Tryz.underlying36 hi g (off + 2) 0 (cap - 1) _ 1 _ hsrc (by omega)
        (fun j hj => by rw [Nat.zero_mul, Nat.add_zero]; exact hsome j hj) (fun j hj => hfr _)
      rw [Nat.zero_mul, Nat.add_zero] at hr
      have hh : (w.setCells g (off + 2) (pkCells p')).heap[g]? = some (.cells ((cur.setIfInBounds (off + 2) (.int .i64 p'.1)).setIfInBounds (off + 2 + 1) (.string (strOfNums (msgBytes p'.2)))) 42 (0, 0)) := by
        show ((w.setCell ⟨g, off + 2, none⟩ (.int .i64 p'.1)).setCell ⟨g, off + 2 + 1, none⟩ (.string (strOfNums (msgBytes p'.2)))).heap[g]? = _
        exact heap_setCell_eq (heap_setCell_eq hg)
      refine ⟨_, _, hr, .inr ⟨p', g, off + 2, cap - 1, rfl, rfl, hone.low, by omega, by omega, _, hh, by simp; omega, ?_, ?_⟩, ?_⟩
      · rw [Array.getElem?_setIfInBounds_ne (by omega), Array.getElem?_setIfInBounds_self_of_lt (by omega)]
      · rw [Array.getElem?_setIfInBounds_self_of_lt (by simp; omega)]
      · show Chg _ w ((w.setCell ⟨g, off + 2, none⟩ (.int .i64 p'.1)).setCell ⟨g, off + 2 + 1, none⟩ (.string (strOfNums (msgBytes p'.2))))
        refine ((Chg.refl _ w).setCell _ (fun o ho => ?_)).setCell _ (fun o ho => ?_)
        · rw [hg] at ho; cases ho; exact ⟨hone.low, _, _, rfl⟩
        · rw [heap_setCell_eq hg] at ho; cases ho; exact ⟨hone.low, _, _, rfl⟩
  · simp at hbk
end
/-- For the walk. -/
theorem wpList_append_que (w : World) {ops : Array Oper} {rest : List Oper} {o : Oper} {a : Act} {Q : Exit → Act → World → Prop} (hgd : o.guard = none) (s x : Operand)
    (ho : o.op = .call { callee := .builtin .append, args := #[s, x], argTypes := #[36, 36] })
    {B g off cap : Nat} {p : Pk} (hone : One w B g off cap p) (o2 c2 : Nat) (ho2 : (cap = 1 ∧ c2 = 0) ∨ (1 < cap ∧ o2 = off + 2 ∧ c2 = cap - 1)) {B2 : Nat} {ba : Option Addr} {n bc : Nat} {bk : List Pk} (hout : OutRow w B2 (.slice ba n bc) bk) (hn : n = bk.length) (hbk : n ≤ 1) (hB : B ≤ w.heap.size)
    (hs : a.eval s = .slice (some ⟨g, o2, none⟩) 0 c2) (hx : a.eval x = .slice ba n bc)
    (hK : ∀ v' w', QueV w' B v' bk → Chg (fun k o => B ≤ k ∧ isPk o) w w' → wpList Tryz.prog ops Q rest (a.put o.dst v') w') : wpList Tryz.prog ops Q (o :: rest) a w := by
  refine wpList_plain hgd fun K hK' => ?_
  obtain ⟨v', w', hr, h1, h2⟩ := run_append_que w hone o2 c2 ho2 hout hn hbk hB o.type
  unfold Oper.wp execOp
  simp only [ho, resolve, invoke, builtin, Sem.run_bind, Sem.run_pure, Result.andThen_ok, List.map_toArray, List.map_cons, List.map_nil, hs, hx, hr]
  exact hK' _ _ (hK v' w' h1 h2)
end Go.Proofs.YtfngdplkcppabaaGreat
namespace Go.Proofs.YtfngdplkcppabaaGreat
open Go.RowKit

/-- The queue's states: empty; a probe; its answer. -/
def Ph (k : Nat) (P C : Int) (t i pr0 pr : Nat) (ps : List Pk) (xs : List Nd) : Prop :=
  (ps = [] ∧ StayS k P C t (i + 1) none xs ∧ Count k t (i + 1) (pr : Int) xs) ∨
  (∃ tt m x, ps = [(tt, m)] ∧ pr = pr0 ∧ (1 ≤ tt ∧ tt ≤ (k : Int)) ∧ tt ≠ (i : Int) + 1 ∧ CalmM 0 k m ∧ m.kind = 1 ∧ m.tgt = tt ∧ m.frm = (i : Int) + 1 ∧ xs[i]? = some x ∧ x.probe = some ⟨tt, m.seq, x.clock, false⟩ ∧ StayS k P C t (i + 1) (some i) xs ∧ Count k t (i + 1) ((pr + 1 : Nat) : Int) xs) ∨
  (∃ tt m x, ps = [((i : Int) + 1, m)] ∧ pr = pr0 + 1 ∧ tt ≠ (i : Int) + 1 ∧ CalmM 0 k m ∧ m.kind = 2 ∧ m.tgt = tt ∧ m.frm = tt ∧ xs[i]? = some x ∧ x.probe = some ⟨tt, m.seq, x.clock, false⟩ ∧ StayS k P C t (i + 1) (some i) xs ∧ Count k t (i + 1) (pr : Int) xs)
theorem Ph.pr {k : Nat} {P C : Int} {t i pr0 pr : Nat} {p : Pk} {xs : List Nd} (h : Ph k P C t i pr0 pr [p] xs) : pr ≤ pr0 + 1 := by
  rcases h with ⟨h, _⟩ | ⟨_, _, _, _, h, _⟩ | ⟨_, _, _, _, h, _⟩
  · cases h
  · omega
  · omega
theorem Ph.step {k : Nat} {P C : Int} {t i pr0 pr : Nat} {p : Pk} {xs : List Nd} (h : Ph k P C t i pr0 pr [p] xs) (hi : i < k) (hC : C ≤ 3999990000) :
    (1 ≤ p.1 ∧ p.1 ≤ (k : Int)) ∧ CalmM 0 k p.2 ∧ ∃ (j : Nat) (y : Nd), (j : Int) + 1 = p.1 ∧ j < k ∧ xs[j]? = some y ∧ Ok y ∧ Bd C y ∧ (y.receive (some p.2)).1.length ≤ 1 ∧
      ((p.2.kind = 1 ∧ pr = pr0 ∧ Ph k P (C + 10) t i pr0 (pr + 1) (y.receive (some p.2)).1 (xs.set j (y.receive (some p.2)).2)) ∨
       (p.2.kind = 2 ∧ pr = pr0 + 1 ∧ (y.receive (some p.2)).1 = [] ∧ Ph k P (C + 10) t i pr0 pr (y.receive (some p.2)).1 (xs.set j (y.receive (some p.2)).2))) := by
  rcases h with ⟨h, _⟩ | ⟨tt, m, x, h, hpr, ht, hne, hm, hk, hmt, hf, hx, hp, hs, hc⟩ | ⟨tt, m, x, h, hpr, hne, hm, hk, hmt, hf, hx, hp, hs, hc⟩
  · cases h
  · cases h
    obtain ⟨j, y, a, hje, hjn, hjk, hy, hok, hbd, hr, a1, a2, a3, a4, a5, hs', hc'⟩ := hs.ping hc hC ht hne hm hk hmt hf
    refine ⟨ht, hm, j, y, hje, hjk, hy, hok, hbd, by rw [hr]; simp, .inl ⟨hk, hpr, .inr (.inr ⟨tt, a, x, by rw [hr], by omega, hne, a1, a2, a5, a3, ?_, ?_, hs', hc'⟩)⟩⟩
    · rw [List.getElem?_set_ne hjn]; exact hx
    · rw [a4]; exact hp
  · cases h
    obtain ⟨hok, hbd, hr, hs', hc'⟩ := hs.ack hc hC hx hp hne hm hk hmt hf
    refine ⟨by show 1 ≤ (i : Int) + 1 ∧ (i : Int) + 1 ≤ k; omega, hm, i, x, rfl, hi, hx, hok, hbd, by rw [hr]; simp, .inr ⟨hk, hpr, hr, .inl ⟨hr, hs', hc'⟩⟩⟩
/-- A tick begins it. -/
theorem ph_tick {k : Nat} {P C : Int} {t i pr : Nat} {xs : List Nd} (h : StayS k P C t i none xs) (hcnt : Count k t i (pr : Int) xs) (hC : C ≤ 3999990000) {x : Nd} (hx : xs[i]? = some x) :
    Ok x ∧ Bd C x ∧ x.ds.length ≤ 50 ∧ x.tick.1.length ≤ 1 ∧ Ph k P (C + 20) t i pr pr x.tick.1 (xs.set i x.tick.2) := by
  obtain ⟨h1, h2, h3, h4⟩ := h.tick hcnt hC hx
  refine ⟨h1, h2, h3, ?_⟩
  rcases h4 with ⟨e, s, c⟩ | ⟨tt, m, e, ht, hne, hm, hk, hmt, hf, hp, s, c⟩
  · exact ⟨by rw [e]; simp, .inl ⟨e, s, c⟩⟩
  · exact ⟨by rw [e]; simp, .inr (.inl ⟨tt, m, x.tick.2, e, rfl, ht, hne, hm, hk, hmt, hf, by rw [List.getElem?_set_self (List.getElem?_eq_some_iff.1 hx).1], hp, s, c⟩)⟩
def lenV : Value → Nat
  | .slice _ n _ => n
  | _ => 0

set_option maxRecDepth 100000 in
set_option maxHeartbeats 8000000 in
theorem stays_any (n c ticks : Int) (hn : -9223372036854775808 ≤ n ∧ n ≤ 9223372036854775807) (hc : -9223372036854775808 ≤ c ∧ c ≤ 9223372036854775807) (hs : -9223372036854775808 ≤ ticks ∧ ticks ≤ 9223372036854775807)
    (ds : List Int) (hfit : ∀ v ∈ ds, fitsI v) (da : Option Addr) (dn dc : Nat) (w : World) (hdn : ds.length = dn) (hl : dn ≤ 9223372036854775807) (hd : CellsAt w da (ds.map (Value.int .i64))) :
    Calls Tryz.prog 5 #[.int .i64 n, .int .i64 c, .slice da dn dc, .int .i64 ticks] w fun e w' => e = .returned (.bool true) ∧ Below w.heap.size w w' := by
  have p1 := pickI_bd n 5 (by omega)
  obtain ⟨k, hk⟩ : ∃ k : Nat, 2 + pickI n 5 = (k : Int) := ⟨(2 + pickI n 5).toNat, by omega⟩
  have hk6 : 2 ≤ k ∧ k ≤ 6 := by omega
  have wk : IntKind.i64.wrap (2 + pickI n 5) = (k : Int) := by rw [IntWalk.i64_in _ (by omega)]; exact hk
  have p2 := pickI_bd ticks 60 (by omega)
  obtain ⟨T, hT⟩ : ∃ T : Nat, 40 + pickI ticks 60 = (T : Int) := ⟨(40 + pickI ticks 60).toNat, by omega⟩
  have wT : IntKind.i64.wrap (40 + pickI ticks 60) = (T : Int) := by rw [IntWalk.i64_in _ (by omega)]; exact hT
  have hT100 : 40 ≤ T ∧ T ≤ 100 := by omega
  have hmade := made_any k hk6 c hc ds hfit da dn dc w hdn hl hd
  have hP11 : (cfgOf 1 c).period ≤ 11 := by
    have := pickI_bd c 1073741824 (by omega)
    show 4 + pickI c 1073741824 % 8 ≤ 11; omega
  obtain ⟨P, hP⟩ : ∃ P, (cfgOf 1 c).period = P := ⟨_, rfl⟩
  rw [hP] at hP11
  have HM := Lib.hid hmade
  have HP := Lib.hid hP
  clear hmade hd hdn hfit hk hP hT
  go_enter Tryz.func5, Tryz.ntmps5
  go_wp2_with fail
  refine (pick_any n 5 _ hn.1 hn.2 (by decide)).mono ?_
  rintro e w0 ⟨rfl, rfl⟩
  go_wp2_with fail
  refine HM.out.mono ?_
  rintro e w1 ⟨v, l, rfl, hNs, hMid, hb1⟩
  have hll : l.length = k := by rw [← hMid.len, List.length_map]
  obtain ⟨rg, cp, rfl⟩ := hNs.sl (by omega)
  rw [hll] at hNs ⊢
  obtain ⟨hS0, hC0⟩ := stayS_made hMid hk6
  rw [HP.out] at hS0
  have HNS := Lib.hid hNs
  have HS0 := Lib.hid hS0
  have HC0 := Lib.hid hC0
  have HB1 := Lib.hid hb1
  clear hNs hMid hb1 hS0 hC0
  go_wp2_with fail
  go_loopw [11, 12] (fun s11 s12 wr => ∃ (t : Nat) (pr : Nat) (M : List Bx), t ≤ T ∧ pr ≤ 1000 * t ∧ s11 = .int .i64 (pr : Nat) ∧ s12 = .int .i64 (t : Nat) ∧ Ns wr w.heap.size (.slice (some ⟨rg, 0, none⟩) k cp) M ∧ StayS k P (10000 + 1000 * (t : Int)) t 0 none (M.map Bx.x) ∧ Count k t 0 pr (M.map Bx.x) ∧ Below w.heap.size w wr)
    (fun _ s12 _ => 200 - (intOf s12).toNat)
  case atStart => exact ⟨0, 0, l, Nat.zero_le _, Nat.zero_le _, rfl, rfl, HNS.out, HS0.out, HC0.out, HB1.out⟩
  case round =>
    clear HNS HS0 HC0
    obtain ⟨t, pr, M, htT, hpr, rfl, rfl, hNs, hSt, hCt, hb⟩ := hrel
    have hsz := hb.size
    by_cases htl : t < T
    · have HNS := Lib.hid hNs
      have HST := Lib.hid hSt
      have HCT := Lib.hid hCt
      have HBW := Lib.hid hb
      clear hNs hSt hCt hb
      go_wp2_with fail
      refine (pick_any ticks 60 _ hs.1 hs.2 (by decide)).mono ?_
      rintro e w2 ⟨rfl, rfl⟩
      go_wp2_with fail
      go_loopw [11, 13] (fun s11 s13 wr => ∃ (i : Nat) (pr : Nat) (M : List Bx), i ≤ k ∧ pr ≤ 1000 * t + i ∧ s11 = .int .i64 (pr : Nat) ∧ s13 = .int .i64 (i : Nat) ∧ Ns wr w.heap.size (.slice (some ⟨rg, 0, none⟩) k cp) M ∧ StayS k P (10000 + 1000 * (t : Int) + 100 * (i : Int)) t i none (M.map Bx.x) ∧ Count k t i pr (M.map Bx.x) ∧ Below w.heap.size w wr)
        (fun _ s13 _ => 10 - (intOf s13).toNat)
      case atStart => exact ⟨0, pr, M, Nat.zero_le _, by omega, rfl, rfl, HNS.out, HST.out.mono (by omega), HCT.out, HBW.out⟩
      case round =>
        clear HNS HST HCT HBW hsz
        obtain ⟨i, pr, M, hik, hpr, rfl, rfl, hNs, hSt, hCt, hb⟩ := hrel
        have hsz := hb.size
        by_cases hil : i < k
        · obtain ⟨q0, hq0⟩ : ∃ q0, M[i]? = some q0 := ⟨_, List.getElem?_eq_getElem (by have := hSt.len; rw [List.length_map] at this; omega)⟩
          obtain ⟨hok, hbd, hds, hlen, hPh⟩ := ph_tick hSt hCt (by omega) (x_at hq0)
          have cn := hNs.cell hq0
          have cb := hNs.box hq0
          obtain ⟨ov, hnode⟩ := hNs.nodeOf hq0
          have htick := tick_any hok hbd (by omega) (by omega) q0.a ov wr hnode
          have HTICK := Lib.hid htick
          have HN0 := Lib.hid hNs
          have HQ0 := Lib.hid hq0
          have HPH := Lib.hid hPh
          have HBW := Lib.hid hb
          clear hNs hSt hCt hb hq0 hok hbd hds hnode htick hPh
          go_wp2_with fail
          refine HTICK.out.mono ?_
          rintro e w4 ⟨v, rfl, hG⟩
          obtain ⟨a4, hN4, hO4, hB4, hT4⟩ := HN0.out.gives hsz HQ0.out hG
          obtain ⟨ps, hps⟩ : ∃ ps, q0.x.tick.1 = ps := ⟨_, rfl⟩
          have hP4 := HPH.out
          rw [hps] at hO4 hlen hP4
          have hx4 : (M.set i ⟨q0.g, a4, q0.x.tick.2⟩).map Bx.x = (M.map Bx.x).set i q0.x.tick.2 := by rw [map_set_x]
          rw [← hx4] at hP4
          have hQu := queV_of hO4 hlen
          obtain ⟨oa, oc, rfl⟩ := hQu.len
          have HN4 := Lib.hid hN4
          have HP4 := Lib.hid hP4
          have HQU := Lib.hid hQu
          have HB4 := Lib.hid (HBW.out.trans hB4)
          have hsz4 := hT4.chg.size
          have HS4 := Lib.hid (show wr.heap.size ≤ w4.heap.size from hsz4)
          clear hG hN4 hO4 hB4 hT4 hps hx4 hP4 hQu cn cb hsz4 HTICK HN0 HQ0 HPH HBW
          go_wp2_with fail
          go_loopw [11, 14] (fun s11 s14 wq => ∃ (pr2 : Nat) (qs : List Pk) (M2 : List Bx) (B : Nat) (C : Int), s11 = .int .i64 (pr2 : Nat) ∧ pr2 ≤ pr + 1 ∧ qs.length ≤ 1 ∧ Ns wq w.heap.size (.slice (some ⟨rg, 0, none⟩) k cp) M2 ∧ Ph k P C t i pr pr2 qs (M2.map Bx.x) ∧ C + 20 * (qs.length : Int) + 10 * ((pr : Int) + 1 - pr2) ≤ 10000 + 1000 * (t : Int) + 100 * (i : Int) + 90 ∧ w.heap.size ≤ B ∧ B ≤ wq.heap.size ∧ QueV wq B s14 qs ∧ Below w.heap.size w wq)
            (fun s11 s14 _ => 2 * lenV s14 + ((pr : Int) + 1 - intOf s11).toNat)
          case atStart => exact ⟨pr, ps, _, wr.heap.size, _, rfl, by omega, hlen, HN4.out, HP4.out, by omega, hsz, HS4.out, HQU.out, HB4.out⟩
          case round =>
            clear HN4 HP4 HQU HB4 HS4
            obtain ⟨pr2, qs, M2, B, C, rfl, hpr2, hqs, hNs, hPh, hC, hB0, hB1, hQu, hb⟩ := hrel
            have hszq := hb.size
            rcases qs with _ | ⟨p, _ | ⟨p', qs⟩⟩
            · obtain ⟨a5, c5, rfl⟩ := hQu.len
              have hS5 : StayS k P C t (i + 1) none (M2.map Bx.x) ∧ Count k t (i + 1) (pr2 : Int) (M2.map Bx.x) := by
                rcases hPh with ⟨_, h1, h2⟩ | ⟨_, _, _, h, _⟩ | ⟨_, _, _, h, _⟩
                · exact ⟨h1, h2⟩
                · cases h
                · cases h
              have hC5 : C ≤ 10000 + 1000 * (t : Int) + 100 * (i : Int) + 90 := by simp only [List.length_nil] at hC; omega
              have HNS := Lib.hid hNs
              have HST := Lib.hid hS5.1
              have HCT := Lib.hid hS5.2
              have HBW := Lib.hid hb
              clear hNs hPh hb hS5 hqs hQu hC
              simp only [List.length_nil]
              go_wp2
              go_roundw
              case rel => exact ⟨i + 1, pr2, M2, by omega, by omega, rfl, by go_num, HNS.out, HST.out.mono (by omega), HCT.out, HBW.out⟩
              case measure => simp [intOf]; omega
            · rcases hQu with ⟨e, _⟩ | ⟨p', g, off, cap, e, rfl, hOne⟩
              · cases e
              cases e
              have cto := hOne.to
              have cby := hOne.bytes
              have hgl := hOne.lt
              have hcap := hOne.pos
              have hC1 : C + 20 + 10 * ((pr : Int) + 1 - pr2) ≤ 10000 + 1000 * (t : Int) + 100 * (i : Int) + 90 := by simp only [List.length_singleton] at hC; omega
              clear hC hqs
              obtain ⟨hto, hcm, j, y, hje, hjk, hy, hoky, hby, hlb, hstep⟩ := hPh.step hil (by omega)
              have hwh := hcm.whole
              obtain ⟨qj, hqj, hqy⟩ := bx_at hy
              subst hqy
              have HNS := Lib.hid hNs
              have HONE := Lib.hid hOne
              have HCM := Lib.hid hcm
              have HST := Lib.hid hstep
              have HWH := Lib.hid hwh
              have HQJ := Lib.hid hqj
              have HBW := Lib.hid hb
              have HOK := Lib.hid hoky
              have HBY := Lib.hid hby
              clear hNs hOne hcm hstep hwh hqj hb hPh hy hoky hby
              obtain ⟨w4, hw4⟩ : ∃ w4, wr.alloc (.cells #[.int .i64 p.1, .string (strOfNums (msgBytes p.2))] 42) = w4 := ⟨_, rfl⟩
              have hb4 : Below wr.heap.size wr w4 := by rw [← hw4]; exact (Below.refl _ _).alloc (Nat.le_refl _) _
              have hx4 : w4.heap[wr.heap.size]? = some (.cells #[.int .i64 p.1, .string (strOfNums (msgBytes p.2))] 42 (0, 0)) := by rw [← hw4]; exact heap_alloc_eq wr _
              have HW4 := Lib.hid hw4
              have HB4 := Lib.hid hb4
              have HX4 := Lib.hid hx4
              clear hw4 hb4 hx4
              go_wp2_with fail
              all_goals
                rw [HW4.out]
                refine (decode_any (strOfNums (msgBytes p.2)) w4 (by have := bytes_size HWH.out; unfold maxLen; omega)).mono ?_
                rintro e w5 hdec
                obtain ⟨ka, kc, rfl, hk5, hb5⟩ := decpost_yes hdec (decode_bytes HWH.out)
                have hb45 : Below wr.heap.size wr w5 := HB4.out.trans (hb5.mono HB4.out.size)
                have x5 := (hb5.block _ (heap_lt HX4.out)).trans HX4.out
                have d0 := cells_at x5 0
                have d1 := cells_at x5 1
                simp only [List.getElem?_toArray, List.getElem?_cons_succ, List.getElem?_cons_zero] at d0 d1
                have hlt5 : wr.heap.size < w5.heap.size := heap_lt x5
                have HB5 := Lib.hid hb45
                have HX5 := Lib.hid x5
                clear hdec hk5 hb5 hb45 x5 HB4 HX4 HW4
                unfold Go.Proofs.YtfngdplkcppabaaGreat.M.agg
                rcases HST.out with ⟨hk1, hpe, hph⟩ | ⟨hk2, hpe, hbk, hph⟩
                · have hkb : (p.2.kind == 1) = true := by simpa using hk1
                  have HPH := Lib.hid hph
                  clear hk1 hph
                  go_wp2_with fail
                  obtain ⟨w6, hw6⟩ : ∃ w6, w5.alloc (.cells #[.int .i64 p.2.kind, .int .i64 p.2.frm, .int .i64 p.2.inc, .int .i64 p.2.seq, .int .i64 p.2.tgt, .slice ka p.2.ups.length kc] 29) = w6 := ⟨_, rfl⟩
                  rw [hw6]
                  have hb6 : Below wr.heap.size wr w6 := by rw [← hw6]; exact HB5.out.alloc HB5.out.size _
                  have x6 : w6.heap[wr.heap.size]? = some (.cells #[.int .i64 p.1, .string (strOfNums (msgBytes p.2))] 42 (0, 0)) := by rw [← hw6]; exact (Below.heap_alloc w5 _ _ hlt5).trans HX5.out
                  have e0 := cells_at x6 0
                  have e1 := cells_at x6 1
                  simp only [List.getElem?_toArray, List.getElem?_cons_succ, List.getElem?_cons_zero] at e0 e1
                  have hN6 := HNS.out.below hb6
                  have cj := hN6.cell HQJ.out
                  have cbj := hN6.box HQJ.out
                  obtain ⟨ovj, hnj⟩ := (hN6.drewN 1).nodeOf HQJ.out
                  have wj : IntKind.i64.wrap (p.1 - 1) = (j : Int) := by rw [IntWalk.i64_in _ (by omega)]; omega
                  have hrec := receive_any HOK.out HBY.out (by omega) qj.a ovj (w6.drewN 1) hnj (strOfNums (msgBytes p.2)) (by have := bytes_size HWH.out; unfold maxLen; omega) (fun m' hm' => by rw [decode_bytes HWH.out] at hm'; cases hm'; exact mok_of HWH.out)
                  rw [decode_bytes HWH.out] at hrec
                  have HREC := Lib.hid hrec
                  have HN6 := Lib.hid (hN6.drewN 1)
                  have HNJ := Lib.hid hnj
                  have hs6 := hb6.size
                  have HS6 := Lib.hid hs6
                  have HONE6 := Lib.hid (HONE.out.heap (w' := w6.drewN 1) (hb6.block _ hgl))
                  have HB6 := Lib.hid (HBW.out.trans (hb6.mono hszq))
                  clear hw6 hb6 x6 hN6 hnj hrec d0 d1 cto cby HB5 HX5 HONE HBW hlt5
                  go_upto_region 21 with (fail)
                  (refine wp_tail 11 (by kernel_rfl) (by kernel_rfl) ?_; simp only [List.take_succ_cons, List.take_zero, List.drop_succ_cons, List.drop_zero])
                  iterate 11 still_step
                  refine wpStill_nil ?_
                  go_wp2_with fail
                  refine HREC.out.mono ?_
                  rintro e w7 ⟨v, rfl, hG⟩
                  obtain ⟨aj, hN7, hO7, hB7, hT7⟩ := HN6.out.gives (show w.heap.size ≤ w6.heap.size by omega) HQJ.out hG
                  have hOne7 := HONE6.out.turned HNJ.out hT7
                  have hs7 : w6.heap.size ≤ w7.heap.size := hT7.chg.size
                  obtain ⟨bk, hbk⟩ : ∃ bk, (qj.x.receive (some p.2)).1 = bk := ⟨_, rfl⟩
                  have hph7 := HPH.out
                  have hx7 : (M2.set j ⟨qj.g, aj, (qj.x.receive (some p.2)).2⟩).map Bx.x = (M2.map Bx.x).set j (qj.x.receive (some p.2)).2 := by rw [map_set_x]
                  rw [hbk] at hO7 hph7 hlb
                  rw [← hx7] at hph7
                  obtain ⟨ba, bc, rfl⟩ := hO7.sl
                  have HPH7 := Lib.hid hph7
                  have HN7 := Lib.hid hN7
                  have HO7 := Lib.hid hO7
                  have HONE7 := Lib.hid hOne7
                  have HB7 := Lib.hid (HB6.out.trans (below_ofDrew hB7))
                  have hB17 : B ≤ w7.heap.size := by omega
                  clear hG hN7 hO7 hB7 hT7 hOne7 hph7 hx7 hbk e0 e1 cj cbj
                  go_wp2_with (at_builtin; refine wpList_append_que _ rfl _ _ rfl HONE7.out _ _ (by omega) HO7.out rfl hlb hB17 rfl rfl ?_)
                  intro v8 w8 hq8 hc8
                  obtain ⟨a8, c8, rfl⟩ := hq8.len
                  have HQ8 := Lib.hid hq8
                  have HN8 := Lib.hid (hc8.que HN7.out)
                  have HB8 := Lib.hid (HB7.out.trans (hc8.below (by omega) (fun k o h => by have := h.1; omega)))
                  have hs8 := hc8.size
                  clear hq8 hc8
                  go_wp2
                  go_roundw
                  case rel => exact ⟨pr2 + 1, bk, _, B, _, by go_num, by omega, hlb, HN8.out, HPH7.out, by omega, hB0, by omega, HQ8.out, HB8.out⟩
                  case measure => simp [intOf, lenV]; omega
                · have hkb : (p.2.kind == 1) = false := by rw [hk2]; decide
                  have HPH := Lib.hid hph
                  have HBK0 := Lib.hid hbk
                  clear hk2 hph hbk
                  go_wp2_with fail
                  obtain ⟨w6, hw6⟩ : ∃ w6, w5.alloc (.cells #[.int .i64 p.2.kind, .int .i64 p.2.frm, .int .i64 p.2.inc, .int .i64 p.2.seq, .int .i64 p.2.tgt, .slice ka p.2.ups.length kc] 29) = w6 := ⟨_, rfl⟩
                  rw [hw6]
                  have hb6 : Below wr.heap.size wr w6 := by rw [← hw6]; exact HB5.out.alloc HB5.out.size _
                  have x6 : w6.heap[wr.heap.size]? = some (.cells #[.int .i64 p.1, .string (strOfNums (msgBytes p.2))] 42 (0, 0)) := by rw [← hw6]; exact (Below.heap_alloc w5 _ _ hlt5).trans HX5.out
                  have e0 := cells_at x6 0
                  have e1 := cells_at x6 1
                  simp only [List.getElem?_toArray, List.getElem?_cons_succ, List.getElem?_cons_zero] at e0 e1
                  have hN6 := HNS.out.below hb6
                  have cj := hN6.cell HQJ.out
                  have cbj := hN6.box HQJ.out
                  obtain ⟨ovj, hnj⟩ := (hN6.drewN 1).nodeOf HQJ.out
                  have wj : IntKind.i64.wrap (p.1 - 1) = (j : Int) := by rw [IntWalk.i64_in _ (by omega)]; omega
                  have hrec := receive_any HOK.out HBY.out (by omega) qj.a ovj (w6.drewN 1) hnj (strOfNums (msgBytes p.2)) (by have := bytes_size HWH.out; unfold maxLen; omega) (fun m' hm' => by rw [decode_bytes HWH.out] at hm'; cases hm'; exact mok_of HWH.out)
                  rw [decode_bytes HWH.out] at hrec
                  have HREC := Lib.hid hrec
                  have HN6 := Lib.hid (hN6.drewN 1)
                  have HNJ := Lib.hid hnj
                  have hs6 := hb6.size
                  have HS6 := Lib.hid hs6
                  have HONE6 := Lib.hid (HONE.out.heap (w' := w6.drewN 1) (hb6.block _ hgl))
                  have HB6 := Lib.hid (HBW.out.trans (hb6.mono hszq))
                  clear hw6 hb6 x6 hN6 hnj hrec d0 d1 cto cby HB5 HX5 HONE HBW hlt5
                  go_upto_region 21 with (fail)
                  (refine wp_tail 11 (by kernel_rfl) (by kernel_rfl) ?_; simp only [List.take_succ_cons, List.take_zero, List.drop_succ_cons, List.drop_zero])
                  iterate 11 still_step
                  refine wpStill_nil ?_
                  go_wp2_with fail
                  refine HREC.out.mono ?_
                  rintro e w7 ⟨v, rfl, hG⟩
                  obtain ⟨aj, hN7, hO7, hB7, hT7⟩ := HN6.out.gives (show w.heap.size ≤ w6.heap.size by omega) HQJ.out hG
                  have hOne7 := HONE6.out.turned HNJ.out hT7
                  have hs7 : w6.heap.size ≤ w7.heap.size := hT7.chg.size
                  obtain ⟨bk, hbk⟩ : ∃ bk, (qj.x.receive (some p.2)).1 = bk := ⟨_, rfl⟩
                  have hph7 := HPH.out
                  have hx7 : (M2.set j ⟨qj.g, aj, (qj.x.receive (some p.2)).2⟩).map Bx.x = (M2.map Bx.x).set j (qj.x.receive (some p.2)).2 := by rw [map_set_x]
                  rw [hbk] at hO7 hph7 hlb
                  rw [← hx7] at hph7
                  obtain ⟨ba, bc, rfl⟩ := hO7.sl
                  have HPH7 := Lib.hid hph7
                  have HN7 := Lib.hid hN7
                  have HO7 := Lib.hid hO7
                  have HONE7 := Lib.hid hOne7
                  have HB7 := Lib.hid (HB6.out.trans (below_ofDrew hB7))
                  have hB17 : B ≤ w7.heap.size := by omega
                  have hbk0 : bk.length = 0 := by rw [← hbk, HBK0.out]; rfl
                  have HBL := Lib.hid hbk0
                  clear hbk0
                  clear hG hN7 hO7 hB7 hT7 hOne7 hph7 hx7 hbk e0 e1 cj cbj
                  go_wp2_with (at_builtin; refine wpList_append_que _ rfl _ _ rfl HONE7.out _ _ (by omega) HO7.out rfl hlb hB17 rfl rfl ?_)
                  intro v8 w8 hq8 hc8
                  obtain ⟨a8, c8, rfl⟩ := hq8.len
                  have HQ8 := Lib.hid hq8
                  have HN8 := Lib.hid (hc8.que HN7.out)
                  have HB8 := Lib.hid (HB7.out.trans (hc8.below (by omega) (fun k o h => by have := h.1; omega)))
                  have hs8 := hc8.size
                  clear hq8 hc8
                  go_wp2
                  go_roundw
                  case rel => have hbk0 := HBL.out; exact ⟨pr2, bk, _, B, _, by go_num, by omega, hlb, HN8.out, HPH7.out, by omega, hB0, by omega, HQ8.out, HB8.out⟩
                  case measure => have hbk0 := HBL.out; simp [intOf, lenV]; omega
            · simp at hqs
        · have hie : i = k := by omega
          rw [hie] at hSt hCt
          have HNS := Lib.hid hNs
          have HST := Lib.hid (hSt.next hk6.1)
          have HCT := Lib.hid (hCt.next hk6.1)
          have HBW := Lib.hid hb
          clear hNs hSt hCt hb hie
          go_wp2
          go_roundw
          case rel => exact ⟨t + 1, pr, M, by omega, by omega, rfl, by go_num, HNS.out, HST.out.mono (by omega), HCT.out, HBW.out⟩
          case measure => simp [intOf]; omega
    · have hmore : (k : Int) < (pr : Int) := hCt.more hSt (by omega) hP11
      have HNS := Lib.hid hNs
      have HST := Lib.hid hSt
      have HBW := Lib.hid hb
      clear hNs hSt hCt hb
      go_wp2_with fail
      refine (pick_any ticks 60 _ hs.1 hs.2 (by decide)).mono ?_
      rintro e w2 ⟨rfl, rfl⟩
      go_wp2_with fail
      go_loopw [19] (fun s19 wr => ∃ (i : Nat), i ≤ k ∧ s19 = .int .i64 (i : Nat) ∧ Ns wr w.heap.size (.slice (some ⟨rg, 0, none⟩) k cp) M ∧ Below w.heap.size w wr)
        (fun s19 _ => 10 - (intOf s19).toNat)
      case atStart => exact ⟨0, Nat.zero_le _, rfl, HNS.out, HBW.out⟩
      case round =>
        clear HNS HBW hsz
        obtain ⟨i, hik, rfl, hNs, hb⟩ := hrel
        have hsz := hb.size
        by_cases hil : i < k
        · obtain ⟨q0, hq0⟩ : ∃ q0, M[i]? = some q0 := ⟨_, List.getElem?_eq_getElem (by have := HST.out.len; rw [List.length_map] at this; omega)⟩
          have cn := hNs.cell hq0
          have cb := hNs.box hq0
          obtain ⟨ov, hnode⟩ := hNs.nodeOf hq0
          obtain ⟨hst, _⟩ := HST.out.all i q0.x (x_at hq0)
          have hsee := see_any hst.calm.ok q0.a ov wr hnode
          have hself := hst.calm.self
          have e1 : q0.x.self.inc = 1 := by rw [hself]
          have e2 : q0.x.self.st = 1 := by rw [hself]
          have e3 := hst.dropped
          have wlen : ((q0.x.others.length : Nat) : Int) = (k : Int) - 1 := hst.calm.known_len hst.known
          have hmem : ∀ m ∈ q0.x.others, m.k.st = 1 ∧ m.k.inc = 1 := fun m hm => ⟨hst.alive hm, (hst.calm.oth m hm).1⟩
          have hl7 := hst.calm.ok.len
          have HSEE := Lib.hid hsee
          have HMEM := Lib.hid hmem
          have HNS := Lib.hid hNs
          have HBW := Lib.hid hb
          have HE := Lib.hid (And.intro e1 (And.intro e2 e3))
          clear hNs hq0 hb hnode hst hself hmem hsee e1 e2 e3
          go_wp2_with fail
          refine HSEE.out.mono ?_
          rintro e w7 ⟨v, rfl, hrow7, hb7⟩
          obtain ⟨va, vc, rfl⟩ := ownsRow_sl hrow7
          have hk7 := (keysAt_row hrow7).2
          have HK7 := Lib.hid hk7
          have HB7 := Lib.hid hb7
          have hsz7 := hb7.size
          obtain ⟨ln, hln⟩ : ∃ ln : Nat, q0.x.others.length = ln := ⟨_, rfl⟩
          have wl2 : ((ln : Int) == (k : Int) - 1) = true := by rw [← hln]; simpa using wlen
          unfold seeV
          rw [hln, HE.out.1, HE.out.2.1, HE.out.2.2]
          have HLN := Lib.hid hln
          have hln7 : ln ≤ 7 := by omega
          clear hrow7 hk7 hb7 hln wlen cn cb
          have HWL := Lib.hid (show (ln : Int) = (k : Int) - 1 by simpa using wl2)
          clear wl2
          go_wp2_with fail
          all_goals first | exact absurd HWL.out ‹¬ (ln : Int) = (k : Int) - 1› | skip
          rename_i hlk
          clear hlk
          go_loopw [21] (fun s21 wx => ∃ (j : Nat), j ≤ ln ∧ s21 = .int .i64 (j : Nat) ∧ Below w7.heap.size w7 wx ∧ wx.heap[w7.heap.size]? = some (.cells #[.int .i64 q0.x.clock, .int .i64 q0.x.self.id, .int .i64 1, .int .i64 1, .slice va ln vc, .int .i64 (prbTgt q0.x.probe), .int .i64 (q0.x.queue.length : Nat), .int .i64 (q0.x.relays.length : Nat), .int .i64 0, .int .i64 q0.x.lost] 46 (0, 0)))
            (fun s21 _ => 10 - (intOf s21).toNat)
          case atStart => exact ⟨0, Nat.zero_le _, rfl, (Below.refl _ _).alloc (Nat.le_refl _) _, heap_alloc_eq w7 _⟩
          case round =>
            obtain ⟨j, hj, rfl, hbr, hst⟩ := hrel
            have sc := cells_at hst
            have HBR := Lib.hid hbr
            have HSTT := Lib.hid hst
            by_cases hjl : j < ln
            · obtain ⟨m, hm⟩ : ∃ m, q0.x.others[j]? = some m := ⟨_, List.getElem?_eq_getElem (by rw [HLN.out]; exact hjl)⟩
              obtain ⟨h1, h2⟩ := HMEM.out m (List.mem_of_getElem? hm)
              obtain ⟨b, off, rfl, hlt, c0, c1, c2⟩ := HK7.out j m.k (by rw [List.getElem?_map, hm]; rfl)
              rw [← hbr.cell hlt] at c1 c2
              rw [h1] at c2
              rw [h2] at c1
              clear hbr hst hm c0 h1 h2
              go_wp2
              go_roundw
              case rel => exact ⟨j + 1, by omega, by go_num, HBR.out, HSTT.out⟩
              case measure => simp [intOf]; omega
            · clear hbr hst
              have HBB := Lib.hid (HB7.out.trans (HBR.out.mono hsz7))
              go_wp2
              go_roundw
              case rel => exact ⟨i + 1, by omega, by go_num, HNS.out.below HBB.out, HBW.out.trans (HBB.out.mono hsz)⟩
              case measure => simp [intOf]; omega
        · clear hNs
          have HBW := Lib.hid hb
          clear hb
          go_wp2
          go_ret
          exact ⟨by simp, HBW.out⟩
end Go.Proofs.YtfngdplkcppabaaGreat
