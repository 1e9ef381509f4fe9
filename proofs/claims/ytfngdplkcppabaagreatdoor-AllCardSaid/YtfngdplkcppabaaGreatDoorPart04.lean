/-
  Texts of the proof: Hold, App, Keep. No condition.
-/
import Derived.Test.YtfngdplkcppabaaGreatDoorPart01
import Derived.Test.YtfngdplkcppabaaGreatDoorPart03
import Derived.Maps.AppendAt
import Derived.Laws.CopyRow
import Derived.Deep.AppendLies
import Derived.Deep.Upon
set_option linter.all false
set_option maxRecDepth 100000
set_option maxHeartbeats 4000000
namespace Go.Proofs.YtfngdplkcppabaaGreatDoor
open Go.RowKit
theorem Jq.cells {w : World} {a : Option Addr} {l : List K} (h : Jq w a l) : Ki w a (Kd l) := by
 intro j v hj
 have hlt : j < (Kd l).length := by
  rcases Nat.lt_or_ge j (Kd l).length with h' | h'
  · exact h'
  · rw [List.getElem?_eq_none h'] at hj; cases hj
 rw [Jt] at hlt; have hi : j / 3 < l.length := by omega
 obtain ⟨b, off, e, hb, c0, c1, c2⟩ := h (j / 3) l[j / 3] (List.getElem?_eq_getElem hi); obtain ⟨k0, k1, k2⟩ := keyCells_at l (j / 3) l[j / 3] (List.getElem?_eq_getElem hi); refine ⟨b, off, e, hb, ?_⟩; have hj3 : j = j / 3 * 3 \/ j = j / 3 * 3 + 1 \/ j = j / 3 * 3 + 2 := by omega
 rcases hj3 with e' | e' | e'
 · rw [e'] at hj ⊢; rw [k0] at hj; cases hj; exact c0
 · rw [e'] at hj ⊢; rw [k1] at hj; cases hj; exact c1
 · rw [e'] at hj ⊢; rw [k2] at hj; cases hj; exact c2
theorem Ki.keys {w : World} {a : Option Addr} {l : List K} (h : Ki w a (Kd l)) : Jq w a l := by
 intro i k hk; obtain ⟨k0, k1, k2⟩ := keyCells_at l i k hk; obtain ⟨b, off, e, hb, c0⟩ := h _ _ k0; obtain ⟨b1, off1, e1, _, c1⟩ := h _ _ k1; obtain ⟨b2, off2, e2, _, c2⟩ := h _ _ k2; rw [e] at e1 e2; cases e1
 cases e2
 exact ⟨b, off, e, hb, c0, c1, c2⟩
theorem run_copy_cells {P : Program} {T e : TypeId} {s : Nat} (hu : P.underlying T = some (.slice e)) (hs : (P.info? e).map (·.size) = some s) (ty : TypeId) (w : World) (g n cap cap' : Nat) (a : Option Addr) (cs : List Value) (cur : Array Value)
  (hg : w.heap[g]? = some (.cells cur e (0, 0))) (hc : cur.size = n * s) (hn : cs.length = n * s) (ha : Ki w a cs) (h1 : ∀ v ∈ cs, v.oneCell' = true) :
  ∃ w', (Builtin.copy_ #[T, T] ty #[.slice (some ⟨g, 0, none⟩) n cap, .slice a n cap']).run P w = .ok (goInt n) w' /\ w'.heap[g]? = some (.cells cs.toArray e (0, 0)) /\ Chg (fun k _ => k = g) w w' /\ w'.heap.size = w.heap.size := by
 have hload : (Builtin.firstCells s n (.slice a n cap')).run P w = .ok cs.toArray w := by
  cases a with
  | none =>
   have : cs = [] := by
    cases cs with
    | nil => rfl
    | cons v r => obtain ⟨b, off, e', _⟩ := ha 0 v rfl; cases e'
   subst this; exact run_firstCells_none (P := P) w s n n cap'
  | some p =>
   by_cases h0 : cs = []
   · subst h0
     exact run_firstCells_some (P := P) w s n p n cap' [] hn (fun j v h => by simp at h)
   · refine run_firstCells_some (P := P) w s n p n cap' cs hn (fun j v h => ?_)
     obtain ⟨b, off, e', _, hcell⟩ := ha j v h; cases e'
     have ea : (⟨b, off, none⟩ : Addr).add j = ⟨b, off + j, none⟩ := by unfold Addr.add; split <;> simp_all
     rw [ea]; exact hcell
 have hst := run_storeCells_at P g 0 e cs 0 cur w hg (by omega) h1
 have hfull : (cur.toList.take (0 + 0) ++ cs ++ cur.toList.drop (0 + 0 + cs.length)).toArray = cs.toArray := by
  rw [List.drop_eq_nil_of_le (by simp; omega)]; simp
 rw [hfull] at hst; refine ⟨_, ?_, setRow_heap w g cur cs.toArray e _ hg, ⟨rfl, rfl, rfl, by simp [World.setRow], fun k o hk hne => by rw [setRow_other w g k _ hne]; exact hk⟩, by simp [World.setRow]⟩
 cases hq : P.info? e with
 | none => simp [hq] at hs
 | some i =>
  have hi : i.size = s := by simpa [hq] using hs
  simp [Builtin.copy_, run_underlying hu, Builtin.lenOf, sizeOf, typeInfo, hq, hi, hload, hst]
theorem keyCells_one (l : List K) : ∀ v ∈ Kd l, v.oneCell' = true := by
 intro v hv; simp only [Kd, List.mem_flatMap, List.mem_cons, List.not_mem_nil, or_false] at hv; obtain ⟨k, _, rfl | rfl | rfl⟩ := hv <;> rfl
theorem info_keys : (Tryz.prog.info? 46).map (fun i => (i.zero, i.size, i.bytes)) = some (some (.slice none 0 0), 1, 24) := by kernel_rfl
theorem size_key : (Tryz.prog.info? 76).map (·.size) = some 3 := by kernel_rfl
theorem make_keys2 (n : Nat) (hn : n <= 2000000) : ∃ cs : Array Value, (∀ W : World, (Instr.makeSlice 46 (.int .i64 (n : Int)) (.int .i64 (n : Int))).run Tryz.prog W = .ok (.slice (some ⟨W.heap.size, 0, none⟩) n n) (W.alloc (.cells cs 76))) /\ cs.size = n * 3 := by
 obtain ⟨i0, hi, hz0, hz1, hz2⟩ := info_parts info_key; refine ⟨madeCells (Value.agg #[.int .i64 0, .int .i64 0, .int .i64 0]).cells (n * 3), fun W => ?_, size_madeCells _ _⟩
 have hr := run_make (P := Tryz.prog) W 46 76 i0 _ Tryz.underlying46 hi hz0 .i64 .i64 n n (by omega) (Int.le_refl _) (by rw [hz2]; omega) (by omega)
 simp only [Int.toNat_natCast, hz1] at hr; exact hr
abbrev WB (w : World) (b : Nat) (f : Nat -> Value) : Prop := SB 41 21 w b f
theorem hold_any (b : Nat) (f : Nat -> Value) (lv wv : Value) (xs ys : List Value) (nl : Nat) (L : List K) (a : Option Addr) (n cap B0 : Nat) (w : World)
  (hW : WB w b f) (h16 : f 16 = lv) (h17 : f 17 = wv) (hl : w.ownsRow B0 46 1 lv nl xs) (hw : w.ownsRow B0 46 1 wv nl ys)
  (hne : ∀ g, lv.ownBlock = some g -> wv.ownBlock ≠ some g) (hnl : nl <= 1000000) (hL : L.length = n) (hn : n <= 1000000) (hB : B0 <= w.heap.size) (hk : Jq w a L) :
  Calls Tryz.prog 31 #[.pointer (some ⟨b, 0, none⟩), .slice a n cap] w fun e w' =>
   ∃ lv' wv' g c', e = .returned (.tuple #[]) /\ WB w' b (upd (upd f 16 lv') 17 wv') /\ w'.ownsRow B0 46 1 lv' (nl + 1) (xs ++ [.slice a n cap]) /\ w'.ownsRow B0 46 1 wv' (nl + 1) (ys ++ [.slice (some ⟨g, 0, none⟩) n c']) /\
    (∀ g, lv'.ownBlock = some g -> wv'.ownBlock ≠ some g) /\ w.heap.size <= g /\ w'.heap[g]? = some (.cells (Kd L).toArray 76 (0, 0)) /\
    Chg (fun k _ => k = b \/ lv.ownBlock = some k \/ wv.ownBlock = some k) w w' /\
    (∀ g, lv'.ownBlock = some g -> lv.ownBlock = some g \/ w.heap.size <= g) /\ (∀ g, wv'.ownBlock = some g -> wv.ownBlock = some g \/ w.heap.size <= g) := by
 have hlt := hW.lt; obtain ⟨cs, hmk, hcs⟩ := make_keys2 n (by omega)
 obtain ⟨w2, hcp, hg2, hch2, hsz2⟩ := run_copy_cells (P := Tryz.prog) Tryz.underlying46 size_key 3 (w.alloc (.cells cs 76)) w.heap.size n n cap a (Kd L) cs (Kc w _) hcs
  (by rw [Jt]; omega) (hk.below ((Below.refl _ w).alloc (Nat.le_refl _) _)).cells (keyCells_one L)
 rw [World.size_alloc] at hsz2; have hC2 : Chg (fun k _ => w.heap.size <= k) w w2 := ((Chg.refl _ w).alloc _).trans (hch2.mono (fun k o _ e => by omega))
 have HCS := Hd hcs; have HG2 := Hd hg2; have HC2 := Hd hC2; have HSZ2 := Hd hsz2; have HW := Hd hW; have HL := Hd hl; have HX := Hd hw; have HK := Hd hk; have HN := Hd hL; have H16 := Hd h16; have H17 := Hd h17; have HNE := Hd hne; clear hcs hg2 hC2 hch2 hsz2 hW hl hw hk hL h16 h17 hne; have hW2 : WB w2 b f := HW.out.chg HC2.out (fun _ e => by omega)
 have hL2 : w2.ownsRow B0 46 1 lv nl xs := Kq HL.out HC2.out (fun g o e => by have := (HL.out.lt g e).2; omega)
 have hX2 : w2.ownsRow B0 46 1 wv nl ys := Kq HX.out HC2.out (fun g o e => by have := (HX.out.lt g e).2; omega)
 have c16 : w2.cell? ⟨b, 16, none⟩ = some lv := by rw [<- H16.out]; exact hW2.cell (by omega)
 have fr2 := hW2.free 16; have hnew := Kt w2 [.slice a n cap] 46 (n := w2.heap.size) rfl; have k3 : nl + 1 <= maxLen := by unfold maxLen; omega
 have K3 := Hd k3; have HW2 := Hd hW2; have HL2 := Hd (hL2.alloc (.cells #[.slice a n cap] 46)); have HX2 := Hd hX2; have HNEW := Hd hnew; obtain ⟨i0, hi, hz0, hz1, hz2⟩ := info_parts info_keys; have hlt2 : b < w2.heap.size := hW2.lt; have hBw : B0 <= w2.heap.size := by have := HSZ2.out; omega
 clear hW2 hL2 hX2 hnew k3; go_enter Tryz.func31, Tryz.ntmps31; go_wp2_with (at_builtin; refine wpList_append_own_at _ rfl _ _ 38 rfl B0 46 i0 _ 1 24 Tryz.underlying38 hi hz0 hz1 hz2 rfl (by decide) lv nl _ rfl HL2.out ⟨w2.heap.size, 0, none⟩ 1 1 _ rfl rfl HNEW.out (by simp [Value.oneCell']) K3.out (by omega) (by simp; omega) ?_)
 intro lv' w3 hl3 hg3 _ hat3; obtain ⟨la, lc, rfl⟩ := Kg hl3; have hWa := HW2.out.alloc (.cells #[.slice a n cap] 46); have hn3 : lv.ownBlock ≠ some b := hWa.neOwn HL2.out (by decide)
 have hn4 : wv.ownBlock ≠ some b := HW2.out.neOwn HX2.out (by decide)
 have hW3 := hWa.grown hg3 hn3
 have hX3 : w3.ownsRow B0 46 1 wv nl ys := (HX2.out.alloc (.cells #[.slice a n cap] 46)).kept hg3 (by
  cases hb : wv.ownBlock with
  | none => exact .inl rfl
  | some g => exact .inr (fun e => HNE.out g e.symm hb))
 have hd3 : ∀ g, (Value.slice la (nl + 1) lc).ownBlock = some g -> wv.ownBlock ≠ some g := fun g e e' => by
  rcases hat3 with h | h
  · exact HNE.out g (h ▸ e) e'
  · rw [h] at e
    simp only [Option.some.injEq] at e; have := (HX2.out.lt g e').2; omega
 have hC3 : Chg (fun k _ => k = b \/ lv.ownBlock = some k \/ wv.ownBlock = some k) w w3 :=
  (HC2.out.mono (fun k o h e => by omega)).trans (((Chg.refl _ w2).alloc _).grown hg3 (fun k o e _ => .inr (.inl e)))
 have hgg3 : w3.heap[w.heap.size]? = some (.cells (Kd L).toArray 76 (0, 0)) := by
  rw [hg3.block _ (by have := HSZ2.out; simp; omega) (fun e => by have := (HL.out.lt _ e.symm).2; omega)]
  exact Kp _ HG2.out
 have hsz3 : w2.heap.size < w3.heap.size := by have := hg3.size; simp at this; omega
 obtain ⟨w4, hw4⟩ : ∃ w4, w3.setCell ⟨b, 16, none⟩ (.slice la (nl + 1) lc) = w4 := ⟨_, rfl⟩; have hW4 : WB w4 b (upd f 16 (.slice la (nl + 1) lc)) := by rw [<- hw4]; exact hW3.set (by omega) _
 have hX4 : w4.ownsRow B0 46 1 wv nl ys := by rw [<- hw4]; exact Kq hX3 ((Chg.refl (fun k _ => k = b) w3).setCell _ (fun _ _ => rfl)) (fun g o e h => hn4 (h ▸ e))
 have hl4 : w4.ownsRow B0 46 1 (.slice la (nl + 1) lc) (nl + 1) (xs ++ [.slice a n cap]) := by
  rw [<- hw4]; exact Kq hl3 ((Chg.refl (fun k _ => k = b) w3).setCell _ (fun _ _ => rfl)) (fun g o e h => hW3.neOwn hl3 (by decide) (h ▸ e))
 have hC4 : Chg (fun k _ => k = b \/ lv.ownBlock = some k \/ wv.ownBlock = some k) w w4 := by rw [<- hw4]; exact hC3.setCell _ (fun _ _ => .inl rfl)
 have hgg4 : w4.heap[w.heap.size]? = some (.cells (Kd L).toArray 76 (0, 0)) := by
  rw [<- hw4, Kj _ _ _ _ _ (by omega)]; exact hgg3
 have hsz4 : w2.heap.size < w4.heap.size := by rw [<- hw4]; simpa using hsz3
 have c16 := hW3.cell (i := 16) (by omega)
 have f16 := hW3.free 16; have c17 : w3.cell? ⟨b, 17, none⟩ = some wv := by rw [<- H17.out]; exact hW3.cell (by omega)
 have hnew := Kt w4 [.slice (some ⟨w.heap.size, 0, none⟩) n n] 46 (n := w3.heap.size) (by rw [<- hw4]; simp)
 have HW4 := Hd hW4; have HX4 := Hd (hX4.alloc (.cells #[.slice (some ⟨w.heap.size, 0, none⟩) n n] 46)); have HL4 := Hd hl4; have HC4 := Hd hC4; have HGG4 := Hd hgg4; have HNEW4 := Hd hnew; have HD3 := Hd hd3; have HA3 := Hd hat3; have HW4e := Hd hw4; have hBw4 : B0 <= w4.heap.size := by omega
 clear hl3 hg3 hat3 hWa hW3 hX3 hd3 hC3 hgg3 hW4 hX4 hl4 hC4 hgg4 hnew hw4; go_wp2_with (at_builtin; rw [HW4e.out]; refine wpList_append_own_at _ rfl _ _ 38 rfl B0 46 i0 _ 1 24 Tryz.underlying38 hi hz0 hz1 hz2 rfl (by decide) wv nl _ rfl HX4.out ⟨w3.heap.size, 0, none⟩ 1 1 _ rfl rfl HNEW4.out (by simp [Value.oneCell']) K3.out (by omega) (by simp; omega) ?_)
 intro wv' w5 hl5 hg5 _ hat5; obtain ⟨wa, wc, rfl⟩ := Kg hl5; have hWa := HW4.out.alloc (.cells #[.slice (some ⟨w.heap.size, 0, none⟩) n n] 46); have hW5 := hWa.grown hg5 hn4
 have hl5' : w5.ownsRow B0 46 1 (.slice la (nl + 1) lc) (nl + 1) (xs ++ [.slice a n cap]) := (HL4.out.alloc (.cells #[.slice (some ⟨w.heap.size, 0, none⟩) n n] 46)).kept hg5 (by
  cases hb : (Value.slice la (nl + 1) lc).ownBlock with
  | none => exact .inl rfl
  | some g => exact .inr (fun e => HD3.out g hb e.symm))
 have hd5 : ∀ g, (Value.slice la (nl + 1) lc).ownBlock = some g -> (Value.slice wa (nl + 1) wc).ownBlock ≠ some g := fun g e e' => by
  rcases hat5 with h | h
  · exact HD3.out g e (h ▸ e')
  · rw [h] at e'
    simp only [Option.some.injEq] at e'; have := (HL4.out.lt g e).2; omega
 have hC5 : Chg (fun k _ => k = b \/ lv.ownBlock = some k \/ wv.ownBlock = some k) w w5 := (HC4.out.alloc _).grown hg5 (fun k o e _ => .inr (.inr e))
 have hgg5 : w5.heap[w.heap.size]? = some (.cells (Kd L).toArray 76 (0, 0)) := by
  rw [hg5.block _ (by have := HSZ2.out; simp; omega) (fun e => by have := (HX.out.lt _ e.symm).2; omega)]
  exact Kp _ HGG4.out
 have f17 := hW5.free 17; have c17' := hW5.cell (i := 17) (by omega)
 have hne5 : ∀ g, (Value.slice la (nl + 1) lc).ownBlock = some g -> b ≠ g := fun g e h => hW5.neOwn hl5' (by decide) (h ▸ e)
 have hne6 : ∀ g, (Value.slice wa (nl + 1) wc).ownBlock = some g -> b ≠ g := fun g e h => hW5.neOwn hl5 (by decide) (h ▸ e)
 have HW5 := Hd (hW5.set (i := 17) (by omega) (.slice wa (nl + 1) wc))
 have HLL := Hd (Kq hl5' ((Chg.refl (fun k _ => k = b) w5).setCell (p := ⟨b, 17, none⟩) (.slice wa (nl + 1) wc) (fun _ _ => rfl)) (fun g o e h => hne5 g e h.symm))
 have HXX := Hd (Kq hl5 ((Chg.refl (fun k _ => k = b) w5).setCell (p := ⟨b, 17, none⟩) (.slice wa (nl + 1) wc) (fun _ _ => rfl)) (fun g o e h => hne6 g e h.symm))
 have HD5 := Hd hd5; have HA5 := Hd hat5; have HC5 := Hd (hC5.setCell (p := ⟨b, 17, none⟩) (.slice wa (nl + 1) wc) (fun _ _ => .inl rfl))
 have HGG5 := Hd hgg5; clear hl5 hg5 hat5 hWa hW5 hl5' hd5 hC5 hgg5 hne5 hne6; go_wp2; go_end0
 exact ⟨_, _, w.heap.size, n, rfl, HW5.out, HLL.out, HXX.out, HD5.out, Nat.le_refl _, by rw [Kj _ _ _ _ _ (by omega)]; exact HGG5.out, HC5.out,
  fun g e => HA3.out.imp (fun h => h.symm.trans e) (fun h => by have e2 := h.symm.trans e; have := HSZ2.out; simp at e2; omega),
  fun g e => HA5.out.imp (fun h => h.symm.trans e) (fun h => by have e2 := h.symm.trans e; have := HSZ2.out; simp at e2; omega)⟩
def AppTo (w w' : World) (v : Value) (g : Nat) : Prop := (v.ownBlock = some g /\ w.grownBy w' (some g)) \/ (g = w.heap.size /\ w.grownBy w' none)
theorem AppTo.grown {w w' : World} {v : Value} {g : Nat} (h : AppTo w w' v g) : w.grownBy w' v.ownBlock := by
 rcases h with ⟨e, h⟩ | ⟨_, h⟩
 · rw [e]; exact h
 · exact ⟨h.os, h.tape, h.output, h.size, fun k hk _ => h.block k hk (by simp)⟩
theorem AppTo.block {w w' : World} {v : Value} {g : Nat} (h : AppTo w w' v g) {k : Nat} (hk : k < w.heap.size) (hne : v.ownBlock ≠ some k) : w'.heap[k]? = w.heap[k]? := h.grown.block k hk (fun e => hne e.symm)
theorem AppTo.other {w w' : World} {v u : Value} {g B e s n : Nat} {xs : List Value} (h : AppTo w w' v g) (ho : w.ownsRow B e s u n xs) (hne : ∀ k, v.ownBlock = some k -> u.ownBlock ≠ some k) : w'.ownsRow B e s u n xs :=
 ho.kept h.grown (by
  cases hb : u.ownBlock with
  | none => exact .inl rfl
  | some k => exact .inr (fun e => hne k e.symm hb))
theorem AppTo.apart {w w' : World} {v u : Value} {g B e s n m c : Nat} {xs : List Value} (h : AppTo w w' v g) (ho : w.ownsRow B e s u n xs) (hne : ∀ k, v.ownBlock = some k -> u.ownBlock ≠ some k) : ∀ k, (Value.slice (some ⟨g, 0, none⟩) m c).ownBlock = some k -> u.ownBlock ≠ some k := by
 intro k hk; simp only [Value.ownBlock, Option.some.injEq] at hk; subst hk; rcases h with ⟨e, _⟩ | ⟨e, _⟩
 · exact hne g e
 · intro e'
   have := (ho.lt g e').2; omega
section
variable {P : Program} (w : World)
theorem run_append_to (t ty : TypeId) (base : Nat) (e : TypeId) (i : TypeInfo) (z : Value) (size bytes : Nat) (ht : P.underlying t = some (.slice e)) (hi : P.info? e = some i) (hz : i.zero = some z)
  (hsize : i.size = size) (hby : i.bytes = bytes) (hzs : z.cells.size = size) (hsz : 0 < size)
  (v : Value) (n : Nat) (xs : List Value) (hown : w.ownsRow base e size v n xs)
  (ad : Addr) (m c : Nat) (news : List Value) (hl : news.length = m * size) (hnews : ∀ j u, news[j]? = some u -> w.cell? (ad.add j) = some u) (h1 : ∀ u ∈ news, u.oneCell' = true)
  (hm : 0 < m) (h63 : n + m <= maxLen) (hbytes : (n + m) * bytes <= 140737488355328) (hbase : base <= w.heap.size) :
  ∃ g cap w', (Builtin.append_ #[t, t] ty #[v, .slice (some ad) m c]).run P w = .ok (.slice (some ⟨g, 0, none⟩) (n + m) cap) w' /\
   w'.ownsRow base e size (.slice (some ⟨g, 0, none⟩) (n + m) cap) (n + m) (xs ++ news) /\ AppTo w w' v g := by
 obtain ⟨g, cap, w', hr, h2, h3, h4, _⟩ := run_append_lies (P := P) w t ty base e i z size bytes ht hi hz hsize hby hzs hsz v n xs hown ad m c news hl hnews h1 hm h63 hbytes hbase w.heap.size rfl; refine ⟨g, cap, w', hr, h2, ?_⟩; rcases h4 with h4 | h4
 · exact .inl ⟨h4, by rw [<- h4]; exact h3⟩
 rcases hown.2 with ⟨rfl, _⟩ | ⟨b, cp, cur, rfl, hbg, hg, hnc, hcm, hcs, htake⟩
 · exact .inr ⟨h4, h3⟩
 · have hlt := Kb hg
   by_cases hroom : n + m <= cp
   · subst hsize
     have hfit : n * i.size + news.length <= cur.size := by rw [hl, hcs, <- Nat.add_mul]; exact Nat.mul_le_mul_right _ hroom
     have hr' := run_append_room (P := P) w t ty e i ht hi b n cp cur hg ad m c news hl hnews h1 hroom hfit; rw [hr'] at hr; simp only [Result.ok.injEq, Value.slice.injEq, Option.some.injEq, Addr.mk.injEq] at hr; have : b = g := hr.1.1.1; omega
   · subst hsize
     subst hby; have hsmall : n + m <= 9223372036854775807 := by simp only [maxLen] at h63; omega
     have hr' := run_append_grow (P := P) w t ty e i z ht hi hz ⟨b, 0, none⟩ n cp xs hown.1 (hown.cells (g := b) rfl) ad m c news hl hnews (by omega) (by omega) (growslice_fits (by omega) hbytes)
     rw [hr'] at hr; simp only [Result.ok.injEq] at hr; refine .inr ⟨h4, ?_⟩; rw [<- hr.2]; exact ⟨rfl, rfl, rfl, by simp, fun k hk _ => Below.heap_alloc w.drew _ k hk⟩
theorem wp_append_to {o : Oper} {a : Act} {K : Act -> World -> Prop} {Q : Exit -> Act -> World -> Prop} (s x : Operand) (t : TypeId)
  (ho : o.op = .call { callee := .builtin .append, args := #[s, x], argTypes := #[t, t] })
  (base : Nat) (e : TypeId) (i : TypeInfo) (z : Value) (size bytes : Nat) (ht : P.underlying t = some (.slice e)) (hi : P.info? e = some i) (hz : i.zero = some z)
  (hsize : i.size = size) (hby : i.bytes = bytes) (hzs : z.cells.size = size) (hsz : 0 < size)
  (v : Value) (n : Nat) (xs : List Value) (hs : a.eval s = v) (hown : w.ownsRow base e size v n xs)
  (ad : Addr) (m c : Nat) (news : List Value) (hx : a.eval x = .slice (some ad) m c) (hl : news.length = m * size) (hnews : ∀ j u, news[j]? = some u -> w.cell? (ad.add j) = some u) (h1 : ∀ u ∈ news, u.oneCell' = true)
  (hm : 0 < m) (h63 : n + m <= maxLen) (hbytes : (n + m) * bytes <= 140737488355328) (hbase : base <= w.heap.size)
  (h : ∀ g cap w', w'.ownsRow base e size (.slice (some ⟨g, 0, none⟩) (n + m) cap) (n + m) (xs ++ news) -> AppTo w w' v g -> K (a.put o.dst (.slice (some ⟨g, 0, none⟩) (n + m) cap)) w') : o.wp P a w K Q := by
 obtain ⟨g, cap, w', hr, h2, h3⟩ := run_append_to (P := P) w t o.type base e i z size bytes ht hi hz hsize hby hzs hsz v n xs hown ad m c news hl hnews h1 hm h63 hbytes hbase; unfold Oper.wp execOp; simp only [ho, resolve, invoke, builtin, Sem.run_bind, Sem.run_pure, Result.andThen_ok, List.map_toArray, List.map_cons, List.map_nil, hs, hx, hr]; exact h g cap w' h2 h3
theorem wpList_append_to {ops : Array Oper} {rest : List Oper} {o : Oper} {a : Act} {Q : Exit -> Act -> World -> Prop} (hgd : o.guard = none) (s x : Operand) (t : TypeId)
  (ho : o.op = .call { callee := .builtin .append, args := #[s, x], argTypes := #[t, t] })
  (base : Nat) (e : TypeId) (i : TypeInfo) (z : Value) (size bytes : Nat) (ht : P.underlying t = some (.slice e)) (hi : P.info? e = some i) (hz : i.zero = some z)
  (hsize : i.size = size) (hby : i.bytes = bytes) (hzs : z.cells.size = size) (hsz : 0 < size)
  (v : Value) (n : Nat) (xs : List Value) (hs : a.eval s = v) (hown : w.ownsRow base e size v n xs)
  (ad : Addr) (m c : Nat) (news : List Value) (hx : a.eval x = .slice (some ad) m c) (hl : news.length = m * size) (hnews : ∀ j u, news[j]? = some u -> w.cell? (ad.add j) = some u) (h1 : ∀ u ∈ news, u.oneCell' = true)
  (hm : 0 < m) (h63 : n + m <= maxLen) (hbytes : (n + m) * bytes <= 140737488355328) (hbase : base <= w.heap.size)
  (h : ∀ g cap w', w'.ownsRow base e size (.slice (some ⟨g, 0, none⟩) (n + m) cap) (n + m) (xs ++ news) -> AppTo w w' v g -> wpList P ops Q rest (a.put o.dst (.slice (some ⟨g, 0, none⟩) (n + m) cap)) w') :
  wpList P ops Q (o :: rest) a w := by
 refine wpList_plain hgd fun K hK => ?_
 exact wp_append_to w s x t ho base e i z size bytes ht hi hz hsize hby hzs hsz v n xs hs hown ad m c news hx hl hnews h1 hm h63 hbytes hbase (fun g cap w' h2 h3 => hK _ _ (h g cap w' h2 h3))
end
theorem Ji {P : Program} {ops : Array Oper} {o : Oper} {a : Act} {w : World} {K : Act -> World -> Prop} {Q : Exit -> Act -> World -> Prop} {E : Prop}
  (hg : o.guard = none) (s x : Operand) (t : TypeId) (hop : o.op = Op.call { callee := Callee.builtin Builtin.append, args := #[s, x], argTypes := #[t, t] })
  (base : Nat) (e : TypeId) (i : TypeInfo) (z : Value) (size bytes : Nat) (ht : P.underlying t = some (.slice e)) (hi : P.info? e = some i) (hz : i.zero = some z)
  (hsize : i.size = size) (hby : i.bytes = bytes) (hzs : z.cells.size = size) (hsz : 0 < size)
  (v : Value) (n : Nat) (xs : List Value) (hs : a.eval s = v) (hown : w.ownsRow base e size v n xs)
  (ad : Addr) (m c : Nat) (news : List Value) (hx : a.eval x = .slice (some ad) m c) (hl : news.length = m * size) (hnews : ∀ j u, news[j]? = some u -> w.cell? (ad.add j) = some u) (h1 : ∀ u ∈ news, u.oneCell' = true)
  (hm : 0 < m) (h63 : n + m <= maxLen) (hbytes : (n + m) * bytes <= 140737488355328) (hbase : base <= w.heap.size)
  (h : ∀ g cap w', w'.ownsRow base e size (.slice (some ⟨g, 0, none⟩) (n + m) cap) (n + m) (xs ++ news) -> AppTo w w' v g -> K (a.put o.dst (.slice (some ⟨g, 0, none⟩) (n + m) cap)) w') :
  if Region.wanted o (yielded ops a.tmps) = true then Oper.wp P o a w K Q else E := by
 have hw : Region.wanted o (yielded ops a.tmps) = true := by simp [Region.wanted, hg]
 rw [if_pos hw]; exact wp_append_to w s x t hop base e i z size bytes ht hi hz hsize hby hzs hsz v n xs hs hown ad m c news hx hl hnews h1 hm h63 hbytes hbase h
def AppAny (w w' : World) (v : Value) (a : Option Addr) : Prop := (w' = w /\ ∃ n c, v = .slice a n c) \/ ∃ g, a = some ⟨g, 0, none⟩ /\ AppTo w w' v g
theorem AppAny.grown {w w' : World} {v : Value} {a : Option Addr} (h : AppAny w w' v a) : w.grownBy w' v.ownBlock := by
 rcases h with ⟨rfl, _⟩ | ⟨g, _, h⟩
 · exact ⟨rfl, rfl, rfl, Nat.le_refl _, fun _ _ _ => rfl⟩
 · exact h.grown
theorem AppAny.block {w w' : World} {v : Value} {a : Option Addr} (h : AppAny w w' v a) {k : Nat} (hk : k < w.heap.size) (hne : v.ownBlock ≠ some k) : w'.heap[k]? = w.heap[k]? := h.grown.block k hk (fun e => hne e.symm)
theorem AppAny.other {w w' : World} {v u : Value} {a : Option Addr} {B e s n : Nat} {xs : List Value} (h : AppAny w w' v a) (ho : w.ownsRow B e s u n xs) (hne : ∀ k, v.ownBlock = some k -> u.ownBlock ≠ some k) : w'.ownsRow B e s u n xs :=
 ho.kept h.grown (by
  cases hb : u.ownBlock with
  | none => exact .inl rfl
  | some k => exact .inr (fun e => hne k e.symm hb))
theorem AppAny.where_ {w w' : World} {v : Value} {a : Option Addr} (h : AppAny w w' v a) {m c k : Nat} (hk : (Value.slice a m c).ownBlock = some k) : v.ownBlock = some k \/ k = w.heap.size := by
 rcases h with ⟨_, n, c', rfl⟩ | ⟨g, rfl, h⟩
 · left; cases a <;> simp_all [Value.ownBlock]
 · simp only [Value.ownBlock, Option.some.injEq] at hk
   subst hk; rcases h with ⟨h, _⟩ | ⟨h, _⟩
   · exact .inl h
   · exact .inr h
theorem AppAny.apart {w w' : World} {v u : Value} {a : Option Addr} {B e s n m c : Nat} {xs : List Value} (h : AppAny w w' v a) (ho : w.ownsRow B e s u n xs) (hne : ∀ k, v.ownBlock = some k -> u.ownBlock ≠ some k) : ∀ k, (Value.slice a m c).ownBlock = some k -> u.ownBlock ≠ some k := by
 intro k hk; rcases h.where_ hk with e | e
 · exact hne k e
 · intro e'
   have := (ho.lt k e').2; omega
section
variable {P : Program} (w : World)
theorem run_append_any (t ty : TypeId) (base : Nat) (e : TypeId) (i : TypeInfo) (z : Value) (size bytes : Nat) (ht : P.underlying t = some (.slice e)) (hi : P.info? e = some i) (hz : i.zero = some z)
  (hsize : i.size = size) (hby : i.bytes = bytes) (hzs : z.cells.size = size) (hsz : 0 < size)
  (v : Value) (n : Nat) (xs : List Value) (hown : w.ownsRow base e size v n xs)
  (a : Option Addr) (m c : Nat) (news : List Value) (hl : news.length = m * size) (hnews : Ki w a news) (h1 : ∀ u ∈ news, u.oneCell' = true)
  (h63 : n + m <= maxLen) (hbytes : (n + m) * bytes <= 140737488355328) (hbase : base <= w.heap.size) :
  ∃ a' cap w', (Builtin.append_ #[t, t] ty #[v, .slice a m c]).run P w = .ok (.slice a' (n + m) cap) w' /\
   w'.ownsRow base e size (.slice a' (n + m) cap) (n + m) (xs ++ news) /\ AppAny w w' v a' := by
 by_cases hm : m = 0
 · subst hm
   have : news = [] := List.eq_nil_of_length_eq_zero (by omega)
   subst this; subst hsize
   have hsrc : Src P i.size t (.slice a 0 c) 0 [] w := by
    cases a with
    | none => exact Src.ofNil w ht c
    | some ad => exact Src.ofSlice w ht ad 0 c [] (by simp) (fun j v h => by simp at h) (by simp)
   rcases hown.2 with ⟨rfl, rfl⟩ | ⟨g, cap, cur, rfl, hb, hg, hc, r⟩
   · exact ⟨none, 0, w, run_append_nothing w t t ty e i ht hi none 0 0 (Nat.le_refl _) _ hsrc, by simpa using hown, .inl ⟨rfl, 0, 0, rfl⟩⟩
   · exact ⟨_, cap, w, run_append_nothing w t t ty e i ht hi (some ⟨g, 0, none⟩) n cap hc _ hsrc, by simpa using hown, .inl ⟨rfl, n, cap, rfl⟩⟩
 · have hpos : 0 < news.length := by rw [hl]; exact Nat.mul_pos (by omega) hsz
   obtain ⟨b, off, ea, _⟩ := hnews 0 news[0] (List.getElem?_eq_getElem hpos); subst ea
   obtain ⟨g, cap, w', hr, h2, h3⟩ := run_append_to (P := P) w t ty base e i z size bytes ht hi hz hsize hby hzs hsz v n xs hown ⟨b, off, none⟩ m c news hl (fun j u hj => by
    obtain ⟨b', off', e', _, hc⟩ := hnews j u hj; cases e'
    have ea : (⟨b, off, none⟩ : Addr).add j = ⟨b, off + j, none⟩ := by unfold Addr.add; split <;> simp_all
    rw [ea]; exact hc) h1 (by omega) h63 hbytes hbase
   exact ⟨_, cap, w', hr, h2, .inr ⟨g, rfl, h3⟩⟩
theorem wp_append_any {o : Oper} {a : Act} {K : Act -> World -> Prop} {Q : Exit -> Act -> World -> Prop} (s x : Operand) (t : TypeId)
  (ho : o.op = .call { callee := .builtin .append, args := #[s, x], argTypes := #[t, t] })
  (base : Nat) (e : TypeId) (i : TypeInfo) (z : Value) (size bytes : Nat) (ht : P.underlying t = some (.slice e)) (hi : P.info? e = some i) (hz : i.zero = some z)
  (hsize : i.size = size) (hby : i.bytes = bytes) (hzs : z.cells.size = size) (hsz : 0 < size)
  (v : Value) (n : Nat) (xs : List Value) (hs : a.eval s = v) (hown : w.ownsRow base e size v n xs)
  (ad : Option Addr) (m c : Nat) (news : List Value) (hx : a.eval x = .slice ad m c) (hl : news.length = m * size) (hnews : Ki w ad news) (h1 : ∀ u ∈ news, u.oneCell' = true)
  (h63 : n + m <= maxLen) (hbytes : (n + m) * bytes <= 140737488355328) (hbase : base <= w.heap.size)
  (h : ∀ a' cap w', w'.ownsRow base e size (.slice a' (n + m) cap) (n + m) (xs ++ news) -> AppAny w w' v a' -> K (a.put o.dst (.slice a' (n + m) cap)) w') : o.wp P a w K Q := by
 obtain ⟨g, cap, w', hr, h2, h3⟩ := run_append_any (P := P) w t o.type base e i z size bytes ht hi hz hsize hby hzs hsz v n xs hown ad m c news hl hnews h1 h63 hbytes hbase; unfold Oper.wp execOp; simp only [ho, resolve, invoke, builtin, Sem.run_bind, Sem.run_pure, Result.andThen_ok, List.map_toArray, List.map_cons, List.map_nil, hs, hx, hr]; exact h g cap w' h2 h3
theorem Km {ops : Array Oper} {rest : List Oper} {o : Oper} {a : Act} {Q : Exit -> Act -> World -> Prop} (hgd : o.guard = none) (s x : Operand) (t : TypeId)
  (ho : o.op = .call { callee := .builtin .append, args := #[s, x], argTypes := #[t, t] })
  (base : Nat) (e : TypeId) (i : TypeInfo) (z : Value) (size bytes : Nat) (ht : P.underlying t = some (.slice e)) (hi : P.info? e = some i) (hz : i.zero = some z)
  (hsize : i.size = size) (hby : i.bytes = bytes) (hzs : z.cells.size = size) (hsz : 0 < size)
  (v : Value) (n : Nat) (xs : List Value) (hs : a.eval s = v) (hown : w.ownsRow base e size v n xs)
  (ad : Option Addr) (m c : Nat) (news : List Value) (hx : a.eval x = .slice ad m c) (hl : news.length = m * size) (hnews : Ki w ad news) (h1 : ∀ u ∈ news, u.oneCell' = true)
  (h63 : n + m <= maxLen) (hbytes : (n + m) * bytes <= 140737488355328) (hbase : base <= w.heap.size)
  (h : ∀ a' cap w', w'.ownsRow base e size (.slice a' (n + m) cap) (n + m) (xs ++ news) -> AppAny w w' v a' -> wpList P ops Q rest (a.put o.dst (.slice a' (n + m) cap)) w') :
  wpList P ops Q (o :: rest) a w := by
 refine wpList_plain hgd fun K hK => ?_
 exact wp_append_any w s x t ho base e i z size bytes ht hi hz hsize hby hzs hsz v n xs hs hown ad m c news hx hl hnews h1 h63 hbytes hbase (fun g cap w' h2 h3 => hK _ _ (h g cap w' h2 h3))
end
theorem own_setCell {w : World} {B e s n g cap : Nat} {xs : List Value} (h : w.ownsRow B e s (.slice (some ⟨g, 0, none⟩) n cap) n xs) (j : Nat) (u : Value) :
  (w.setCell ⟨g, j, none⟩ u).ownsRow B e s (.slice (some ⟨g, 0, none⟩) n cap) n (xs.set j u) := by
 refine ⟨by rw [List.length_set]; exact h.1, ?_⟩
 rcases h.2 with ⟨e', _⟩ | ⟨g', cap', cur, e', hB, hg, hc, hm, hs, ht⟩
 · cases e'
 · simp only [Value.slice.injEq, Option.some.injEq, Addr.mk.injEq] at e'
   obtain ⟨⟨rfl, _⟩, _, rfl⟩ := e'; refine .inr ⟨g, cap, _, rfl, hB, Kf hg, hc, hm, by rw [Array.size_setIfInBounds]; exact hs, ?_⟩
   rw [Array.toList_setIfInBounds, List.take_set, ht]
theorem keyCells_set (L : List K) (i : Nat) (k : K) (hi : i < L.length) : (((Kd L).set (i * 3) (.int .i64 k.id)).set (i * 3 + 1) (.int .i64 k.inc)).set (i * 3 + 2) (.int .i64 k.st) = Kd (L.set i k) := by
 induction L generalizing i with
 | nil => simp at hi
 | cons a L ih =>
  cases i with
  | zero => simp [Kd]
  | succ i =>
   have e : ∀ (a : K) (L : List K), Kd (a :: L) = .int .i64 a.id :: .int .i64 a.inc :: .int .i64 a.st :: Kd L := fun a L => rfl
   rw [List.set_cons_succ, e, e, <- ih i (by simpa using hi)]
   rw [show (i + 1) * 3 = i * 3 + 1 + 1 + 1 by omega]
   simp only [List.set_cons_succ]
theorem own_setKey {w : World} {B e n g cap : Nat} {L : List K} (h : w.ownsRow B e 3 (.slice (some ⟨g, 0, none⟩) n cap) n (Kd L)) {i : Nat} (hi : i < n) (k : K) :
  (((w.setCell ⟨g, i * 3, none⟩ (.int .i64 k.id)).setCell ⟨g, i * 3 + 1, none⟩ (.int .i64 k.inc)).setCell ⟨g, i * 3 + 2, none⟩ (.int .i64 k.st)).ownsRow B e 3 (.slice (some ⟨g, 0, none⟩) n cap) n (Kd (L.set i k)) := by
 have hlen : L.length = n := by have := h.1; rw [Jt] at this; omega
 rw [<- keyCells_set L i k (by omega)]
 exact own_setCell (own_setCell (own_setCell h _ _) _ _) _ _
def KeyIn (B : Nat) (w : World) (a : Option Addr) (L : List K) : Prop :=
 Ki w a (Kd L) /\ ∀ b off, a = some ⟨b, off, none⟩ -> L ≠ [] -> b < B /\ ∃ cs f, w.heap[b]? = some (.cells cs 76 f)
def HeldK (B : Nat) (w : World) (v u : Value) : Prop :=
 ∃ L a n cap a' cap', v = .slice a n cap /\ u = .slice a' n cap' /\ L.length = n /\ n <= 1000000 /\ KeyIn B w a L /\ KeyIn B w a' L
theorem KeyIn.chg {S : Nat -> Obj -> Prop} {B : Nat} {w w' : World} {a : Option Addr} {L : List K} (h : KeyIn B w a L) (hc : Chg S w w') (hS : ∀ k cs f, k < B -> w.heap[k]? = some (.cells cs 76 f) -> ¬ S k (.cells cs 76 f)) : KeyIn B w' a L := by
 by_cases hL : L = []
 · subst hL
   exact ⟨fun j v hj => by simp [Kd] at hj, fun b off e hn => absurd rfl hn⟩
 refine ⟨h.1.heap (fun b off e hb => ?_), fun b off e hn => ?_⟩
 · obtain ⟨hB, cs, f, hg⟩ := h.2 b off e hL
   have := hc.kept b _ hg (hS b cs f hB hg); exact ⟨this.trans hg.symm, Kb this⟩
 · obtain ⟨hB, cs, f, hg⟩ := h.2 b off e hL
   exact ⟨hB, cs, f, hc.kept b _ hg (hS b cs f hB hg)⟩
theorem KeyIn.mono {B C : Nat} {w : World} {a : Option Addr} {L : List K} (h : KeyIn B w a L) (hBC : B <= C) : KeyIn C w a L :=
 ⟨h.1, fun b off e hn => by obtain ⟨hB, r⟩ := h.2 b off e hn; exact ⟨by omega, r⟩⟩
theorem HeldK.chg {S : Nat -> Obj -> Prop} {B : Nat} {w w' : World} {v u : Value} (h : HeldK B w v u) (hc : Chg S w w') (hS : ∀ k cs f, k < B -> w.heap[k]? = some (.cells cs 76 f) -> ¬ S k (.cells cs 76 f)) : HeldK B w' v u := by
 obtain ⟨L, a, n, cap, a', cap', e1, e2, e3, e4, h1, h2⟩ := h; exact ⟨L, a, n, cap, a', cap', e1, e2, e3, e4, h1.chg hc hS, h2.chg hc hS⟩
theorem HeldK.mono {B C : Nat} {w : World} {v u : Value} (h : HeldK B w v u) (hBC : B <= C) : HeldK C w v u := by
 obtain ⟨L, a, n, cap, a', cap', e1, e2, e3, e4, h1, h2⟩ := h; exact ⟨L, a, n, cap, a', cap', e1, e2, e3, e4, h1.mono hBC, h2.mono hBC⟩
theorem KeyIn.of_row {w : World} {B n cap : Nat} {a : Option Addr} {L : List K} (h : w.ownsRow B 76 3 (.slice a n cap) n (Kd L)) : KeyIn w.heap.size w a L := by
 refine ⟨Ki.row h, fun b off e hn => ?_⟩
 rcases h.2 with ⟨e', e''⟩ | ⟨g, cap', cur, e', _, hg, _⟩
 · simp only [Value.slice.injEq] at e'
   rw [e'.1] at e; cases e
 · simp only [Value.slice.injEq] at e'
   rw [e'.1] at e; cases e; exact ⟨Kb hg, _, _, hg⟩
theorem KeyIn.of_block {w : World} {g : Nat} {L : List K} (h : w.heap[g]? = some (.cells (Kd L).toArray 76 (0, 0))) : KeyIn w.heap.size w (some ⟨g, 0, none⟩) L := by
 refine ⟨fun j v hj => ⟨g, 0, rfl, Kb h, by rw [Nat.zero_add, Ka h]; simpa using hj⟩, fun b off e hn => ?_⟩
 cases e
 exact ⟨Kb h, _, _, h⟩
theorem KeyIn.front {B : Nat} {w : World} {a : Option Addr} {L M : List K} (h : KeyIn B w a (L ++ M)) : KeyIn B w a L := by
 have e : Kd (L ++ M) = Kd L ++ Kd M := by simp [Kd]
 refine ⟨fun j v hj => h.1 j v ?_, fun b off e hn => h.2 b off e (by simp [hn])⟩
 rw [e, List.getElem?_append_left]
 · exact hj
 · rcases Nat.lt_or_ge j (Kd L).length with h' | h'
   · exact h'
   · rw [List.getElem?_eq_none h'] at hj; cases hj
theorem KeyIn.keys {B : Nat} {w : World} {a : Option Addr} {L : List K} (h : KeyIn B w a L) : Jq w a L := h.1.keys
theorem keep_any (b : Nat) (f : Nat -> Value) (lv wv : Value) (xs ys : List Value) (nl : Nat) (mark : Int) (L : List K) (a : Option Addr) (n cap B0 Bl : Nat) (w : World)
  (hW : WB w b f) (h16 : f 16 = lv) (h17 : f 17 = wv) (h20 : f 20 = .int .i64 mark) (hl : w.ownsRow B0 46 1 lv nl xs) (hw : w.ownsRow B0 46 1 wv nl ys)
  (hne : ∀ g, lv.ownBlock = some g -> wv.ownBlock ≠ some g) (hnl : nl <= 900000) (hm : 0 <= mark /\ mark <= 1000000000) (hn : n <= 900000) (hB : B0 <= w.heap.size) (hBl : Bl <= w.heap.size)
  (hL : w.ownsRow Bl 76 3 (.slice a n cap) n (Kd L)) :
  Calls Tryz.prog 15 #[.pointer (some ⟨b, 0, none⟩), .slice a n cap] w fun e w' =>
   ∃ lv' wv' v2 u1 u2, e = .returned (.tuple #[]) /\ WB w' b (upd (upd (upd f 16 lv') 17 wv') 20 (.int .i64 (mark + n + 2))) /\
    w'.ownsRow B0 46 1 lv' (nl + 2) (xs ++ [.slice a n cap, v2]) /\ w'.ownsRow B0 46 1 wv' (nl + 2) (ys ++ [u1, u2]) /\
    (∀ g, lv'.ownBlock = some g -> wv'.ownBlock ≠ some g) /\ HeldK w'.heap.size w' (.slice a n cap) u1 /\ HeldK w'.heap.size w' v2 u2 /\
    Chg (fun k _ => k = b \/ lv.ownBlock = some k \/ wv.ownBlock = some k \/ (Value.slice a n cap).ownBlock = some k \/ w.heap.size <= k) w w' := by
 have HW := Hd hW; have HL := Hd hl; have HX := Hd hw; have HK := Hd hL; have H16 := Hd h16; have H17 := Hd h17; have H20 := Hd h20; have HNE := Hd hne; clear hW hl hw hL h16 h17 h20 hne; go_enter Tryz.func15, Tryz.ntmps15; go_wp2_with fail
 go_loopw [4] (fun i wr => ∃ (k : Nat) (L' : List K), k <= n /\ i = .int .i64 k /\ WB wr b (upd f 20 (.int .i64 (mark + k))) /\ wr.ownsRow Bl 76 3 (.slice a n cap) n (Kd L') /\ wr.heap.size = w.heap.size /\
   Chg (fun k _ => k = b \/ (Value.slice a n cap).ownBlock = some k) w wr) (fun i _ => n - (intOf i).toNat)
 case atStart => exact ⟨0, L, Nat.zero_le _, rfl, HW.out.congr (fun i _ => by
  by_cases e : i = 20
  · subst e; rw [Ku, H20.out]; simp
  · rw [Kh _ _ _ e]), HK.out, rfl, Chg.refl _ _⟩
 case round =>
  obtain ⟨k, L', hkn, rfl, hWr, hLr, hszr, hCr⟩ := hrel; by_cases hlt : k < n
  · obtain ⟨g, c', e, hBg, hnc, hcm, hlen, hKB⟩ := KB.of_row hLr (by omega)
    simp only [Value.slice.injEq] at e; obtain ⟨rfl, _, rfl⟩ := e; obtain ⟨mk, hmk⟩ : ∃ mk : Int, mark + k = mk := ⟨_, rfl⟩; rw [hmk] at hWr; have hmkb : 0 <= mk /\ mk <= 2000000000 := by omega
    have c20 := hWr.cell (i := 20) (by omega)
    rw [Ku] at c20; have f20 := hWr.free 20; have d0 := hKB.cell0 hlt; have d1 := hKB.cell1 hlt; have d2 := hKB.cell2 hlt; have fr := hKB.free; have hne1 : b ≠ g := fun e => hWr.neOwn hLr (by decide) (by rw [e]; rfl)
    have w1 : IntKind.i64.wrap (mk + 1) = mk + 1 := IntWalk.i64_in _ (by omega)
    have w2 : IntKind.i64.wrap (-(mk + 1)) = -(mk + 1) := IntWalk.i64_in _ (by omega)
    have HWr := Hd hWr; have HLr := Hd hLr; have HMK := Hd hmk; have HCr := Hd hCr; have HSZ := Hd hszr; clear hWr hLr hmk hCr hszr hKB; go_wp2_with fail
    refine ⟨⟨k + 1, L'.set k ⟨-(mk + 1), 0, 0⟩, by omega, by go_num, ?_, ?_, by simpa using HSZ.out, ?_⟩, by simp [intOf]; omega⟩
    · have e : mark + ((k + 1 : Nat) : Int) = mk + 1 := by rw [<- HMK.out]; omega
      rw [e]; have h := (((HWr.out.set (i := 20) (by omega) (.int .i64 (mk + 1))).other (i := k * 3) (fun e => hne1 e.symm) (.int .i64 (-(mk + 1)))).other (i := k * 3 + 1) (fun e => hne1 e.symm) (.int .i64 0)).other (i := k * 3 + 2) (fun e => hne1 e.symm) (.int .i64 0)
      exact h.congr (fun i _ => by
       by_cases e : i = 20
       · rw [e, Ku, Ku]
       · rw [Kh _ _ _ e, Kh _ _ _ e, Kh _ _ _ e])
    · exact own_setKey (Kq HLr.out ((Chg.refl (fun k _ => k = b) wr).setCell (p := ⟨b, 20, none⟩) (.int .i64 (mk + 1)) (fun _ _ => rfl)) (fun g' o e h => by
       simp only [Value.ownBlock, Option.some.injEq] at e; omega)) hlt ⟨-(mk + 1), 0, 0⟩
    · exact (((HCr.out.setCell (p := ⟨b, 20, none⟩) _ (fun _ _ => .inl rfl)).setCell (p := ⟨g, k * 3, none⟩) _ (fun _ _ => .inr rfl)).setCell (p := ⟨g, k * 3 + 1, none⟩) _ (fun _ _ => .inr rfl)).setCell (p := ⟨g, k * 3 + 2, none⟩) _ (fun _ _ => .inr rfl)
  · have hk' : k = n := by omega
    subst hk'; clear hlt; obtain ⟨mk, hmk⟩ : ∃ mk : Int, mark + k = mk := ⟨_, rfl⟩; rw [hmk] at hWr; have hmkb : 0 <= mk /\ mk <= 2000000000 := by omega
    have c20 := hWr.cell (i := 20) (by omega)
    rw [Ku] at c20; have f20 := hWr.free 20; have w1 : IntKind.i64.wrap (mk + 2) = mk + 2 := IntWalk.i64_in _ (by omega)
    have w2 : IntKind.i64.wrap (1 - (mk + 2)) = 1 - (mk + 2) := IntWalk.i64_in _ (by omega)
    have w3 : IntKind.i64.wrap (-(mk + 2)) = -(mk + 2) := IntWalk.i64_in _ (by omega)
    have HWr := Hd hWr; have HLr := Hd hLr; have HMK := Hd hmk; have HCr := Hd hCr; have HSZ := Hd hszr; clear hWr hLr hmk hCr hszr; obtain ⟨wb, hwb⟩ : ∃ wb, wr.setCell ⟨b, 20, none⟩ (.int .i64 (mk + 2)) = wb := ⟨_, rfl⟩; have hWb : WB wb b (upd (upd f 20 (.int .i64 mk)) 20 (.int .i64 (mk + 2))) := by rw [<- hwb]; exact HWr.out.set (by omega) _
    have hLb : wb.ownsRow Bl 76 3 (.slice a k cap) k (Kd L') := by
     rw [<- hwb]; exact Kq HLr.out ((Chg.refl (fun k _ => k = b) wr).setCell (p := ⟨b, 20, none⟩) (.int .i64 (mk + 2)) (fun _ _ => rfl)) (fun g' o e h => HWr.out.neOwn HLr.out (by decide) (h ▸ e))
    have hnew := Kt wb [.int .i64 (1 - (mk + 2)), .int .i64 0, .int .i64 0, .int .i64 (-(mk + 2)), .int .i64 0, .int .i64 0] 76 (n := wr.heap.size) (by rw [<- hwb]; simp)
    have HWB := Hd hWb; have HLB := Hd ((hLb.alloc (.cells #[.int .i64 (1 - (mk + 2)), .int .i64 0, .int .i64 0, .int .i64 (-(mk + 2)), .int .i64 0, .int .i64 0] 76)).drew); have HNEW : Hid (∀ j u, [Value.int .i64 (1 - (mk + 2)), .int .i64 0, .int .i64 0, .int .i64 (-(mk + 2)), .int .i64 0, .int .i64 0][j]? = some u -> (wb.alloc (.cells #[.int .i64 (1 - (mk + 2)), .int .i64 0, .int .i64 0, .int .i64 (-(mk + 2)), .int .i64 0, .int .i64 0] 76)).drew.cell? ((⟨wr.heap.size, 0, none⟩ : Addr).add j) = some u) := hnew; have HWBe := Hd hwb; have k3 : k + 2 <= maxLen := by unfold maxLen; omega
    have K3 := Hd k3; obtain ⟨i0, hi, hz0, hz1, hz2⟩ := info_parts info_key; clear hWb hLb hnew hwb k3; go_wp2_with fail
    rw [HWBe.out]; have cb20 := HWB.out.cell (i := 20) (by omega)
    rw [Ku] at cb20; have hszb : wb.heap.size = wr.heap.size := by rw [<- HWBe.out]; simp
    go_region_law (refine Ji rfl _ _ _ rfl Bl 76 i0 _ 3 24 Tryz.underlying46 hi hz0 hz1 hz2 rfl (by decide) (.slice a k cap) k _ rfl HLB.out ⟨wr.heap.size, 0, none⟩ 2 2 _ rfl rfl HNEW.out (by simp [Value.oneCell']) (by omega) K3.out (by omega) (by have := HSZ.out; simp; omega) ?_; intro gg gc w4 hl4 hto4)
    all_goals
     have hL4 : w4.ownsRow Bl 76 3 (.slice (some ⟨gg, 0, none⟩) (k + 2) gc) (k + 2) (Kd (L' ++ [⟨1 - (mk + 2), 0, 0⟩, ⟨-(mk + 2), 0, 0⟩])) := by
      have e : Kd (L' ++ [⟨1 - (mk + 2), 0, 0⟩, ⟨-(mk + 2), 0, 0⟩]) = Kd L' ++ [.int .i64 (1 - (mk + 2)), .int .i64 0, .int .i64 0, .int .i64 (-(mk + 2)), .int .i64 0, .int .i64 0] := by simp [Kd]
      rw [e]; exact hl4
     have hWx := HWB.out.alloc (.cells #[.int .i64 (1 - (mk + 2)), .int .i64 0, .int .i64 0, .int .i64 (-(mk + 2)), .int .i64 0, .int .i64 0] 76); have hnb : (Value.slice a k cap).ownBlock ≠ some b := HWr.out.neOwn HLr.out (by decide)
     have hW4 : WB w4 b (upd (upd f 20 (.int .i64 mk)) 20 (.int .i64 (mk + 2))) := SB.grown (w := (wb.alloc (.cells #[.int .i64 (1 - (mk + 2)), .int .i64 0, .int .i64 0, .int .i64 (-(mk + 2)), .int .i64 0, .int .i64 0] 76)).drew) hWx hto4.grown hnb; have hKl : KeyIn w4.heap.size w4 (some ⟨gg, 0, none⟩) (L' ++ [⟨1 - (mk + 2), 0, 0⟩, ⟨-(mk + 2), 0, 0⟩]) := KeyIn.of_row hL4
     have hKa : KeyIn w4.heap.size w4 a L' := by
      rcases hto4 with ⟨e, hg⟩ | ⟨e, hg⟩
      · have ea : a = some ⟨gg, 0, none⟩ := by
         rcases HLr.out.2 with ⟨e', _⟩ | ⟨g', cp', cur, e', _⟩
         · simp only [Value.slice.injEq] at e'; rw [e'.1] at e; simp [Value.ownBlock] at e
         · simp only [Value.slice.injEq] at e'; rw [e'.1] at e ⊢; simp only [Value.ownBlock, Option.some.injEq] at e; rw [e]
        rw [ea]; exact hKl.front
      · exact KeyIn.of_row (cap := cap) (n := k) (HLB.out.kept hg (by cases (Value.slice a k cap).ownBlock <;> simp))
     have hC4 : Chg (fun x _ => x = b \/ (Value.slice a k cap).ownBlock = some x \/ w.heap.size <= x) w w4 :=
      (((HCr.out.mono (fun x o _ h => h.elim .inl (fun h => .inr (.inl h)))).trans (by rw [<- HWBe.out]; exact (Chg.refl _ wr).setCell _ (fun _ _ => .inl rfl))).alloc _).drew.grown hto4.grown (fun x o e _ => .inr (.inl e))
     have hrow4 : ∀ (v : Value) (n' : Nat) (zs : List Value), w.ownsRow B0 46 1 v n' zs -> w4.ownsRow B0 46 1 v n' zs := fun v n' zs h => by
      refine Kq h hC4 (fun g o e hx => ?_)
      rcases hx with hx | hx | hx
      · exact HW.out.neOwn h (by decide) (hx ▸ e)
      · obtain ⟨_, cur, hgv⟩ := Ke h e
        obtain ⟨_, cur', hgv'⟩ := Ke HK.out hx; rw [hgv] at hgv'; simp only [Option.some.injEq, Obj.cells.injEq] at hgv'; exact absurd hgv'.2.1 (by decide)
      · have := (h.lt g e).2; omega
     have h16' : upd (upd f 20 (.int .i64 mk)) 20 (.int .i64 (mk + 2)) 16 = lv := by rw [Kh _ _ _ (by omega), Kh _ _ _ (by omega)]; exact H16.out
     have h17' : upd (upd f 20 (.int .i64 mk)) 20 (.int .i64 (mk + 2)) 17 = wv := by rw [Kh _ _ _ (by omega), Kh _ _ _ (by omega)]; exact H17.out
     have hlen : L'.length = k := by have := HLr.out.1; rw [Jt] at this; omega
     have hB4 : w.heap.size <= w4.heap.size := hC4.size; have hcon := hold_any b _ lv wv xs ys nl L' a k cap B0 w4 hW4 h16' h17' (hrow4 _ _ _ HL.out) (hrow4 _ _ _ HX.out) HNE.out (by omega) hlen (by omega) (by omega) hKa.keys
     have HW4 := Hd hW4; have HL4 := Hd (hrow4 _ _ _ HL.out); have HX4 := Hd (hrow4 _ _ _ HX.out); have HKl := Hd hKl; have HKa := Hd hKa; have HC4 := Hd hC4; have HCON := Hd hcon; clear hWx hW4 hKl hKa hC4 hrow4 h16' h17' hcon hL4 hl4 hto4; go_wp2_with fail
     refine HCON.out.mono ?_; rintro e w5 ⟨lv5, wv5, g5, c5, rfl, hW5, hl5, hw5, hne5, hg5, hgg5, hC5, hla5, hwa5⟩; obtain ⟨F4, hF4⟩ : ∃ F, upd (upd f 20 (.int .i64 mk)) 20 (.int .i64 (mk + 2)) = F := ⟨_, rfl⟩; rw [hF4] at hW5
     have hno : ∀ (W : World) (fW : Nat -> Value) (v v' : Value) (m m' : Nat) (zs zs' : List Value), WB W b fW -> W.ownsRow B0 46 1 v m zs -> W.ownsRow B0 46 1 v' m' zs' ->
       ∀ x cs fr, x < W.heap.size -> W.heap[x]? = some (.cells cs 76 fr) -> ¬ (x = b \/ v.ownBlock = some x \/ v'.ownBlock = some x) := by
      intro W fW v v' m m' zs zs' hb h1 h2 x cs fr _ hx hS; rcases hS with rfl | hS | hS
      · obtain ⟨cs', hb'⟩ := hb.block
        rw [hb'] at hx; simp only [Option.some.injEq, Obj.cells.injEq] at hx; exact absurd hx.2.1 (by decide)
      · obtain ⟨_, cur, hv⟩ := Ke h1 hS
        rw [hv] at hx; simp only [Option.some.injEq, Obj.cells.injEq] at hx; exact absurd hx.2.1 (by decide)
      · obtain ⟨_, cur, hv⟩ := Ke h2 hS
        rw [hv] at hx; simp only [Option.some.injEq, Obj.cells.injEq] at hx; exact absurd hx.2.1 (by decide)
     have hWW4 := HW4.out; have hKa5 := HKa.out.chg hC5 (hno w4 _ lv wv nl nl xs ys HW4.out HL4.out HX4.out); have hKl5 := HKl.out.chg hC5 (hno w4 _ lv wv nl nl xs ys HW4.out HL4.out HX4.out); have hKg5 : KeyIn w5.heap.size w5 (some ⟨g5, 0, none⟩) L' := KeyIn.of_block hgg5; have hsz5 := hC5.size; have hcon := hold_any b _ lv5 wv5 _ _ (nl + 1) (L' ++ [⟨1 - (mk + 2), 0, 0⟩, ⟨-(mk + 2), 0, 0⟩]) (some ⟨gg, 0, none⟩) (k + 2) gc B0 w5 hW5 (by rw [Kh _ _ _ (by omega), Ku]) (Ku _ _ _) hl5 hw5 hne5 (by omega) (by simp; omega) (by omega) (by omega) hKl5.keys
     have HWW5 := Hd (hno w5 _ lv5 wv5 _ _ _ _ hW5 hl5 hw5); have HKa5 := Hd hKa5; have HKl5 := Hd hKl5; have HKg5 := Hd hKg5; have HC5 := Hd hC5; have HCON5 := Hd hcon; have HF4 := Hd hF4; have HLA5 := Hd hla5; have HWA5 := Hd hwa5; clear hla5 hwa5 hW5 hl5 hw5 hne5 hgg5 hC5 hno hWW4 hKa5 hKl5 hKg5 hcon hF4; go_wp2_with fail
     refine HCON5.out.mono ?_; rintro e w6 ⟨lv6, wv6, g6, c6, rfl, hW6, hl6, hw6, hne6, hg6, hgg6, hC6, _, _⟩; have hKa6 := (HKa5.out.mono hsz5).chg hC6 HWW5.out; have hKl6 := (HKl5.out.mono hsz5).chg hC6 HWW5.out; have hKg6 := HKg5.out.chg hC6 HWW5.out; have hKh6 : KeyIn w6.heap.size w6 (some ⟨g6, 0, none⟩) (L' ++ [⟨1 - (mk + 2), 0, 0⟩, ⟨-(mk + 2), 0, 0⟩]) := KeyIn.of_block hgg6; have hsz6 := hC6.size
     have hfin : WB w6 b (upd (upd (upd f 16 lv6) 17 wv6) 20 (.int .i64 (mark + k + 2))) := hW6.congr (fun i _ => by
      rw [<- HF4.out, HMK.out]; simp only [upd]; by_cases e0 : i = 20
      · subst e0; simp
      · by_cases e1 : i = 17
        · subst e1; simp
        · by_cases e2 : i = 16
          · subst e2; simp
          · simp [e0, e1, e2])
     have hCF : Chg (fun x _ => x = b \/ lv.ownBlock = some x \/ wv.ownBlock = some x \/ (Value.slice a k cap).ownBlock = some x \/ w.heap.size <= x) w w6 := by
      refine ((HC4.out.mono (fun x o _ h => ?_)).trans (HC5.out.mono (fun x o _ h => ?_))).trans (hC6.mono (fun x o _ h => ?_))
      · rcases h with h | h | h
        · exact .inl h
        · exact .inr (.inr (.inr (.inl h)))
        · exact .inr (.inr (.inr (.inr h)))
      · rcases h with h | h | h
        · exact .inl h
        · exact .inr (.inl h)
        · exact .inr (.inr (.inl h))
      · rcases h with h | h | h
        · exact .inl h
        · rcases HLA5.out x h with h | h
          · exact .inr (.inl h)
          · exact .inr (.inr (.inr (.inr (by omega))))
        · rcases HWA5.out x h with h | h
          · exact .inr (.inr (.inl h))
          · exact .inr (.inr (.inr (.inr (by omega))))
     have HFIN := Hd hfin; have HCF := Hd hCF; have Hl6 := Hd hl6; have Hw6 := Hd hw6; have Hne6 := Hd hne6; have HH1 : Hid (HeldK w6.heap.size w6 (.slice a k cap) (.slice (some ⟨g5, 0, none⟩) k c5)) := ⟨L', a, k, cap, _, c5, rfl, rfl, hlen, by omega, hKa6.mono hsz6, hKg6.mono hsz6⟩
     have HH2 : Hid (HeldK w6.heap.size w6 (.slice (some ⟨gg, 0, none⟩) (k + 2) gc) (.slice (some ⟨g6, 0, none⟩) (k + 2) c6)) := ⟨_, _, k + 2, gc, _, c6, rfl, rfl, by simp; omega, by omega, hKl6.mono hsz6, hKh6⟩
     clear hW6 hl6 hw6 hne6 hgg6 hC6 hKa6 hKl6 hKg6 hKh6 hfin hCF; go_wp2; go_end0
     exact ⟨lv6, wv6, _, _, _, rfl, HFIN.out, by simpa using Hl6.out, by simpa using Hw6.out, Hne6.out, HH1.out, HH2.out, HCF.out⟩
