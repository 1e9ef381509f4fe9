/-
  Texts of the proof: KeepO, Sent, Sends, Pat. No condition.
-/
import Derived.Test.YtfngdplkcppabaaGreatDoorPart01
import Derived.Test.YtfngdplkcppabaaGreatDoorPart26
import Derived.Test.YtfngdplkcppabaaGreatDoorPart17
import Derived.Test.YtfngdplkcppabaaGreatDoorPart07
import Derived.Test.YtfngdplkcppabaaGreatDoorPart15
import Derived.Test.YtfngdplkcppabaaGreatDoorPart23
import Derived.Test.YtfngdplkcppabaaGreatDoorPart24
set_option linter.all false
set_option maxRecDepth 100000
set_option maxHeartbeats 4000000
namespace Go.Proofs.YtfngdplkcppabaaGreatDoor
open Go.RowKit
theorem rpCells_set (L : List (Int × ByteArray)) (i : Nat) (k : Int × ByteArray) (hi : i < L.length) : ((Kk L).set (i * 2) (.int .i64 k.1)).set (i * 2 + 1) (.string k.2) = Kk (L.set i k) := by
 induction L generalizing i with
 | nil => simp at hi
 | cons a L ih =>
  cases i with
  | zero => simp [Kk]
  | succ i =>
   have e : ∀ (a : Int × ByteArray) (L : List (Int × ByteArray)), Kk (a :: L) = .int .i64 a.1 :: .string a.2 :: Kk L := fun a L => rfl
   rw [List.set_cons_succ, e, e, <- ih i (by simpa using hi)]
   rw [show (i + 1) * 2 = i * 2 + 1 + 1 by omega]
   simp only [List.set_cons_succ]
theorem own_setPk {w : World} {B e n g cap : Nat} {L : List (Int × ByteArray)} (h : w.ownsRow B e 2 (.slice (some ⟨g, 0, none⟩) n cap) n (Kk L)) {i : Nat} (hi : i < n) (k : Int × ByteArray) :
  ((w.setCell ⟨g, i * 2, none⟩ (.int .i64 k.1)).setCell ⟨g, i * 2 + 1, none⟩ (.string k.2)).ownsRow B e 2 (.slice (some ⟨g, 0, none⟩) n cap) n (Kk (L.set i k)) := by
 have hlen : L.length = n := by have := h.1; rw [rpCells_length] at this; omega
 rw [<- rpCells_set L i k (by omega)]
 exact own_setCell (own_setCell h _ _) _ _
theorem pkRow_at {w : World} {B e n cap : Nat} {a : Option Addr} {L : List (Int × ByteArray)} (h : w.ownsRow B e 2 (.slice a n cap) n (Kk L)) {i : Nat} (hi : i < n) :
  ∃ g, a = some ⟨g, 0, none⟩ /\ B <= g /\ (∃ v, w.cell? ⟨g, i * 2, none⟩ = some v) /\ (∃ v, w.cell? ⟨g, i * 2 + 1, none⟩ = some v) /\ ∀ k, w.frozen? ⟨g, k, none⟩ = false := by
 have hlen : L.length = n := by have := h.1; rw [rpCells_length] at this; omega
 have hc := Ki.row h; obtain ⟨q0, q1⟩ := rpCells_at L i L[i] (List.getElem?_eq_getElem (by omega))
 rcases h.2 with ⟨_, e'⟩ | ⟨g, cap', cur, e', hB, hg, _⟩
 · omega
 · simp only [Value.slice.injEq] at e'
   obtain ⟨rfl, _, _⟩ := e'; obtain ⟨_, _, ea, _, c0⟩ := hc _ _ q0; cases ea
   obtain ⟨_, _, ea, _, c1⟩ := hc _ _ q1; cases ea
   rw [Nat.zero_add] at c0 c1; exact ⟨g, rfl, hB, ⟨_, c0⟩, ⟨_, c1⟩, fun k => Kr hg k⟩
theorem PkIn.mono {B C : Nat} {w : World} {a : Option Addr} {L : List (Int × ByteArray)} (h : PkIn B w a L) (hBC : B <= C) : PkIn C w a L :=
 ⟨h.1, fun b off e hn => by obtain ⟨hB, r⟩ := h.2 b off e hn; exact ⟨by omega, r⟩⟩
theorem PkIn.of_row {w : World} {B n cap : Nat} {a : Option Addr} {L : List (Int × ByteArray)} (h : w.ownsRow B 78 2 (.slice a n cap) n (Kk L)) : PkIn w.heap.size w a L := by
 refine ⟨Ki.row h, fun b off e hn => ?_⟩
 rcases h.2 with ⟨e', e''⟩ | ⟨g, cap', cur, e', _, hg, _⟩
 · simp only [Value.slice.injEq] at e'
   rw [e'.1] at e; cases e
 · simp only [Value.slice.injEq] at e'
   rw [e'.1] at e; cases e; exact ⟨Kb hg, _, _, hg⟩
theorem PkIn.of_block {w : World} {g : Nat} {L : List (Int × ByteArray)} (h : w.heap[g]? = some (.cells (Kk L).toArray 78 (0, 0))) : PkIn w.heap.size w (some ⟨g, 0, none⟩) L := by
 refine ⟨fun j v hj => ⟨g, 0, rfl, Kb h, by rw [Nat.zero_add, Ka h]; simpa using hj⟩, fun b off e hn => ?_⟩
 cases e
 exact ⟨Kb h, _, _, h⟩
theorem PkIn.front {B : Nat} {w : World} {a : Option Addr} {L M : List (Int × ByteArray)} (h : PkIn B w a (L ++ M)) : PkIn B w a L := by
 have e : Kk (L ++ M) = Kk L ++ Kk M := by simp [Kk]
 refine ⟨fun j v hj => h.1 j v ?_, fun b off e hn => h.2 b off e (by simp [hn])⟩
 rw [e, List.getElem?_append_left]
 · exact hj
 · rcases Nat.lt_or_ge j (Kk L).length with h' | h'
   · exact h'
   · rw [List.getElem?_eq_none h'] at hj; cases hj
theorem keepOut_any (b : Nat) (f : Nat -> Value) (lv wv : Value) (xs ys : List Value) (nl : Nat) (mark : Int) (L : List (Int × ByteArray)) (a : Option Addr) (n cap B0 Bl : Nat) (w : World)
  (hW : WB w b f) (h18 : f 18 = lv) (h19 : f 19 = wv) (h20 : f 20 = .int .i64 mark) (hl : w.ownsRow B0 77 1 lv nl xs) (hw : w.ownsRow B0 77 1 wv nl ys)
  (hne : ∀ g, lv.ownBlock = some g -> wv.ownBlock ≠ some g) (hnl : nl <= 900000) (hm : 0 <= mark /\ mark <= 1000000000) (hn : n <= 900000) (hB : B0 <= w.heap.size) (hBl : Bl <= w.heap.size)
  (hL : w.ownsRow Bl 78 2 (.slice a n cap) n (Kk L)) :
  Calls Tryz.prog 63 #[.pointer (some ⟨b, 0, none⟩), .slice a n cap] w fun e w' =>
   ∃ lv' wv' v2 u1 u2, e = .returned (.tuple #[]) /\ WB w' b (upd (upd (upd f 18 lv') 19 wv') 20 (.int .i64 (mark + n + 2))) /\
    w'.ownsRow B0 77 1 lv' (nl + 2) (xs ++ [.slice a n cap, v2]) /\ w'.ownsRow B0 77 1 wv' (nl + 2) (ys ++ [u1, u2]) /\
    (∀ g, lv'.ownBlock = some g -> wv'.ownBlock ≠ some g) /\ HeldP w'.heap.size w' (.slice a n cap) u1 /\ HeldP w'.heap.size w' v2 u2 /\ (∀ x, v2.ownBlock = some x \/ u1.ownBlock = some x \/ u2.ownBlock = some x -> (Value.slice a n cap).ownBlock = some x \/ w.heap.size <= x) /\
    Chg (fun k _ => k = b \/ lv.ownBlock = some k \/ wv.ownBlock = some k \/ (Value.slice a n cap).ownBlock = some k \/ w.heap.size <= k) w w' := by
 have HW := Hd hW; have HL := Hd hl; have HX := Hd hw; have HK := Hd hL; have H18 := Hd h18; have H19 := Hd h19; have H20 := Hd h20; have HNE := Hd hne; clear hW hl hw hL h18 h19 h20 hne; go_enter Tryz.func63, Tryz.ntmps63; go_wp2_with fail
 go_loopw [4] (fun i wr => ∃ (k : Nat) (L' : List (Int × ByteArray)), k <= n /\ i = .int .i64 k /\ WB wr b (upd f 20 (.int .i64 (mark + k))) /\ wr.ownsRow Bl 78 2 (.slice a n cap) n (Kk L') /\ wr.heap.size = w.heap.size /\
   Chg (fun k _ => k = b \/ (Value.slice a n cap).ownBlock = some k) w wr) (fun i _ => n - (intOf i).toNat)
 case atStart => exact ⟨0, L, Nat.zero_le _, rfl, HW.out.congr (fun i _ => by
  by_cases e : i = 20
  · subst e; rw [Ku, H20.out]; simp
  · rw [Kh _ _ _ e]), HK.out, rfl, Chg.refl _ _⟩
 case round =>
  obtain ⟨k, L', hkn, rfl, hWr, hLr, hszr, hCr⟩ := hrel; by_cases hlt : k < n
  · obtain ⟨g, rfl, hBg, ⟨_, d0⟩, ⟨_, d1⟩, fr⟩ := pkRow_at hLr hlt
    obtain ⟨mk, hmk⟩ : ∃ mk : Int, mark + k = mk := ⟨_, rfl⟩; rw [hmk] at hWr; have hmkb : 0 <= mk /\ mk <= 2000000000 := by omega
    have c20 := hWr.cell (i := 20) (by omega)
    rw [Ku] at c20; have f20 := hWr.free 20; have hne1 : b ≠ g := fun e => hWr.neOwn hLr (by decide) (by rw [e]; rfl)
    have w1 : IntKind.i64.wrap (mk + 1) = mk + 1 := IntWalk.i64_in _ (by omega)
    have w2 : IntKind.i64.wrap (-(mk + 1)) = -(mk + 1) := IntWalk.i64_in _ (by omega)
    have HWr := Hd hWr; have HLr := Hd hLr; have HMK := Hd hmk; have HCr := Hd hCr; have HSZ := Hd hszr; clear hWr hLr hmk hCr hszr; go_wp2_with fail
    refine ⟨⟨k + 1, L'.set k (-(mk + 1), ⟨#[]⟩), by omega, by go_num, ?_, ?_, by simpa using HSZ.out, ?_⟩, by simp [intOf]; omega⟩
    · have e : mark + ((k + 1 : Nat) : Int) = mk + 1 := by rw [<- HMK.out]; omega
      rw [e]; have h := ((HWr.out.set (i := 20) (by omega) (.int .i64 (mk + 1))).other (i := k * 2) (fun e => hne1 e.symm) (.int .i64 (-(mk + 1)))).other (i := k * 2 + 1) (fun e => hne1 e.symm) (.string ⟨#[]⟩)
      exact h.congr (fun i _ => by
       by_cases e : i = 20
       · rw [e, Ku, Ku]
       · rw [Kh _ _ _ e, Kh _ _ _ e, Kh _ _ _ e])
    · exact own_setPk (Kq HLr.out ((Chg.refl (fun k _ => k = b) wr).setCell (p := ⟨b, 20, none⟩) (.int .i64 (mk + 1)) (fun _ _ => rfl)) (fun g' o e h => by
       simp only [Value.ownBlock, Option.some.injEq] at e; omega)) hlt (-(mk + 1), ⟨#[]⟩)
    · exact ((HCr.out.setCell (p := ⟨b, 20, none⟩) _ (fun _ _ => .inl rfl)).setCell (p := ⟨g, k * 2, none⟩) _ (fun _ _ => .inr rfl)).setCell (p := ⟨g, k * 2 + 1, none⟩) _ (fun _ _ => .inr rfl)
  · have hk' : k = n := by omega
    subst hk'; clear hlt; obtain ⟨mk, hmk⟩ : ∃ mk : Int, mark + k = mk := ⟨_, rfl⟩; rw [hmk] at hWr; have hmkb : 0 <= mk /\ mk <= 2000000000 := by omega
    have c20 := hWr.cell (i := 20) (by omega)
    rw [Ku] at c20; have f20 := hWr.free 20; have w1 : IntKind.i64.wrap (mk + 2) = mk + 2 := IntWalk.i64_in _ (by omega)
    have w2 : IntKind.i64.wrap (1 - (mk + 2)) = 1 - (mk + 2) := IntWalk.i64_in _ (by omega)
    have w3 : IntKind.i64.wrap (-(mk + 2)) = -(mk + 2) := IntWalk.i64_in _ (by omega)
    have HWr := Hd hWr; have HLr := Hd hLr; have HMK := Hd hmk; have HCr := Hd hCr; have HSZ := Hd hszr; clear hWr hLr hmk hCr hszr; obtain ⟨wb, hwb⟩ : ∃ wb, wr.setCell ⟨b, 20, none⟩ (.int .i64 (mk + 2)) = wb := ⟨_, rfl⟩; have hWb : WB wb b (upd (upd f 20 (.int .i64 mk)) 20 (.int .i64 (mk + 2))) := by rw [<- hwb]; exact HWr.out.set (by omega) _
    have hLb : wb.ownsRow Bl 78 2 (.slice a k cap) k (Kk L') := by
     rw [<- hwb]; exact Kq HLr.out ((Chg.refl (fun k _ => k = b) wr).setCell (p := ⟨b, 20, none⟩) (.int .i64 (mk + 2)) (fun _ _ => rfl)) (fun g' o e h => HWr.out.neOwn HLr.out (by decide) (h ▸ e))
    have hnew := Kt wb [.int .i64 (1 - (mk + 2)), .string ⟨#[]⟩, .int .i64 (-(mk + 2)), .string ⟨#[]⟩] 78 (n := wr.heap.size) (by rw [<- hwb]; simp)
    have HWB := Hd hWb; have HLB := Hd ((hLb.alloc (.cells #[.int .i64 (1 - (mk + 2)), .string ⟨#[]⟩, .int .i64 (-(mk + 2)), .string ⟨#[]⟩] 78)).drew); have HNEW : Hid (∀ j u, [Value.int .i64 (1 - (mk + 2)), .string ⟨#[]⟩, .int .i64 (-(mk + 2)), .string ⟨#[]⟩][j]? = some u -> (wb.alloc (.cells #[.int .i64 (1 - (mk + 2)), .string ⟨#[]⟩, .int .i64 (-(mk + 2)), .string ⟨#[]⟩] 78)).drew.cell? ((⟨wr.heap.size, 0, none⟩ : Addr).add j) = some u) := hnew; have HWBe := Hd hwb; have k3 : k + 2 <= maxLen := by unfold maxLen; omega
    have K3 := Hd k3; obtain ⟨i0, hi, hz0, hz1, hz2⟩ := info_parts info_pk; clear hWb hLb hnew hwb k3; go_wp2_with fail
    rw [HWBe.out]; have cb20 := HWB.out.cell (i := 20) (by omega)
    rw [Ku] at cb20; have hszb : wb.heap.size = wr.heap.size := by rw [<- HWBe.out]; simp
    go_region_law (refine Ji rfl _ _ _ rfl Bl 78 i0 _ 2 24 Tryz.underlying77 hi hz0 hz1 hz2 rfl (by decide) (.slice a k cap) k _ rfl HLB.out ⟨wr.heap.size, 0, none⟩ 2 2 _ rfl rfl HNEW.out (by simp [Value.oneCell']) (by omega) K3.out (by omega) (by have := HSZ.out; simp; omega) ?_; intro gg gc w4 hl4 hto4)
    all_goals
     have hL4 : w4.ownsRow Bl 78 2 (.slice (some ⟨gg, 0, none⟩) (k + 2) gc) (k + 2) (Kk (L' ++ [(1 - (mk + 2), ⟨#[]⟩), (-(mk + 2), ⟨#[]⟩)])) := by
      have e : Kk (L' ++ [(1 - (mk + 2), ⟨#[]⟩), (-(mk + 2), ⟨#[]⟩)]) = Kk L' ++ [.int .i64 (1 - (mk + 2)), .string ⟨#[]⟩, .int .i64 (-(mk + 2)), .string ⟨#[]⟩] := by simp [Kk]
      rw [e]; exact hl4
     have hWx := HWB.out.alloc (.cells #[.int .i64 (1 - (mk + 2)), .string ⟨#[]⟩, .int .i64 (-(mk + 2)), .string ⟨#[]⟩] 78); have hnb : (Value.slice a k cap).ownBlock ≠ some b := HWr.out.neOwn HLr.out (by decide)
     have hW4 : WB w4 b (upd (upd f 20 (.int .i64 mk)) 20 (.int .i64 (mk + 2))) := SB.grown (w := (wb.alloc (.cells #[.int .i64 (1 - (mk + 2)), .string ⟨#[]⟩, .int .i64 (-(mk + 2)), .string ⟨#[]⟩] 78)).drew) hWx hto4.grown hnb; have hKl : PkIn w4.heap.size w4 (some ⟨gg, 0, none⟩) (L' ++ [(1 - (mk + 2), ⟨#[]⟩), (-(mk + 2), ⟨#[]⟩)]) := PkIn.of_row hL4
     have hKa : PkIn w4.heap.size w4 a L' := by
      rcases hto4 with ⟨e, hg⟩ | ⟨e, hg⟩
      · have ea : a = some ⟨gg, 0, none⟩ := by
         rcases HLr.out.2 with ⟨e', _⟩ | ⟨g', cp', cur, e', _⟩
         · simp only [Value.slice.injEq] at e'; rw [e'.1] at e; simp [Value.ownBlock] at e
         · simp only [Value.slice.injEq] at e'; rw [e'.1] at e ⊢; simp only [Value.ownBlock, Option.some.injEq] at e; rw [e]
        rw [ea]; exact hKl.front
      · exact PkIn.of_row (cap := cap) (n := k) (HLB.out.kept hg (by cases (Value.slice a k cap).ownBlock <;> simp))
     have hC4 : Chg (fun x _ => x = b \/ (Value.slice a k cap).ownBlock = some x \/ w.heap.size <= x) w w4 :=
      (((HCr.out.mono (fun x o _ h => h.elim .inl (fun h => .inr (.inl h)))).trans (by rw [<- HWBe.out]; exact (Chg.refl _ wr).setCell _ (fun _ _ => .inl rfl))).alloc _).drew.grown hto4.grown (fun x o e _ => .inr (.inl e))
     have hrow4 : ∀ (v : Value) (n' : Nat) (zs : List Value), w.ownsRow B0 77 1 v n' zs -> w4.ownsRow B0 77 1 v n' zs := fun v n' zs h => by
      refine Kq h hC4 (fun g o e hx => ?_)
      rcases hx with hx | hx | hx
      · exact HW.out.neOwn h (by decide) (hx ▸ e)
      · obtain ⟨_, cur, hgv⟩ := Ke h e
        obtain ⟨_, cur', hgv'⟩ := Ke HK.out hx; rw [hgv] at hgv'; simp only [Option.some.injEq, Obj.cells.injEq] at hgv'; exact absurd hgv'.2.1 (by decide)
      · have := (h.lt g e).2; omega
     have h18' : upd (upd f 20 (.int .i64 mk)) 20 (.int .i64 (mk + 2)) 18 = lv := by rw [Kh _ _ _ (by omega), Kh _ _ _ (by omega)]; exact H18.out
     have h19' : upd (upd f 20 (.int .i64 mk)) 20 (.int .i64 (mk + 2)) 19 = wv := by rw [Kh _ _ _ (by omega), Kh _ _ _ (by omega)]; exact H19.out
     have hgg : (Value.slice a k cap).ownBlock = some gg \/ w.heap.size <= gg := by
      rcases hto4 with ⟨e, _⟩ | ⟨e, _⟩
      · exact .inl e
      · have := HSZ.out
        simp at e; omega
     have HGG := Hd hgg; clear hgg; have hlen : L'.length = k := by have := HLr.out.1; rw [rpCells_length] at this; omega
     have hB4 : w.heap.size <= w4.heap.size := hC4.size; have hcon := holdOut_any b _ lv wv xs ys nl L' a k cap B0 w4 hW4 h18' h19' (hrow4 _ _ _ HL.out) (hrow4 _ _ _ HX.out) HNE.out (by omega) hlen (by omega) (by omega) hKa.1
     have HW4 := Hd hW4; have HL4 := Hd (hrow4 _ _ _ HL.out); have HX4 := Hd (hrow4 _ _ _ HX.out); have HKl := Hd hKl; have HKa := Hd hKa; have HC4 := Hd hC4; have HCON := Hd hcon; clear hWx hW4 hKl hKa hC4 hrow4 h18' h19' hcon hL4 hl4 hto4; go_wp2_with fail
     refine HCON.out.mono ?_; rintro e w5 ⟨lv5, wv5, g5, c5, rfl, hW5, hl5, hw5, hne5, hg5, hgg5, hC5, hla5, hwa5⟩; obtain ⟨F4, hF4⟩ : ∃ F, upd (upd f 20 (.int .i64 mk)) 20 (.int .i64 (mk + 2)) = F := ⟨_, rfl⟩; rw [hF4] at hW5
     have hno : ∀ (W : World) (fW : Nat -> Value) (v v' : Value) (m m' : Nat) (zs zs' : List Value), WB W b fW -> W.ownsRow B0 77 1 v m zs -> W.ownsRow B0 77 1 v' m' zs' ->
       ∀ x cs fr, x < W.heap.size -> W.heap[x]? = some (.cells cs 78 fr) -> ¬ (x = b \/ v.ownBlock = some x \/ v'.ownBlock = some x) := by
      intro W fW v v' m m' zs zs' hb h1 h2 x cs fr _ hx hS; rcases hS with rfl | hS | hS
      · obtain ⟨cs', hb'⟩ := hb.block
        rw [hb'] at hx; simp only [Option.some.injEq, Obj.cells.injEq] at hx; exact absurd hx.2.1 (by decide)
      · obtain ⟨_, cur, hv⟩ := Ke h1 hS
        rw [hv] at hx; simp only [Option.some.injEq, Obj.cells.injEq] at hx; exact absurd hx.2.1 (by decide)
      · obtain ⟨_, cur, hv⟩ := Ke h2 hS
        rw [hv] at hx; simp only [Option.some.injEq, Obj.cells.injEq] at hx; exact absurd hx.2.1 (by decide)
     have hWW4 := HW4.out; have hKa5 := HKa.out.chg hC5 (hno w4 _ lv wv nl nl xs ys HW4.out HL4.out HX4.out); have hKl5 := HKl.out.chg hC5 (hno w4 _ lv wv nl nl xs ys HW4.out HL4.out HX4.out); have hKg5 : PkIn w5.heap.size w5 (some ⟨g5, 0, none⟩) L' := PkIn.of_block hgg5; have hsz5 := hC5.size; have hcon := holdOut_any b _ lv5 wv5 _ _ (nl + 1) (L' ++ [(1 - (mk + 2), ⟨#[]⟩), (-(mk + 2), ⟨#[]⟩)]) (some ⟨gg, 0, none⟩) (k + 2) gc B0 w5 hW5 (by rw [Kh _ _ _ (by omega), Ku]) (Ku _ _ _) hl5 hw5 hne5 (by omega) (by simp; omega) (by omega) (by omega) hKl5.1
     have HWW5 := Hd (hno w5 _ lv5 wv5 _ _ _ _ hW5 hl5 hw5); have HKa5 := Hd hKa5; have HKl5 := Hd hKl5; have HKg5 := Hd hKg5; have HC5 := Hd hC5; have HCON5 := Hd hcon; have HF4 := Hd hF4; have HLA5 := Hd hla5; have HWA5 := Hd hwa5; clear hla5 hwa5 hW5 hl5 hw5 hne5 hgg5 hC5 hno hWW4 hKa5 hKl5 hKg5 hcon hF4; go_wp2_with fail
     refine HCON5.out.mono ?_; rintro e w6 ⟨lv6, wv6, g6, c6, rfl, hW6, hl6, hw6, hne6, hg6, hgg6, hC6, _, _⟩; have hKa6 := (HKa5.out.mono hsz5).chg hC6 HWW5.out; have hKl6 := (HKl5.out.mono hsz5).chg hC6 HWW5.out; have hKg6 := HKg5.out.chg hC6 HWW5.out; have hKh6 : PkIn w6.heap.size w6 (some ⟨g6, 0, none⟩) (L' ++ [(1 - (mk + 2), ⟨#[]⟩), (-(mk + 2), ⟨#[]⟩)]) := PkIn.of_block hgg6; have hsz6 := hC6.size
     have hfin : WB w6 b (upd (upd (upd f 18 lv6) 19 wv6) 20 (.int .i64 (mark + k + 2))) := hW6.congr (fun i _ => by
      rw [<- HF4.out, HMK.out]; simp only [upd]; by_cases e0 : i = 20
      · subst e0; simp
      · by_cases e1 : i = 19
        · subst e1; simp
        · by_cases e2 : i = 18
          · subst e2; simp
          · simp [e0, e1, e2])
     have hCF : Chg (fun x _ => x = b \/ lv.ownBlock = some x \/ wv.ownBlock = some x \/ (Value.slice a k cap).ownBlock = some x \/ w.heap.size <= x) w w6 := by
      refine ((HC4.out.mono (fun x o _ h => ?_)).trans (HC5.out.mono (fun x o _ h => ?_))).trans (hC6.mono (fun x o _ h => ?_))
      · rcases h with h | h | h
        · exact .inl h
        · exact .inr (.inr (.inr (.inl h)))
        · exact .inr (.inr (.inr (.inr h)))
      · rcases h with h | h | h
        · exact .inl h
        · exact .inr (.inl h)
        · exact .inr (.inr (.inl h))
      · rcases h with h | h | h
        · exact .inl h
        · rcases HLA5.out x h with h | h
          · exact .inr (.inl h)
          · exact .inr (.inr (.inr (.inr (by omega))))
        · rcases HWA5.out x h with h | h
          · exact .inr (.inr (.inl h))
          · exact .inr (.inr (.inr (.inr (by omega))))
     have HFIN := Hd hfin; have HCF := Hd hCF; have Hl6 := Hd hl6; have Hw6 := Hd hw6; have Hne6 := Hd hne6; have HH1 : Hid (HeldP w6.heap.size w6 (.slice a k cap) (.slice (some ⟨g5, 0, none⟩) k c5)) := ⟨L', a, k, cap, _, c5, rfl, rfl, hlen, by omega, hKa6.mono hsz6, hKg6.mono hsz6⟩
     have HH2 : Hid (HeldP w6.heap.size w6 (.slice (some ⟨gg, 0, none⟩) (k + 2) gc) (.slice (some ⟨g6, 0, none⟩) (k + 2) c6)) := ⟨_, _, k + 2, gc, _, c6, rfl, rfl, by simp; omega, by omega, hKl6.mono hsz6, hKh6⟩
     clear hW6 hl6 hw6 hne6 hgg6 hC6 hKa6 hKl6 hKg6 hKh6 hfin hCF; go_wp2; go_end0
     exact ⟨lv6, wv6, _, _, _, rfl, HFIN.out, by simpa using Hl6.out, by simpa using Hw6.out, Hne6.out, HH1.out, HH2.out, (fun x hx => by
      simp only [Value.ownBlock, Option.some.injEq] at hx; rcases hx with rfl | rfl | rfl
      · exact HGG.out
      · exact .inr (by omega)
      · exact .inr (by omega)), HCF.out⟩
theorem PkIn.apart {S : Nat -> Obj -> Prop} {B n c : Nat} {w w' : World} {a : Option Addr} {L : List (Int × ByteArray)} (h : PkIn B w a L) (hc : Chg S w w') (hS : ∀ x cs fr, (Value.slice a n c).ownBlock = some x -> x < B -> w.heap[x]? = some (.cells cs 78 fr) -> ¬ S x (.cells cs 78 fr)) : PkIn B w' a L := by
 by_cases hL : L = []
 · subst hL
   exact ⟨fun j v hj => by simp [Kk] at hj, fun b off e hn => absurd rfl hn⟩
 refine ⟨h.1.heap (fun b off e hb => ?_), fun b off e hn => ?_⟩
 · obtain ⟨hB, cs, f, hg⟩ := h.2 b off e hL
   have := hc.kept b _ hg (hS b cs f (by rw [e]; rfl) hB hg)
   exact ⟨this.trans hg.symm, Kb this⟩
 · obtain ⟨hB, cs, f, hg⟩ := h.2 b off e hL
   exact ⟨hB, cs, f, hc.kept b _ hg (hS b cs f (by rw [e]; rfl) hB hg)⟩
theorem HeldP.apart {S : Nat -> Obj -> Prop} {B : Nat} {w w' : World} {v u : Value} (h : HeldP B w v u) (hc : Chg S w w') (hS : ∀ x cs fr, v.ownBlock = some x \/ u.ownBlock = some x -> x < B -> w.heap[x]? = some (.cells cs 78 fr) -> ¬ S x (.cells cs 78 fr)) : HeldP B w' v u := by
 obtain ⟨L, a, n, cap, a', cap', rfl, rfl, e3, e4, h1, h2⟩ := h; exact ⟨L, a, n, cap, a', cap', rfl, rfl, e3, e4, h1.apart (n := n) (c := cap) hc (fun x cs fr hx => hS x cs fr (.inl hx)), h2.apart (n := n) (c := cap') hc (fun x cs fr hx => hS x cs fr (.inr hx))⟩
theorem sent_same (L : List (Int × ByteArray)) (a b : Option Addr) (n cap cap' : Nat) (w : World) (hn : L.length = n) (hl : n <= 9223372036854775807) (ha : Ki w a (Kk L)) (hb : Ki w b (Kk L)) :
  Calls Tryz.prog 62 #[.slice a n cap, .slice b n cap'] w fun e w' => e = .returned (.bool true) /\ ∃ k, w' = w.drewN k := by
 have HA := Hd ha; have HB := Hd hb; have HN := Hd hn; clear ha hb hn; go_enter Tryz.func62, Tryz.ntmps62; go_wp2; go_loopw [5] (fun i wr => ∃ k j : Nat, k <= n /\ i = .int .i64 k /\ wr = w.drewN j) (fun i _ => n - (intOf i).toNat)
 case atStart => exact ⟨0, 0, Nat.zero_le _, rfl, rfl⟩
 case round =>
  obtain ⟨k, j, hkl, rfl, rfl⟩ := hrel; by_cases hlt : k < n
  · have hlt' : k < L.length := by have := HN.out; omega
    obtain ⟨q0, q1⟩ := rpCells_at L k L[k] (List.getElem?_eq_getElem hlt'); obtain ⟨b1, off1, rfl, hb1, c0⟩ := HA.out _ _ q0; obtain ⟨_, _, e1, _, c1⟩ := HA.out _ _ q1; cases e1
    obtain ⟨b2, off2, rfl, hb2, d0⟩ := HB.out _ _ q0; obtain ⟨_, _, e2, _, d1⟩ := HB.out _ _ q1; cases e2
    obtain ⟨p, hp⟩ : ∃ p, L[k] = p := ⟨_, rfl⟩; rw [hp] at c0 c1 d0 d1; rw [<- Nat.add_assoc] at c1 d1; clear hp q0 q1; go_wp2; go_quiet (fail); go_wp2; go_roundw
    case rel => exact ⟨k + 1, _, by omega, by go_num, rfl⟩
    case measure => simp [intOf]; omega
  · have hk' : k = n := by omega
    go_wp2; go_ret
    exact ⟨rfl, j, rfl⟩
def SQP (B0 b Bh : Nat) (k : Nat) (o : Obj) : Prop := SQ B0 b k o \/ (Bh <= k /\ ∃ c fr, o = .cells c 78 fr)
theorem sends_any (B0 b n : Nat) (w : World) (f : Nat -> Value) (d : Sd) (h : SAt B0 b n w f d) (hn : n <= 100000) (Bh : Nat) (hBh : B0 <= Bh) (hBw : Bh <= w.heap.size)
  (hheld : ∀ (i : Nat) v u, d.os[i]? = some v -> d.ks[i]? = some u -> HeldP Bh w v u) (L : List (Int × ByteArray)) (k : Nat) (hLk : L.length = k) (hk : k <= 20) (hz : ∀ p ∈ L, p.2.size <= 60)
  (aa bb la : Option Addr) (ac bc lc : Nat) (ha : w.ownsRow Bh 78 2 (.slice aa k ac) k (Kk L)) (hb : w.ownsRow Bh 78 2 (.slice bb k bc) k (Kk L))
  (hab : ∀ g, (Value.slice aa k ac).ownBlock = some g -> (Value.slice bb k bc).ownBlock ≠ some g) (hl : w.ownsRow Bh 60 2 (.slice la k lc) k (Kk L)) (hlw : ∀ g, (f 15).ownBlock = some g -> (Value.slice la k lc).ownBlock ≠ some g) :
  Calls Tryz.prog 38 #[.pointer (some ⟨b, 0, none⟩), .slice aa k ac, .slice bb k bc, .slice la k lc] w fun e w' => e = .returned (.bool true) /\
   ∃ f' d', SAt B0 b (n + 1) w' f' d' /\ K14 w f f' /\ Chg (SQP B0 b Bh) w w' := by
 have hblt := h.blk.lt; have hon := h.on; have hlon := h.lon; have hmb := h.mb; obtain ⟨p18, q18, z18⟩ := h.l18; obtain ⟨p19, q19, z19⟩ := h.l19; have hsa := sent_same L aa la k ac lc w hLk (by omega) (Ki.row ha) (Ki.row hl)
 have hsb := fun j => sent_same L bb la k bc lc (w.drewN j) hLk (by omega) (Ki.row (Je hb (fun _ _ => rfl))) (Ki.row (Je hl (fun _ _ => rfl)))
 obtain ⟨i0, hi, hz0, hz1, hz2⟩ := info_parts info_rpk; have H := Hd h; have HSA := Hd hsa; have HSB := Hd hsb; have HA := Hd ha; have HB := Hd hb; have HL := Hd hl; have HAB := Hd hab; have HLW := Hd hlw; have HLK := Hd hLk; have HHELD := Hd hheld; have HZ := Hd hz; have Z18 := Hd z18; have Z19 := Hd z19; clear h hsa hsb ha hb hl hab hlw hLk hheld hz z18 z19; go_enter Tryz.func38, Tryz.ntmps38; go_wp2_with fail
 refine HSA.out.mono ?_; rintro e w1 ⟨rfl, j1, rfl⟩; go_wp2_with fail
 refine (HSB.out _).mono ?_; rintro e w2 ⟨rfl, j2, rfl⟩; obtain ⟨wd, hwd⟩ : ∃ wd, (w.drewN j1).drewN j2 = wd := ⟨_, rfl⟩; rw [hwd]; have hbd : Below w.heap.size w wd := by rw [<- hwd]; exact Below.drewR (Below.drewR (Below.refl _ _) _) _
 have hhd : wd.heap = w.heap := by rw [<- hwd]; rfl
 have hSd := H.out.below hbd; have HSD := Hd hSd; have HBD := Hd hbd; have HHD := Hd hhd; clear hwd hbd hhd hSd; go_wp2_with fail
 go_loopw [11] (fun s11 wr => ∃ (i : Nat) (v15 : Value) (m15 : Nat), s11 = .int .i64 (i : Nat) /\ i <= k /\ m15 = (d.ow ++ L.take i).length /\ m15 <= 60 /\ WB wr b (upd f 15 v15) /\ (∃ a c, v15 = .slice a m15 c) /\ wr.ownsRow B0 60 2 v15 m15 (Kk (d.ow ++ L.take i)) /\
   (∀ g, v15.ownBlock = some g -> (f 15).ownBlock = some g \/ w.heap.size <= g) /\ Chg (fun x _ => x = b \/ (f 15).ownBlock = some x \/ w.heap.size <= x) w wr) (fun s11 _ => 30 - (intOf s11).toNat)
 case atStart =>
  refine ⟨0, f 15, d.ow.length, rfl, Nat.zero_le _, by simp, hon, HSD.out.blk.congr (fun i _ => by
   by_cases e : i = 15
   · rw [e, Ku]
   · rw [Kh _ _ _ e]), HSD.out.o15, by simpa using HSD.out.orow, fun g hg => .inl hg, Below.andChg HBD.out (Chg.refl _ _)⟩
 case round =>
  obtain ⟨i, v15, m15, rfl, hik, hm15, h60, hWr, ⟨oa, oc, rfl⟩, hrow, hown, hC⟩ := hrel; have c15 := hWr.cell (i := 15) (by omega)
  rw [Ku] at c15; have f15 := hWr.free 15; have hszr : w.heap.size <= wr.heap.size := hC.size; have HWR := Hd hWr; have HROW := Hd hrow; have HOWN := Hd hown; have HC := Hd hC; have HM15 := Hd hm15; clear hWr hrow hown hC hm15; by_cases hgo : i < k /\ m15 < 60
  · obtain ⟨hg1, hg2⟩ := hgo
    obtain ⟨p, hp⟩ : ∃ p, L[i]? = some p := ⟨_, List.getElem?_eq_getElem (by have := HLK.out; omega)⟩
    have hlr : wr.ownsRow Bh 60 2 (.slice la k lc) k (Kk L) := Kq HL.out HC.out (fun g o e hs => by
     rcases hs with rfl | hs | hs
     · exact H.out.blk.neOwn HL.out (by decide) e
     · exact HLW.out g hs e
     · have := (HL.out.lt g e).2; omega)
    obtain ⟨q0, q1⟩ := rpCells_at L i p hp; obtain ⟨g2, o2, rfl, hg2b, e0⟩ := Ki.row hlr _ _ q0; obtain ⟨_, _, ea, _, e1⟩ := Ki.row hlr _ _ q1; cases ea
    have ho2 : o2 = 0 := by
     rcases hlr.2 with ⟨e1, _⟩ | ⟨g', cap, cur0, e1, _⟩
     · simp at e1
     · simp only [Value.slice.injEq, Option.some.injEq, Addr.mk.injEq] at e1; exact e1.1.2.1
    subst ho2; rw [Nat.zero_add] at e0 e1; have ca : ∀ o, (wr.alloc o).cell? ⟨b, 15, none⟩ = some (.slice oa m15 oc) := fun o => by rw [World.cell?_alloc_lt _ _ _ (World.block_lt_of_cell? _ _ c15)]; exact c15
    have ca0 : ∀ o, (wr.alloc o).cell? ⟨g2, i * 2, none⟩ = some (.int .i64 p.1) := fun o => by rw [World.cell?_alloc_lt _ _ _ (World.block_lt_of_cell? _ _ e0)]; exact e0
    have ca1 : ∀ o, (wr.alloc o).cell? ⟨g2, i * 2 + 1, none⟩ = some (.string p.2) := fun o => by rw [World.cell?_alloc_lt _ _ _ (World.block_lt_of_cell? _ _ e1)]; exact e1
    have hrw : (wr.alloc (.cells #[.int .i64 p.1, .string p.2] 60)).drew.ownsRow B0 60 2 (.slice oa m15 oc) m15 (Kk (d.ow ++ L.take i)) := (HROW.out.alloc _).drew; have HNEW : Hid (∀ j u, [Value.int .i64 p.1, .string p.2][j]? = some u -> (wr.alloc (.cells #[.int .i64 p.1, .string p.2] 60)).drew.cell? ((⟨wr.heap.size, 0, none⟩ : Addr).add j) = some u) := Kt wr [.int .i64 p.1, .string p.2] 60 (n := wr.heap.size) rfl; have HRW := Hd hrw; have HP := Hd hp; have k3 : m15 + 1 <= maxLen := by unfold maxLen; omega
    have K3 := Hd k3; have hB0 := H.out.hB; have hlr2 : (0 : Int) <= (i : Int) := by omega
    have hlr3 : (i : Int) < (k : Int) := by omega
    clear hrw hp k3 q0 q1 hlr; go_upto_region 6 with (fail); go_region_law (refine Ji rfl _ _ _ rfl B0 60 i0 _ 2 24 Tryz.underlying37 hi hz0 hz1 hz2 rfl (by decide) (.slice oa m15 oc) m15 _ rfl HRW.out ⟨wr.heap.size, 0, none⟩ 1 1 _ rfl rfl HNEW.out (by simp [Value.oneCell']) (by omega) K3.out (by omega) (by simp; omega) ?_; intro g gc w4 hl4 hto4; have hWa : WB (wr.alloc (.cells #[.int .i64 p.1, .string p.2] 60)).drew b (upd f 15 (.slice oa m15 oc)) := HWR.out.alloc _; have hW4 := hWa.grown hto4.grown (hWa.neOwn HRW.out (by decide)); have c154 := hW4.cell (i := 15) (by omega); rw [Ku] at c154; have f154 := hW4.free 15; have HW4 := Hd hW4; have HL4 := Hd hl4; have HTO4 := Hd hto4; clear hWa hW4 hl4 hto4)
    all_goals
     have happ : Kk (d.ow ++ L.take (i + 1)) = Kk (d.ow ++ L.take i) ++ [.int .i64 p.1, .string p.2] := by
      rw [List.take_add_one, HP.out, <- List.append_assoc]; simp [Kk]
     have hlen : m15 + 1 = (d.ow ++ L.take (i + 1)).length := by
      rw [List.take_add_one, HP.out, <- List.append_assoc, List.length_append, <- HM15.out]; rfl
     have hl5 := Kq HL4.out ((Chg.refl (fun x _ => x = b) w4).setCell (p := ⟨b, 15, none⟩) (.slice (some ⟨g, 0, none⟩) (m15 + 1) gc) (fun _ _ => rfl)) (fun g' o e e' => HW4.out.neOwn HL4.out (by decide) (e' ▸ e))
     have hw5 : WB (w4.setCell ⟨b, 15, none⟩ (.slice (some ⟨g, 0, none⟩) (m15 + 1) gc)) b (upd f 15 (.slice (some ⟨g, 0, none⟩) (m15 + 1) gc)) := (HW4.out.set (i := 15) (by omega) (.slice (some ⟨g, 0, none⟩) (m15 + 1) gc)).congr (fun j _ => by
      by_cases e : j = 15
      · rw [e, Ku, Ku]
      · rw [Kh _ _ _ e, Kh _ _ _ e, Kh _ _ _ e])
     have hown5 : ∀ x, (Value.slice (some ⟨g, 0, none⟩) (m15 + 1) gc).ownBlock = some x -> (f 15).ownBlock = some x \/ w.heap.size <= x := fun x hx => by
      simp only [Value.ownBlock, Option.some.injEq] at hx; subst hx; rcases HTO4.out with ⟨e, _⟩ | ⟨e, _⟩
      · exact HOWN.out g e
      · simp at e; exact .inr (by omega)
     have hC5 : Chg (fun x _ => x = b \/ (f 15).ownBlock = some x \/ w.heap.size <= x) w (w4.setCell ⟨b, 15, none⟩ (.slice (some ⟨g, 0, none⟩) (m15 + 1) gc)) :=
      (((HC.out.alloc _).drew).grown HTO4.out.grown (fun x o e _ => .inr (HOWN.out x e))).setCell _ (fun _ _ => .inl rfl)
     have HAPP := Hd happ; have HLEN := Hd hlen; have HL5 := Hd hl5; have HW5 := Hd hw5; have HOWN5 := Hd hown5; have HC5 := Hd hC5; clear happ hlen hl5 hw5 hown5 hC5; go_wp2; go_roundw
     case rel => exact ⟨i + 1, _, m15 + 1, by go_num, by omega, HLEN.out, by omega, HW5.out, ⟨_, _, rfl⟩, by rw [HAPP.out]; exact HL5.out, HOWN5.out, HC5.out⟩
     case measure => simp [intOf]; omega
  · have hways : ¬ i < k \/ i < k /\ ¬ m15 < 60 := by omega
    obtain ⟨F, hF⟩ : ∃ F, upd f 15 (.slice oa m15 oc) = F := ⟨_, rfl⟩; have hWf := HWR.out; rw [hF] at hWf; have hF18 : F 18 = f 18 := by rw [<- hF]; exact Kh _ _ _ (by omega)
    have hF19 : F 19 = f 19 := by rw [<- hF]; exact Kh _ _ _ (by omega)
    have hF20 : F 20 = .int .i64 d.mark := by rw [<- hF]; exact (Kh _ _ _ (by omega)).trans H.out.m20
    have hrowT : ∀ {t : TypeId} {s m B : Nat} {v : Value} {xs : List Value}, w.ownsRow B t s v m xs -> t ≠ 41 -> t ≠ 60 -> wr.ownsRow B t s v m xs := fun ho h1 h2 => Kq ho HC.out (fun g o e hs => by
     obtain ⟨_, cur, hg⟩ := Ke ho e; rcases hs with rfl | hs | hs
     · obtain ⟨cs, hb'⟩ := H.out.blk.block
       rw [hg] at hb'; simp only [Option.some.injEq, Obj.cells.injEq] at hb'; exact h1 hb'.2.1
     · obtain ⟨_, cur', hg'⟩ := Ke H.out.orow hs
       rw [hg] at hg'; simp only [Option.some.injEq, Obj.cells.injEq] at hg'; exact h2 hg'.2.1
     · have := Kb hg; omega)
    have hlo := hrowT H.out.lo (by decide) (by decide)
    have hlk := hrowT H.out.lk (by decide) (by decide)
    have ha' := hrowT HA.out (by decide) (by decide)
    have hb' := hrowT HB.out (by decide) (by decide)
    have hB0 := H.out.hB; have hko := keepOut_any b F (f 18) (f 19) d.os d.ks d.os.length d.mark L aa k ac B0 Bh wr hWf hF18 hF19 hF20 hlo hlk H.out.lone (by omega) (by omega) (by omega) (by omega) (by omega) ha'
    have HKO := Hd hko; have HF := Hd hF; have HBR := Hd hb'; clear hWf hF18 hF19 hF20 hrowT hlo hlk ha' hb' hko hF; rcases hways with h1 | ⟨h1, h2⟩
    all_goals
     go_wp2_with fail
     refine HKO.out.mono ?_; rintro e w5 ⟨lv5, wv5, v2, u1, u2, rfl, hW5, hl5, hw5, hne5, hh1, hh2, hown5, hC5⟩
     have hb5 := Kq HBR.out hC5 (fun g o e hs => by
      obtain ⟨_, cur, hg⟩ := Ke HBR.out e; rcases hs with rfl | hs | hs | hs | hs
      · exact HWR.out.neOwn HBR.out (by decide) e
      · obtain ⟨_, cur', hg'⟩ := Ke H.out.lo hs
        have := (HB.out.lt g e).2; obtain ⟨_, cur2, hg2⟩ := Ke HB.out e; rw [hg2] at hg'; simp only [Option.some.injEq, Obj.cells.injEq] at hg'; exact absurd hg'.2.1 (by decide)
      · obtain ⟨_, cur', hg'⟩ := Ke H.out.lk hs
        obtain ⟨_, cur2, hg2⟩ := Ke HB.out e; rw [hg2] at hg'; simp only [Option.some.injEq, Obj.cells.injEq] at hg'; exact absurd hg'.2.1 (by decide)
      · exact HAB.out g hs e
      · have := Kb hg; omega)
     have hsz5 : wr.heap.size <= w5.heap.size := hC5.size; have hko2 := keepOut_any b _ lv5 wv5 _ _ (d.os.length + 2) (d.mark + k + 2) L bb k bc B0 Bh w5 hW5 (by rw [Kh _ _ _ (by omega), Kh _ _ _ (by omega), Ku]) (by rw [Kh _ _ _ (by omega), Ku]) (Ku _ _ _) hl5 hw5 hne5 (by omega) (by omega) (by omega) (by omega) (by omega) hb5
     have HKO2 := Hd hko2; have HW5 := Hd hW5; have HL5 := Hd hl5; have HX5 := Hd hw5; have HH1 := Hd hh1; have HH2 := Hd hh2; have HOWN5 := Hd hown5; have HC5 := Hd hC5; clear hko2 hW5 hl5 hw5 hh1 hh2 hown5 hC5 hb5 hne5; go_wp2_with fail
     refine HKO2.out.mono ?_; rintro e w6 ⟨lv6, wv6, v4, u3, u4, rfl, hW6, hl6, hw6, hne6, hh3, hh4, _, hC6⟩; have hsz6 : w5.heap.size <= w6.heap.size := hC6.size
     have hmid : ∀ x o, w.heap[x]? = some o -> ¬ (x = b \/ (B0 <= x /\ ∃ cs t fr, o = .cells cs t fr /\ t ∈ [60, 77]) \/ (Bh <= x /\ ∃ cs fr, o = .cells cs 78 fr)) -> w6.heap[x]? = some o := fun x o hx hs => by
      have hlt := Kb hx
      have g1 : wr.heap[x]? = some o := HC.out.kept x o hx (fun e => by
       rcases e with rfl | e | e
       · exact hs (.inl rfl)
       · obtain ⟨hB, cur, hg⟩ := Ke H.out.orow e
         rw [hx] at hg; cases hg; exact hs (.inr (.inl ⟨hB, _, _, _, rfl, by simp⟩))
       · omega)
      have g2 : w5.heap[x]? = some o := HC5.out.kept x o g1 (fun e => by
       rcases e with rfl | e | e | e | e
       · exact hs (.inl rfl)
       · obtain ⟨hB, cur, hg⟩ := Ke H.out.lo e
         rw [hx] at hg; cases hg; exact hs (.inr (.inl ⟨hB, _, _, _, rfl, by simp⟩))
       · obtain ⟨hB, cur, hg⟩ := Ke H.out.lk e
         rw [hx] at hg; cases hg; exact hs (.inr (.inl ⟨hB, _, _, _, rfl, by simp⟩))
       · obtain ⟨hB, cur, hg⟩ := Ke HA.out e
         rw [hx] at hg; cases hg; exact hs (.inr (.inr ⟨hB, _, _, rfl⟩))
       · omega)
      exact hC6.kept x o g2 (fun e => by
       rcases e with rfl | e | e | e | e
       · exact hs (.inl rfl)
       · obtain ⟨hB, cur, hg⟩ := Ke HL5.out e
         rw [g2] at hg; cases hg; exact hs (.inr (.inl ⟨hB, _, _, _, rfl, by simp⟩))
       · obtain ⟨hB, cur, hg⟩ := Ke HX5.out e
         rw [g2] at hg; cases hg; exact hs (.inr (.inl ⟨hB, _, _, _, rfl, by simp⟩))
       · obtain ⟨hB, cur, hg⟩ := Ke HB.out e
         rw [hx] at hg; cases hg; exact hs (.inr (.inr ⟨hB, _, _, rfl⟩))
       · omega)
     have hcF : Chg (fun x o => x = b \/ (B0 <= x /\ ∃ cs t fr, o = .cells cs t fr /\ t ∈ [60, 77]) \/ (Bh <= x /\ ∃ cs fr, o = .cells cs 78 fr)) w w6 :=
      ⟨hC6.os.trans (HC5.out.os.trans HC.out.os), hC6.tape.trans (HC5.out.tape.trans HC.out.tape), hC6.output.trans (HC5.out.output.trans HC.out.output), by omega, hmid⟩
     have KK := H.out.kept (T := [41, 60, 77, 78]) hcF (fun x o hx hs => by
      rcases hs with rfl | ⟨_, cs, t, fr, e, ht⟩ | ⟨_, cs, fr, e⟩
      · obtain ⟨cs, hb⟩ := H.out.blk.block
        rw [hb] at hx; cases hx; exact ⟨_, _, _, rfl, by simp⟩
      · refine ⟨cs, t, fr, e, ?_⟩
        simp only [List.mem_cons, List.not_mem_nil, or_false] at ht; rcases ht with rfl | rfl <;> simp
      · exact ⟨cs, _, fr, e, by simp⟩)
     have hrow6 : w6.ownsRow B0 60 2 (.slice oa m15 oc) m15 (Kk (d.ow ++ L.take i)) := by
      have r5 := Kq HROW.out HC5.out (fun g o e hs => by
       obtain ⟨_, cur, hg⟩ := Ke HROW.out e; rcases hs with rfl | hs | hs | hs | hs
       · exact HWR.out.neOwn HROW.out (by decide) e
       · obtain ⟨_, cur', hg'⟩ := Ke H.out.lo hs
         have hw : w.heap[g]? = w.heap[g]? := rfl; rcases HOWN.out g e with h | h
         · obtain ⟨_, cur2, hg2⟩ := Ke H.out.orow h
           rw [hg2] at hg'; simp only [Option.some.injEq, Obj.cells.injEq] at hg'; exact absurd hg'.2.1 (by decide)
         · have := Kb hg'; omega
       · obtain ⟨_, cur', hg'⟩ := Ke H.out.lk hs
         rcases HOWN.out g e with h | h
         · obtain ⟨_, cur2, hg2⟩ := Ke H.out.orow h
           rw [hg2] at hg'; simp only [Option.some.injEq, Obj.cells.injEq] at hg'; exact absurd hg'.2.1 (by decide)
         · have := Kb hg'; omega
       · obtain ⟨_, cur', hg'⟩ := Ke HA.out hs
         rcases HOWN.out g e with h | h
         · obtain ⟨_, cur2, hg2⟩ := Ke H.out.orow h
           rw [hg2] at hg'; simp only [Option.some.injEq, Obj.cells.injEq] at hg'; exact absurd hg'.2.1 (by decide)
         · have := Kb hg'; omega
       · have := Kb hg; omega)
      exact Kq r5 hC6 (fun g o e hs => by
       obtain ⟨_, cur, hg⟩ := Ke r5 e; rcases hs with rfl | hs | hs | hs | hs
       · exact HW5.out.neOwn r5 (by decide) e
       · obtain ⟨_, cur', hg'⟩ := Ke HL5.out hs
         rw [hg] at hg'; simp only [Option.some.injEq, Obj.cells.injEq] at hg'; exact absurd hg'.2.1 (by decide)
       · obtain ⟨_, cur', hg'⟩ := Ke HX5.out hs
         rw [hg] at hg'; simp only [Option.some.injEq, Obj.cells.injEq] at hg'; exact absurd hg'.2.1 (by decide)
       · obtain ⟨_, cur', hg'⟩ := Ke HB.out hs
         rcases HOWN.out g e with h | h
         · obtain ⟨_, cur2, hg2⟩ := Ke H.out.orow h
           rw [hg2] at hg'; simp only [Option.some.injEq, Obj.cells.injEq] at hg'; exact absurd hg'.2.1 (by decide)
         · have := Kb hg'; omega
       · have := Kb hg; omega)
     have hap : ∀ x cs fr, ((Value.slice aa k ac).ownBlock = some x \/ w.heap.size <= x) -> x < w5.heap.size -> w5.heap[x]? = some (.cells cs 78 fr) -> ¬ (x = b \/ lv5.ownBlock = some x \/ wv5.ownBlock = some x \/ (Value.slice bb k bc).ownBlock = some x \/ w5.heap.size <= x) := fun x cs fr hx hlt hg hs => by
      rcases hs with rfl | hs | hs | hs | hs
      · obtain ⟨cs', hb⟩ := HW5.out.block
        rw [hg] at hb; simp only [Option.some.injEq, Obj.cells.injEq] at hb; exact absurd hb.2.1 (by decide)
      · obtain ⟨_, cur', hg'⟩ := Ke HL5.out hs
        rw [hg] at hg'; simp only [Option.some.injEq, Obj.cells.injEq] at hg'; exact absurd hg'.2.1 (by decide)
      · obtain ⟨_, cur', hg'⟩ := Ke HX5.out hs
        rw [hg] at hg'; simp only [Option.some.injEq, Obj.cells.injEq] at hg'; exact absurd hg'.2.1 (by decide)
      · rcases hx with hx | hx
        · exact HAB.out x hx hs
        · have := (HB.out.lt x hs).2; omega
      · omega
     have hown5 : ∀ x, v2.ownBlock = some x \/ u1.ownBlock = some x \/ u2.ownBlock = some x -> (Value.slice aa k ac).ownBlock = some x \/ w.heap.size <= x := fun x hx => (HOWN5.out x hx).imp id (fun h => by omega)
     have hg1 := (HH1.out.apart hC6 (fun x cs fr hx => hap x cs fr (hx.elim .inl (fun hx => hown5 x (.inr (.inl hx)))))).mono hsz6
     have hg2 := (HH2.out.apart hC6 (fun x cs fr hx => hap x cs fr (hown5 x (hx.elim .inl (fun hx => .inr (.inr hx)))))).mono hsz6
     have hkl : d.ks.length = d.os.length := by have := H.out.lk.1; omega
     have hos : (d.os ++ [.slice aa k ac, v2] ++ [.slice bb k bc, v4]).length = d.os.length + 2 + 2 := by simp
     obtain ⟨xa, xc, e18⟩ := Kg hl6; obtain ⟨ya, yc, e19⟩ := Kg hw6; obtain ⟨G, hG⟩ : ∃ G, upd (upd (upd (upd (upd (upd F 18 lv5) 19 wv5) 20 (.int .i64 (d.mark + k + 2))) 18 lv6) 19 wv6) 20 (.int .i64 (d.mark + k + 2 + k + 2)) = G := ⟨_, rfl⟩; rw [hG] at hW6; have g15 : G 15 = .slice oa m15 oc := by rw [<- hG, <- HF.out]; simp [upd]
     have g18 : G 18 = lv6 := by rw [<- hG]; simp [upd]
     have g19 : G 19 = wv6 := by rw [<- hG]; simp [upd]
     have g20 : G 20 = .int .i64 (d.mark + k + 2 + k + 2) := by rw [<- hG]; simp [upd]
     have hGf : ∀ j, j ≠ 15 -> j ≠ 18 -> j ≠ 19 -> j ≠ 20 -> G j = f j := fun j h1 h2 h3 h4 => by rw [<- hG, <- HF.out]; simp [upd, h1, h2, h3, h4]
     have hS := H.out.turnP (d' := { d with ow := d.ow ++ L.take i, os := d.os ++ [.slice aa k ac, v2] ++ [.slice bb k bc, v4], ks := d.ks ++ [u1, u2] ++ [u3, u4], mark := d.mark + k + 2 + k + 2 }) KK hW6
      (fun j _ h1 h2 h3 h4 => hGf j h1 h2 h3 h4) rfl rfl rfl rfl rfl (by decide) (by decide) (by decide) (by decide) (by decide)
      ⟨oa, oc, by rw [g15, HM15.out]⟩ (by rw [g15, <- HM15.out]; exact hrow6) (by show (d.ow ++ L.take i).length <= 60; rw [<- HM15.out]; exact h60) (fun q hq => by
       rcases List.mem_append.1 hq with hq | hq
       · exact H.out.oz q hq
       · exact HZ.out q (List.mem_of_mem_take hq))
      ⟨xa, xc, by rw [g18, e18, hos]⟩ ⟨ya, yc, by rw [g19, e19, hos]⟩ (by rw [g18, hos]; exact hl6) (by rw [g19, hos]; exact hw6) (by rw [hos]; omega) (by rw [g18, g19]; exact hne6)
      (fun j v u hv hu => by
       have hv' : (d.os ++ ([.slice aa k ac, v2] ++ [.slice bb k bc, v4]))[j]? = some v := by rw [<- List.append_assoc]; exact hv
       have hu' : (d.ks ++ ([u1, u2] ++ [u3, u4]))[j]? = some u := by rw [<- List.append_assoc]; exact hu
       by_cases hj : j < d.os.length
       · rw [List.getElem?_append_left hj] at hv'
         rw [List.getElem?_append_left (by omega)] at hu'
         refine ((HHELD.out j v u hv' hu').chg hcF (fun x cs fr hx hg hs => ?_)).mono (by omega)
         rcases hs with rfl | ⟨_, cs', t', fr', e, ht⟩ | ⟨hB, _⟩
         · obtain ⟨cs', hb⟩ := H.out.blk.block
           rw [hg] at hb; simp only [Option.some.injEq, Obj.cells.injEq] at hb; exact absurd hb.2.1 (by decide)
         · simp only [Obj.cells.injEq] at e
           rw [<- e.2.1] at ht; exact absurd ht (by decide)
         · omega
       · rw [List.getElem?_append_right (by omega)] at hv'
         rw [List.getElem?_append_right (by omega), hkl] at hu'
         obtain ⟨z, hz⟩ : ∃ z, j - d.os.length = z := ⟨_, rfl⟩; rw [hz] at hv' hu'; rcases z with _ | _ | _ | _ | z
         · simp at hv' hu'; rw [<- hv', <- hu']; exact hg1
         · simp at hv' hu'; rw [<- hv', <- hu']; exact hg2
         · simp at hv' hu'; rw [<- hv', <- hu']; exact hh3
         · simp at hv' hu'; rw [<- hv', <- hu']; exact hh4
         · simp at hv')
      g20 (by show 0 <= d.mark + (k : Int) + 2 + (k : Int) + 2 /\ d.mark + (k : Int) + 2 + (k : Int) + 2 <= 100 * ((n + 1 : Nat) : Int); omega)
     have hK : K14 w f G := .same (hGf 14 (by omega) (by omega) (by omega) (by omega)) (hGf 6 (by omega) (by omega) (by omega) (by omega)) (hGf 7 (by omega) (by omega) (by omega) (by omega))
     have hCF : Chg (SQP B0 b Bh) w w6 := hcF.mono (fun x o _ hs => by
      rcases hs with rfl | ⟨hB, cs, t, fr, e, ht⟩ | hs
      · exact .inl ⟨hB0, .inl rfl⟩
      · refine .inl ⟨hB, .inr ⟨cs, t, fr, e, ?_⟩⟩
        simp only [List.mem_cons, List.not_mem_nil, or_false] at ht; rcases ht with rfl | rfl <;> simp [Zb]
      · exact .inr hs)
     have HS6 := Hd hS; have HK6 := Hd hK; have HCF := Hd hCF; clear hS hK hCF hcF KK hmid hrow6 hap hown5 hg1 hg2 hkl hos e18 e19 hG hW6 g15 g18 g19 g20 hGf hl6 hw6 hne6 hh3 hh4 hC6; go_wp2; go_ret
     exact ⟨rfl, _, _, HS6.out, HK6.out, HCF.out⟩
theorem decodeM_ok {bs : List UInt8} {m : M} (h : Ja bs = some m) : MOk m := by
 unfold Ja at h
 split at h
 · rename_i hc
   cases h
   exact mok_of hc.2
 · cases h
theorem bytes_size {m : M} (h : Jn m = true) : (strOfNums (Jr m)).size <= 60 := by
 have h8 := whole_len h; have e : (strOfNums (Jr m)).size = (Jr m).length := by simp [strOfNums, ByteArray.size]
 rw [e, Jr, List.length_append, head_length, keyBytes_length]; omega
theorem tick_len {x : Nd} {B : Int} (h : Ok x) (hb : Bd B x) : x.tick.1.length <= 20 := by
 have hcfg := cfg_bounds (clocked_all h hb).1.cfg
 have hw : x.clocked.waits.1.length <= 3 := by
  unfold Nd.waits
  split
  · simp
  · rename_i p _
    simp only
    split
    · have := askAll_len p x.clocked.c.prox.toNat (x.clocked.helpers p) x.clocked
      omega
    · simp
 have hb : ∀ y : Nd, y.begins.1.length <= 1 := fun y => by
  unfold Nd.begins; simp only
  split <;> simp
 unfold Nd.tick; simp only
 split
 · rw [List.length_append]
   have := hb x.clocked.waits.2; omega
 · omega
theorem receive_len (x : Nd) (o : Option M) : (x.receive o).1.length <= 20 := by
 unfold Nd.receive; cases o with
 | none => simp
 | some m =>
  simp only
  split
  · simp
  · generalize x.heardAll m = y
    have hp : (y.pinged m).1.length <= 20 := by unfold Nd.pinged; split <;> simp
    unfold Nd.answer
    split
    · exact hp
    · split
      · unfold Nd.acked
        simp only
        split <;> simp
      · split
        · unfold Nd.asked
          split
          · exact hp
          · split <;> simp
        · split <;> simp [Nd.joined]
theorem join_len (x : Nd) (n : Int) : (x.join n).1.length <= 20 := by
 unfold Nd.join
 split
 · simp
 · split <;> simp
def PartO (_ : Nat) (o : Obj) : Prop := ∀ cs t fr, o = .cells cs t fr -> t ∈ Jv
theorem Turned.typed {v : Value} {w w' : World} {a a' : Ad} {x x' : Nd} {ov : Value} (h : Turned v w a x w' a' x') (hn : NodeAt w a ov x) : Chg PartO w w' :=
 ⟨h.chg.os, h.chg.tape, h.chg.output, h.chg.size, fun k o hk hs => h.chg.kept k o hk (fun ho => hs (fun _ _ _ e => hn.owns_type ho (e ▸ hk)))⟩
theorem own_parts {w w' : World} {B e s n : Nat} {v : Value} {xs : List Value} (h : w.ownsRow B e s v n xs) (hc : Chg PartO w w') (he : e ∉ Jv) : w'.ownsRow B e s v n xs :=
 Jf h hc (fun _ _ _ hs _ _ ho => he (hs _ _ _ ho))
structure PAt (Bh B0 b n : Nat) (w : World) (f : Nat -> Value) (d : Sd) (F : Nat -> Prop) (l : List En) : Prop where
 s : SAt B0 b n w f d
 e : Ens w B0 F l
 row : w.ownsRow B0 51 1 (f 14) l.length (l.map En.v)
 sl : ∃ a c, f 14 = .slice a l.length c
 fr : ∀ i, i = 6 \/ i = 7 -> ∀ k, (f i).ownBlock = some k -> F k
 len : l.length <= n
 hB : B0 <= Bh
 hBw : Bh <= w.heap.size
 held : ∀ (i : Nat) v u, d.os[i]? = some v -> d.ks[i]? = some u -> HeldP Bh w v u
 heldK : ∀ (i : Nat) v u, d.xs[i]? = some v -> d.ys[i]? = some u -> HeldK Bh w v u
section
variable {Bh B0 b n : Nat} {w w' : World} {f : Nat -> Value} {d : Sd} {F : Nat -> Prop} {l l' : List En}
theorem PAt.base (h : PAt Bh B0 b n w f d F l) : PAt w.heap.size B0 b n w f d F l := { h with hB := Nat.le_trans h.hB h.hBw, hBw := Nat.le_refl _, held := h.s.lp, heldK := h.s.lh }
theorem PAt.B0w (h : PAt Bh B0 b n w f d F l) : B0 <= w.heap.size := Nat.le_trans h.hB h.hBw
theorem PAt.turned (h : PAt Bh B0 b n w f d F l) {S : Nat -> Obj -> Prop} (hc : Chg S w w') (hS : ∀ k o, w.heap[k]? = some o -> S k o -> ∃ e ∈ l, ∃ c, c < 3 /\ Pc e c k) (hE : Ens w' B0 F l') (hl : l'.map En.v = l.map En.v) : PAt Bh B0 b n w' f d F l' := by
 have hT : ∀ k o, w.heap[k]? = some o -> S k o -> ∀ cs t fr, o = .cells cs t fr -> t ∈ Jv := fun k o hk hs cs t fr e => by
  obtain ⟨en, hen, c, _, hp⟩ := hS k o hk hs; exact (h.e.at_ en hen).type hp (e ▸ hk)
 have hlen : l'.length = l.length := by have := congrArg List.length hl; simpa using this
 have nt : ∀ t, t ∈ Jv -> t ∉ Zb /\ t ∉ heldTypes /\ t ≠ 51 := by decide
 exact {
  s := h.s.foreign hc (fun k o hk hs => ⟨fun cs t fr e => ⟨(nt t (hT k o hk hs cs t fr e)).1, (nt t (hT k o hk hs cs t fr e)).2.1⟩,
   fun e => by obtain ⟨en, hen, c, hc3, hp⟩ := hS k o hk hs; exact h.e.off k (h.fr 6 (.inl rfl) k e) en hen c hc3 hp,
   fun e => by obtain ⟨en, hen, c, hc3, hp⟩ := hS k o hk hs; exact h.e.off k (h.fr 7 (.inr rfl) k e) en hen c hc3 hp⟩)
  e := hE
  row := by rw [hlen, hl]; exact Jf h.row hc (fun k o hk hs cs fr e => (nt _ (hT k o hk hs cs _ fr e)).2.2 rfl)
  sl := by rw [hlen]; exact h.sl
  fr := h.fr
  len := by rw [hlen]; exact h.len
  hB := h.hB
  hBw := Nat.le_trans h.hBw hc.size
  held := fun i v u hv hu => (h.held i v u hv hu).chg hc (fun k cs fr _ hk hs => (nt _ (hT k _ hk hs cs _ fr rfl)).2.1 (by decide))
  heldK := fun i v u hv hu => (h.heldK i v u hv hu).chg hc (fun k cs fr _ hk hs => (nt _ (hT k _ hk hs cs _ fr rfl)).2.1 (by decide)) }
theorem setEn_v {i : Nat} {e e' : En} (hi : l[i]? = some e) (h : e'.nb = e.nb) : (l.set i e').map En.v = l.map En.v := by
 obtain ⟨hl, he⟩ := List.getElem?_eq_some_iff.1 hi; rw [List.map_set]; refine List.ext_getElem? (fun j => ?_)
 by_cases hj : i = j
 · subst hj
   rw [List.getElem?_set_self (by simpa using hl), List.getElem?_map, hi]
   simp [En.v, h]
 · rw [List.getElem?_set_ne hj]
theorem PAt.turnP (h : PAt Bh B0 b n w f d F l) {i : Nat} {e : En} (hi : l[i]? = some e) {v : Value} {a' : Ad} {x' : Nd} (ht : Turned v w e.p.a e.p.x w' a' x') : PAt Bh B0 b n w' f d F (l.set i { e with p := ⟨e.p.g, a', x'⟩ }) :=
 h.turned ht.chg (fun k _ _ hs => ⟨e, List.mem_of_getElem? hi, 0, by omega, .inr hs⟩) (h.e.turnP h.B0w hi ht) (setEn_v hi rfl)
theorem PAt.turnQ (h : PAt Bh B0 b n w f d F l) {i : Nat} {e : En} (hi : l[i]? = some e) {v : Value} {a' : Ad} {x' : Nd} (ht : Turned v w e.q.a e.q.x w' a' x') : PAt Bh B0 b n w' f d F (l.set i { e with q := ⟨e.q.g, a', x'⟩ }) :=
 h.turned ht.chg (fun k _ _ hs => ⟨e, List.mem_of_getElem? hi, 1, by omega, .inr hs⟩) (h.e.turnQ h.B0w hi ht) (setEn_v hi rfl)
theorem PAt.turnR (h : PAt Bh B0 b n w f d F l) {i : Nat} {e : En} (hi : l[i]? = some e) {f' : Nat -> Value} {x' : Nd} (hr : RfAt w' B0 e.b f' x') (hc : Chg (fun k _ => RFoot e.b e.f k) w w') (hown : ∀ k, RFoot e.b f' k -> RFoot e.b e.f k \/ w.heap.size <= k) (h6 : f' 6 = e.f 6) : PAt Bh B0 b n w' f d F (l.set i { e with f := f', r := x' }) :=
 h.turned hc (fun k _ _ hs => ⟨e, List.mem_of_getElem? hi, 2, by omega, hs⟩) (h.e.turnR hi hr hc hown h6) (setEn_v hi rfl)
theorem PAt.below (h : PAt Bh B0 b n w f d F l) (hb : Below w.heap.size w w') : PAt Bh B0 b n w' f d F l :=
 h.turned (S := fun k _ => w.heap.size <= k) ⟨hb.os, hb.tape, hb.output, hb.size, fun k o hk _ => (hb.block k (Kb hk)).trans hk⟩ (fun k o hk hs => by have := Kb hk; omega) (h.e.below hb) rfl
theorem PAt.step (h : PAt Bh B0 b n w f d F l) {n' : Nat} {f' : Nat -> Value} {d' : Sd} (hS : SAt B0 b n' w' f' d') (hk : K14 w f f') {S : Nat -> Obj -> Prop} (hc : Chg S w w')
  (hT : ∀ k o, w.heap[k]? = some o -> S k o -> ∃ cs t fr, o = .cells cs t fr /\ t ∉ Jv /\ t ≠ 88 /\ t ≠ 51) (hn : n <= n') : ∃ F', PAt w'.heap.size B0 b n' w' f' d' F' l := by
 have hE := h.e.chg hc (fun k o hk hs => by obtain ⟨cs, t, fr, e, h1, h2, _⟩ := hT k o hk hs; exact ⟨cs, t, fr, e, h1, h2⟩)
 have hrow : w'.ownsRow B0 51 1 (f' 14) l.length (l.map En.v) := by
  rw [hk.1]; refine Jf h.row hc (fun k o hk hs cs fr e => ?_)
  obtain ⟨cs', t, fr', e', _, _, h3⟩ := hT k o hk hs; rw [e] at e'; simp only [Obj.cells.injEq] at e'; exact h3 e'.2.1.symm
 refine ⟨fun k => F k \/ ((f' 6).ownBlock = some k \/ (f' 7).ownBlock = some k), hS, hE.more (fun k hk => ?_) (fun k hk' => ?_), hrow, by rw [hk.1]; exact h.sl, fun i hi k hk => ?_, Nat.le_trans h.len hn, Nat.le_trans h.B0w hc.size, Nat.le_refl _, hS.lp, hS.lh⟩
 · rcases hk with hk | hk
   · obtain ⟨a, c, e, hr⟩ := hS.m6
     rw [e] at hk; cases a with
     | none => simp [Value.ownBlock] at hk
     | some p =>
      simp only [Value.ownBlock, Option.some.injEq] at hk; obtain ⟨cs, fr, hg⟩ := hr.2 p rfl; rw [hk] at hg; exact ⟨_, _, _, hg, by decide⟩
   · obtain ⟨a, c, e, hr⟩ := hS.d7
     rw [e] at hk; cases a with
     | none => simp [Value.ownBlock] at hk
     | some p =>
      simp only [Value.ownBlock, Option.some.injEq] at hk; obtain ⟨cs, fr, hg⟩ := hr.2 p rfl; rw [hk] at hg; exact ⟨_, _, _, hg, by decide⟩
 · have : ∃ i, (i = 6 \/ i = 7) /\ (f' i).ownBlock = some k := by
    rcases hk' with e | e
    · exact ⟨6, .inl rfl, e⟩
    · exact ⟨7, .inr rfl, e⟩
   obtain ⟨i, hi, e⟩ := this; rcases hk.2 i hi k e with e | e
   · exact .inl (h.fr i hi k e)
   · exact .inr (fun en hen c hc3 hp => by have := ((h.e.at_ en hen).lt hp).2; omega)
 · rcases hi with rfl | rfl
   · exact .inr (.inl hk)
   · exact .inr (.inr hk)
theorem sq_types (hb : WB w b f) {k : Nat} {o : Obj} (hk : w.heap[k]? = some o) (hs : SQP B0 b Bh k o) : ∃ cs t fr, o = .cells cs t fr /\ t ∉ Jv /\ t ≠ 88 /\ t ≠ 51 := by
 rcases hs with ⟨_, rfl | ⟨cs, t, fr, e, ht⟩⟩ | ⟨_, c, fr, e⟩
 · obtain ⟨cs, h1⟩ := hb.block
   rw [hk] at h1; cases h1; exact ⟨_, _, _, rfl, by decide, by decide, by decide⟩
 · refine ⟨cs, t, fr, e, ?_⟩
   simp only [Zb, List.mem_cons, List.not_mem_nil, or_false] at ht; rcases ht with rfl | rfl | rfl | rfl | rfl <;> exact ⟨by decide, by decide, by decide⟩
 · exact ⟨c, _, fr, e, by decide, by decide, by decide⟩
theorem PAt.stepSQ (h : PAt Bh B0 b n w f d F l) {n' : Nat} {f' : Nat -> Value} {d' : Sd} (hS : SAt B0 b n' w' f' d') (hk : K14 w f f') (hc : Chg (SQ B0 b) w w') (hn : n <= n') : ∃ F', PAt w'.heap.size B0 b n' w' f' d' F' l :=
 h.step hS hk hc (fun _ _ hk hs => sq_types (Bh := Bh) h.s.blk hk (.inl hs)) hn
theorem PAt.stepSQP (h : PAt Bh B0 b n w f d F l) {n' : Nat} {f' : Nat -> Value} {d' : Sd} (hS : SAt B0 b n' w' f' d') (hk : K14 w f f') (hc : Chg (SQP B0 b Bh) w w') (hn : n <= n') : ∃ F', PAt w'.heap.size B0 b n' w' f' d' F' l :=
 h.step hS hk hc (fun _ _ hk hs => sq_types h.s.blk hk hs) hn
end
def Alike (n : Nat) (e : En) : Prop := e.p.x = e.r /\ e.q.x = e.r /\ Ok e.r /\ Bd (1000 * n) e.r /\ e.r.ds.length <= 1000000
theorem Alike.mono {n m : Nat} {e : En} (h : Alike n e) (hn : n <= m) : Alike m e := ⟨h.1, h.2.1, h.2.2.1, h.2.2.2.1.mono (by omega), h.2.2.2.2⟩
def Zg (B0 b n : Nat) (w : World) (w' : World) : Prop := Below B0 w w' /\ ∃ f d F l, PAt w'.heap.size B0 b n w' f d F l /\ ∀ e ∈ l, Alike n e
