/-
  Texts of the proof: Looks, Codec, Encoded, Own, Text. No condition.
-/
import Derived.Test.YtfngdplkcppabaaGreatDoorPart01
import Derived.Test.YtfngdplkcppabaaGreatDoorPart04
import Derived.Test.YtfngdplkcppabaaGreatDoorPart02
import Derived.Test.YtfngdplkcppabaaGreatDoorPart03
import Derived.Deep.DeepMust
import Derived.RegionCalls
import Derived.Deep.RegionWith
set_option linter.all false
set_option maxRecDepth 100000
set_option maxHeartbeats 4000000
namespace Go.Proofs.YtfngdplkcppabaaGreatDoor
open Go.RowKit
def Kk (l : List (Int × ByteArray)) : List Value := l.flatMap fun p => [.int .i64 p.1, .string p.2]
theorem rpCells_length (l : List (Int × ByteArray)) : (Kk l).length = 2 * l.length := by
 induction l with
 | nil => rfl
 | cons a l ih => simp [Kk] at ih ⊢; omega
theorem rpCells_at (l : List (Int × ByteArray)) : ∀ (i : Nat) (p : Int × ByteArray), l[i]? = some p -> (Kk l)[i * 2]? = some (.int .i64 p.1) /\ (Kk l)[i * 2 + 1]? = some (.string p.2) := by
 induction l with
 | nil => intro i p h; simp at h
 | cons a l ih =>
  intro i p h; cases i with
  | zero => simp at h; subst h; simp [Kk]
  | succ i =>
   have e : Kk (a :: l) = [.int .i64 a.1, .string a.2] ++ Kk l := rfl; have := ih i p (by simpa using h)
   rw [e]
   constructor
   · rw [List.getElem?_append_right (by simp; omega)]
     rw [show (i + 1) * 2 - [Value.int IntKind.i64 a.1, Value.string a.2].length = i * 2 by simp; omega]; exact this.1
   · rw [List.getElem?_append_right (by simp; omega)]
     rw [show (i + 1) * 2 + 1 - [Value.int IntKind.i64 a.1, Value.string a.2].length = i * 2 + 1 by simp; omega]; exact this.2
def PkIn (B : Nat) (w : World) (a : Option Addr) (L : List (Int × ByteArray)) : Prop :=
 Ki w a (Kk L) /\ ∀ b off, a = some ⟨b, off, none⟩ -> L ≠ [] -> b < B /\ ∃ cs f, w.heap[b]? = some (.cells cs 78 f)
def HeldP (B : Nat) (w : World) (v u : Value) : Prop :=
 ∃ L a n cap a' cap', v = .slice a n cap /\ u = .slice a' n cap' /\ L.length = n /\ n <= 1000000 /\ PkIn B w a L /\ PkIn B w a' L
theorem PkIn.chg {S : Nat -> Obj -> Prop} {B : Nat} {w w' : World} {a : Option Addr} {L : List (Int × ByteArray)} (h : PkIn B w a L) (hc : Chg S w w') (hS : ∀ k cs f, k < B -> w.heap[k]? = some (.cells cs 78 f) -> ¬ S k (.cells cs 78 f)) : PkIn B w' a L := by
 by_cases hL : L = []
 · subst hL
   exact ⟨fun j v hj => by simp [Kk] at hj, fun b off e hn => absurd rfl hn⟩
 refine ⟨h.1.heap (fun b off e hb => ?_), fun b off e hn => ?_⟩
 · obtain ⟨hB, cs, f, hg⟩ := h.2 b off e hL
   have := hc.kept b _ hg (hS b cs f hB hg); exact ⟨this.trans hg.symm, Kb this⟩
 · obtain ⟨hB, cs, f, hg⟩ := h.2 b off e hL
   exact ⟨hB, cs, f, hc.kept b _ hg (hS b cs f hB hg)⟩
theorem HeldP.chg {S : Nat -> Obj -> Prop} {B : Nat} {w w' : World} {v u : Value} (h : HeldP B w v u) (hc : Chg S w w') (hS : ∀ k cs f, k < B -> w.heap[k]? = some (.cells cs 78 f) -> ¬ S k (.cells cs 78 f)) : HeldP B w' v u := by
 obtain ⟨L, a, n, cap, a', cap', e1, e2, e3, e4, h1, h2⟩ := h; exact ⟨L, a, n, cap, a', cap', e1, e2, e3, e4, h1.chg hc hS, h2.chg hc hS⟩
theorem HeldP.mono {B C : Nat} {w : World} {v u : Value} (h : HeldP B w v u) (hBC : B <= C) : HeldP C w v u := by
 obtain ⟨L, a, n, cap, a', cap', e1, e2, e3, e4, ⟨h1, h2⟩, h3, h4⟩ := h; exact ⟨L, a, n, cap, a', cap', e1, e2, e3, e4, ⟨h1, fun b off e hn => by obtain ⟨hB, r⟩ := h2 b off e hn; exact ⟨by omega, r⟩⟩, ⟨h3, fun b off e hn => by obtain ⟨hB, r⟩ := h4 b off e hn; exact ⟨by omega, r⟩⟩⟩
theorem row_cell {w : World} {B e n cap i : Nat} {a : Option Addr} {xs : List Value} {v : Value} (h : w.ownsRow B e 1 (.slice a n cap) n xs) (hi : xs[i]? = some v) : ∃ g, a = some ⟨g, 0, none⟩ /\ g < w.heap.size /\ w.cell? ⟨g, i, none⟩ = some v := by
 have hlt : i < xs.length := by
  rcases Nat.lt_or_ge i xs.length with h' | h'
  · exact h'
  · rw [List.getElem?_eq_none h'] at hi; cases hi
 rcases h.2 with ⟨e', _⟩ | ⟨g, cap', cur, e', _, hg, _, _, _, ht⟩
 · have := h.1; omega
 · simp only [Value.slice.injEq] at e'
   obtain ⟨rfl, _, _⟩ := e'; refine ⟨g, rfl, Kb hg, ?_⟩; rw [Ka hg]; rw [<- ht, List.getElem?_take] at hi; rw [<- Array.getElem?_toList]; by_cases hl : i < n * 1
   · rw [if_pos hl] at hi; exact hi
   · rw [if_neg hl] at hi; cases hi
theorem looks_any (b : Nat) (f : Nat -> Value) (la wa oa ka : Option Addr) (lc wc oc kc nl no : Nat) (xs ys os ks : List Value) (B0 Bk : Nat) (w : World)
  (hW : WB w b f) (h16 : f 16 = .slice la nl lc) (h17 : f 17 = .slice wa nl wc) (h18 : f 18 = .slice oa no oc) (h19 : f 19 = .slice ka no kc)
  (hl : w.ownsRow B0 46 1 (.slice la nl lc) nl xs) (hw : w.ownsRow B0 46 1 (.slice wa nl wc) nl ys)
  (ho : w.ownsRow B0 77 1 (.slice oa no oc) no os) (hk : w.ownsRow B0 77 1 (.slice ka no kc) no ks)
  (hnl : nl <= 1000000) (hno : no <= 1000000)
  (hheld : ∀ (i : Nat) v u, xs[i]? = some v -> ys[i]? = some u -> HeldK Bk w v u) (hheldP : ∀ (i : Nat) v u, os[i]? = some v -> ks[i]? = some u -> HeldP Bk w v u) :
  Calls Tryz.prog 16 #[.pointer (some ⟨b, 0, none⟩)] w fun e w' => e = .returned (.bool true) /\ Below w.heap.size w w' := by
 have hlt := hW.lt; have c16 : w.cell? ⟨b, 16, none⟩ = some (.slice la nl lc) := by rw [<- h16]; exact hW.cell (by omega)
 have c17 : w.cell? ⟨b, 17, none⟩ = some (.slice wa nl wc) := by rw [<- h17]; exact hW.cell (by omega)
 have c18 : w.cell? ⟨b, 18, none⟩ = some (.slice oa no oc) := by rw [<- h18]; exact hW.cell (by omega)
 have c19 : w.cell? ⟨b, 19, none⟩ = some (.slice ka no kc) := by rw [<- h19]; exact hW.cell (by omega)
 have HL := Hd hl; have HX := Hd hw; have HO := Hd ho; have HK := Hd hk; have HH := Hd hheld; have HHP := Hd hheldP; have C16 := Hd c16; have C17 := Hd c17; have C18 := Hd c18; have C19 := Hd c19; clear hW hl hw ho hk hheld hheldP h16 h17 h18 h19 c16 c17 c18 c19; go_enter Tryz.func16, Tryz.ntmps16; go_wp2_with fail
 go_loopw [3] (fun i wr => ∃ k : Nat, k <= nl /\ i = .int .i64 k /\ Below w.heap.size w wr) (fun i _ => nl - (intOf i).toNat)
 case atStart => exact ⟨0, Nat.zero_le _, rfl, Below.refl _ _⟩
 case round =>
  obtain ⟨k, hkl, rfl, hb⟩ := hrel; have c16 : wr.cell? ⟨b, 16, none⟩ = some (.slice la nl lc) := (hb.cell hlt).trans C16.out; have c17 : wr.cell? ⟨b, 17, none⟩ = some (.slice wa nl wc) := (hb.cell hlt).trans C17.out; have HBB := Hd hb; clear hb; by_cases hk : k < nl
  · have hxl : xs.length = nl := by have := HL.out.1; omega
    have hyl : ys.length = nl := by have := HX.out.1; omega
    have hx := List.getElem?_eq_getElem (l := xs) (i := k) (by omega)
    have hy := List.getElem?_eq_getElem (l := ys) (i := k) (by omega)
    obtain ⟨L, a, n, cap, a', cap', ev, eu, hLn, hn, hKa, hKb⟩ := HH.out k _ _ hx hy; rw [ev] at hx; rw [eu] at hy; obtain ⟨g1, rfl, hg1, d1⟩ := row_cell HL.out hx; obtain ⟨g2, rfl, hg2, d2⟩ := row_cell HX.out hy; rw [<- HBB.out.cell (p := ⟨g1, k, none⟩) hg1] at d1; rw [<- HBB.out.cell (p := ⟨g2, k, none⟩) hg2] at d2; have HKA := Hd hKa.keys; have HKB := Hd hKb.keys; have HLN := Hd hLn; have D1 := Hd d1; have D2 := Hd d2; clear hx hy hKa hKb hLn hxl hyl ev eu; go_wp2_with fail
    go_loopw [4] (fun i wr => ∃ j : Nat, j <= n /\ i = .int .i64 j /\ Below w.heap.size w wr) (fun i _ => n - (intOf i).toNat)
    case atStart => exact ⟨0, Nat.zero_le _, rfl, HBB.out⟩
    case round =>
     obtain ⟨j, hjn, rfl, hb2⟩ := hrel; have c16 : wr.cell? ⟨b, 16, none⟩ = some (.slice (some ⟨g1, 0, none⟩) nl lc) := (hb2.cell hlt).trans C16.out; have c17 : wr.cell? ⟨b, 17, none⟩ = some (.slice (some ⟨g2, 0, none⟩) nl wc) := (hb2.cell hlt).trans C17.out; have d1 : wr.cell? ⟨g1, k, none⟩ = some (.slice a n cap) := ((hb2.cell (p := ⟨g1, k, none⟩) hg1).trans (HBB.out.cell (p := ⟨g1, k, none⟩) hg1).symm).trans D1.out; have d2 : wr.cell? ⟨g2, k, none⟩ = some (.slice a' n cap') := ((hb2.cell (p := ⟨g2, k, none⟩) hg2).trans (HBB.out.cell (p := ⟨g2, k, none⟩) hg2).symm).trans D2.out; by_cases hj : j < n
     · have hjL : j < L.length := by have := HLN.out; omega
       obtain ⟨b1, off1, rfl, hb1, e0, e1, e2⟩ := HKA.out j L[j] (List.getElem?_eq_getElem hjL); obtain ⟨b2, off2, rfl, hb2', e0', e1', e2'⟩ := HKB.out j L[j] (List.getElem?_eq_getElem hjL); rw [<- hb2.cell hb1] at e0 e1 e2; rw [<- hb2.cell hb2'] at e0' e1' e2'; have HB2 := Hd hb2; clear hb2; go_wp2; go_quiet (fail); go_wp2; go_roundw
       case rel => exact ⟨j + 1, by omega, by go_num, below_drewN HB2.out _⟩
       case measure => simp [intOf]; omega
     · have hj' : j = n := by omega
       subst hj'; have HB2 := Hd hb2; clear hb2; go_wp2_with fail
       exact ⟨⟨k + 1, by omega, by go_num, HB2.out⟩, by simp [intOf]; omega⟩
  · have hk' : k = nl := by omega
    subst hk'; go_wp2_with fail
    go_loopw [5] (fun i wr => ∃ k : Nat, k <= no /\ i = .int .i64 k /\ Below w.heap.size w wr) (fun i _ => no - (intOf i).toNat)
    case atStart => exact ⟨0, Nat.zero_le _, rfl, HBB.out⟩
    case round =>
     obtain ⟨k, hkl, rfl, hb⟩ := hrel; have c18 : wr.cell? ⟨b, 18, none⟩ = some (.slice oa no oc) := (hb.cell hlt).trans C18.out; have c19 : wr.cell? ⟨b, 19, none⟩ = some (.slice ka no kc) := (hb.cell hlt).trans C19.out; have HBB := Hd hb; clear hb; by_cases hk : k < no
     · have hxl : os.length = no := by have := HO.out.1; omega
       have hyl : ks.length = no := by have := HK.out.1; omega
       have hx := List.getElem?_eq_getElem (l := os) (i := k) (by omega)
       have hy := List.getElem?_eq_getElem (l := ks) (i := k) (by omega)
       obtain ⟨L, a, n, cap, a', cap', ev, eu, hLn, hn, hKa, hKb⟩ := HHP.out k _ _ hx hy; rw [ev] at hx; rw [eu] at hy; obtain ⟨g1, rfl, hg1, d1⟩ := row_cell HO.out hx; obtain ⟨g2, rfl, hg2, d2⟩ := row_cell HK.out hy; rw [<- HBB.out.cell (p := ⟨g1, k, none⟩) hg1] at d1; rw [<- HBB.out.cell (p := ⟨g2, k, none⟩) hg2] at d2; have HKA := Hd hKa.1; have HKB := Hd hKb.1; have HLN := Hd hLn; have D1 := Hd d1; have D2 := Hd d2; clear hx hy hKa hKb hLn hxl hyl ev eu; go_wp2_with fail
       go_loopw [6] (fun i wr => ∃ j : Nat, j <= n /\ i = .int .i64 j /\ Below w.heap.size w wr) (fun i _ => n - (intOf i).toNat)
       case atStart => exact ⟨0, Nat.zero_le _, rfl, HBB.out⟩
       case round =>
        obtain ⟨j, hjn, rfl, hb2⟩ := hrel; have c18 : wr.cell? ⟨b, 18, none⟩ = some (.slice (some ⟨g1, 0, none⟩) no oc) := (hb2.cell hlt).trans C18.out; have c19 : wr.cell? ⟨b, 19, none⟩ = some (.slice (some ⟨g2, 0, none⟩) no kc) := (hb2.cell hlt).trans C19.out; have d1 : wr.cell? ⟨g1, k, none⟩ = some (.slice a n cap) := ((hb2.cell (p := ⟨g1, k, none⟩) hg1).trans (HBB.out.cell (p := ⟨g1, k, none⟩) hg1).symm).trans D1.out; have d2 : wr.cell? ⟨g2, k, none⟩ = some (.slice a' n cap') := ((hb2.cell (p := ⟨g2, k, none⟩) hg2).trans (HBB.out.cell (p := ⟨g2, k, none⟩) hg2).symm).trans D2.out; by_cases hj : j < n
        · have hjL : j < L.length := by have := HLN.out; omega
          obtain ⟨k0, k1⟩ := rpCells_at L j L[j] (List.getElem?_eq_getElem hjL); obtain ⟨b1, off1, rfl, hb1, e0⟩ := HKA.out _ _ k0; obtain ⟨b1', off1', ex1, _, e1⟩ := HKA.out _ _ k1; cases ex1
          obtain ⟨b2, off2, rfl, hb2', e0'⟩ := HKB.out _ _ k0; obtain ⟨b2'', off2', ex2, _, e1'⟩ := HKB.out _ _ k1; cases ex2
          rw [<- hb2.cell hb1] at e0 e1; rw [<- hb2.cell hb2'] at e0' e1'; rw [<- Nat.add_assoc] at e1 e1'; have HB2 := Hd hb2; clear hb2 k0 k1; go_wp2; go_quiet (fail); go_wp2; go_roundw
          case rel => exact ⟨j + 1, by omega, by go_num, below_drewN HB2.out _⟩
          case measure => simp [intOf]; omega
        · have hj' : j = n := by omega
          subst hj'; have HB2 := Hd hb2; clear hb2; go_wp2_with fail
          exact ⟨⟨k + 1, by omega, by go_num, HB2.out⟩, by simp [intOf]; omega⟩
     · have hk' : k = no := by omega
       subst hk'; go_wp2; go_ret
       exact ⟨rfl, HBB.out⟩
theorem whole_len {m : M} (h : Jn m = true) : m.ups.length <= 8 := by
 unfold Jn at h; simp only [Bool.and_eq_true, Bool.not_eq_true', decide_eq_false_iff_not] at h; have h2 := h.1.1.1.1.2; rcases roomI_cases m.kind with hr | hr | hr <;> rw [hr] at h2 <;> omega
theorem encode_yes (m : M) (a : Option Addr) (n cap : Nat) (w : World) (hn : m.ups.length = n) (hk : Jq w a m.ups) (hw : Jn m = true) :
  Calls Tryz.prog 23 #[.agg #[.int .i64 m.kind, .int .i64 m.frm, .int .i64 m.inc, .int .i64 m.seq, .int .i64 m.tgt, .slice a n cap]] w fun e w' =>
   e = .returned (.tuple #[.string (strOfNums (Jr m)), .nilIface]) /\ Below w.heap.size w w' := by
 have h8 := whole_len hw; have HW := Hd hw; have HN := Hd hn; have hk1 := hk.below ((Below.refl _ w).alloc (Nat.le_refl _) (.cells #[.int .i64 m.kind, .int .i64 m.frm, .int .i64 m.inc, .int .i64 m.seq, .int .i64 m.tgt, .slice a n cap] 68)); have HK := Hd hk1; clear hw hk1 hk hn; go_enter Tryz.func23, Tryz.ntmps23; go_wp2_with fail
 refine (whole_at m a n cap _ HN.out (by have := HN.out; omega) HK.out).mono ?_
 rintro e w1 ⟨rfl, hb⟩; rw [HW.out]; have hbx : w1.heap[w.heap.size]? = _ := (hb.block _ (by simp)).trans (Kc w _)
 have hcx := Ka hbx; have HB := Hd hb; have HK1 := Hd (HK.out.below hb); clear hb hbx; go_wp2_with fail
 have hB : Calls Tryz.prog 46 #[.agg #[.int .i64 m.kind, .int .i64 m.frm, .int .i64 m.inc, .int .i64 m.seq, .int .i64 m.tgt, .slice a n cap]] w1 fun e w' =>
   e = .returned (.string (strOfNums (Jr m))) /\ Below w1.heap.size w1 w' := by
  have := bytes_any m.kind m.frm m.inc m.seq m.tgt m.ups a cap w1 h8 HK1.out; rw [HN.out] at this; exact this
 refine hB.mono ?_; rintro e w2 ⟨rfl, hb2⟩; have HB2 := Hd hb2; clear hb2 hB; go_wp2; go_ret2
 exact ⟨rfl, Jg (((HB.out.mono (by simp)).trans (HB2.out.mono (by have := HB.out.size; simp at this; omega))))⟩
theorem encode_no (m : M) (a : Option Addr) (n cap : Nat) (w : World) (hn : m.ups.length = n) (hl : n <= 9223372036854775807) (hk : Jq w a m.ups) (hw : Jn m = false) :
  Calls Tryz.prog 23 #[.agg #[.int .i64 m.kind, .int .i64 m.frm, .int .i64 m.inc, .int .i64 m.seq, .int .i64 m.tgt, .slice a n cap]] w fun e w' =>
   e = .returned (.tuple #[.string ⟨#[]⟩, .iface 111 (.int .i64 2)]) /\ Below w.heap.size w w' := by
 have HW := Hd hw; have HN := Hd hn; have hk1 := hk.below ((Below.refl _ w).alloc (Nat.le_refl _) (.cells #[.int .i64 m.kind, .int .i64 m.frm, .int .i64 m.inc, .int .i64 m.seq, .int .i64 m.tgt, .slice a n cap] 68)); have HK := Hd hk1; clear hw hk1 hk hn; go_enter Tryz.func23, Tryz.ntmps23; go_wp2_with fail
 refine (whole_at m a n cap _ HN.out hl HK.out).mono ?_; rintro e w1 ⟨rfl, hb⟩; rw [HW.out]; have HB := Hd hb; clear hb; go_wp2; go_ret2
 exact ⟨rfl, Jg (HB.out.mono (by simp))⟩
theorem decode_any (s : ByteArray) (w : World) (hm : s.size <= maxLen) : Calls Tryz.prog 28 #[.string s] w (DecPost w s.data.toList) := by
 go_enter Tryz.func28, Tryz.ntmps28; go_wp2_with fail
 refine (message_any s _ hm).mono ?_; rintro e w1 ⟨hb, h⟩; have hbx : w1.heap[w.heap.size]? = _ := (hb.block _ (by simp)).trans (Kc w _)
 have hcx := Ka hbx; have hfx := Kr hbx; have HX := Hd hbx; have hsz := hb.size; rw [World.size_alloc] at hsz; have hBB := Jg (hb.mono (by simp))
 have HBB := Hd hBB; clear hbx hb hBB; rcases h with ⟨hd, rfl⟩ | ⟨hd, v, rfl, hrow⟩
 · have HD := Hd hd
   clear hd; unfold noMsg; go_wp2; refine six_set (R := bodyPost _ _ _ _ _) HX.out _ _ _ _ _ _ (fun W hW hC => ?_)
   have hc := Ka hW; refine bodyPost_ret (v := .tuple #[noMsg, .iface 111 (.int .i64 2)]) (by simp [results, Tryz.results28, go_sem, noMsg, hc]) rfl ⟨?_, .inl ⟨HD.out, rfl⟩⟩
   exact HBB.out.trans (hC.below (by omega) (fun k o e => by omega))
 · have HD := Hd hd
   obtain ⟨a, cap, rfl⟩ := Kg hrow; have HR := Hd hrow; clear hd hrow; unfold M.agg; go_wp2; refine six_set (R := bodyPost _ _ _ _ _) HX.out _ _ _ _ _ _ (fun W hW hC => ?_)
   have hc := Ka hW; refine bodyPost_ret (v := .tuple #[(Ze s.data.toList).agg (.slice a (Ze s.data.toList).ups.length cap), .nilIface]) (by simp [results, Tryz.results28, go_sem, M.agg, hc]) rfl ⟨?_, .inr ⟨HD.out, _, rfl, ?_⟩⟩
   · exact HBB.out.trans (hC.below (by omega) (fun k o e => by omega))
   · exact Jl (Kq HR.out hC (fun g o hg e => by have := (HR.out.lt g hg).1; simp at this; omega)) (by simp)
theorem KB.spareKeys {w : World} {g n : Nat} {l : List K} (hg : KB w g (n + 2) (fun i => if i < n then l.getD i zK else mK)) (hn : l.length = n) : Jq w (some ⟨g, 0, none⟩) l :=
 hg.keysAt (by omega) (fun i k hk => by
  have hi : i < l.length := by
   rcases Nat.lt_or_ge i l.length with h' | h'
   · exact h'
   · rw [List.getElem?_eq_none h'] at hk; cases hk
  show (if i < n then l.getD i zK else mK) = k
  rw [if_pos (by omega)]
  simp [List.getD, hk])
theorem encoded_any (m : M) (a : Option Addr) (n cap : Nat) (w : World) (hn : m.ups.length = n) (hl : n <= 1000000) (hk : Jq w a m.ups) (hg : Jc w) :
  Calls Tryz.prog 12 #[.agg #[.int .i64 m.kind, .int .i64 m.frm, .int .i64 m.inc, .int .i64 m.seq, .int .i64 m.tgt, .slice a n cap]] w fun e w' =>
   ∃ s : ByteArray, e = .returned (.tuple #[.string s, .bool true]) /\ s.size <= 60 /\ Below w.heap.size w w' := by
 have HK := Hd hk; have HG := Hd hg; have HN := Hd hn; clear hk hg hn; obtain ⟨kind, frm, inc, seq, tgt, ups⟩ := m; go_enter Tryz.func12, Tryz.ntmps12; go_wp2_with fail
 refine (spare_any ups a n cap _ HN.out hl (HK.out.below ((Below.refl _ w).alloc (Nat.le_refl _) _))).mono ?_; rintro e w1 ⟨g, cap', rfl, hgl, hc', hb1, hkb1⟩; simp only [World.size_alloc] at hgl; have hx1 : w1.heap[w.heap.size]? = _ := (hb1.block _ (by simp)).trans (Kc w _)
 have hB1 : Below w.heap.size w w1 := Jg (hb1.mono (by simp))
 have hc1 := Ka hx1; have HX1 := Hd hx1; have HB1 := Hd hB1; have HKB1 := Hd hkb1; clear hx1 hB1 hkb1 hb1; go_wp2_with fail
 have henc : Calls Tryz.prog 23 #[.agg #[.int .i64 kind, .int .i64 frm, .int .i64 inc, .int .i64 seq, .int .i64 tgt, .slice (some ⟨g, 0, none⟩) n cap']] w1 fun e w' =>
   e = .returned (if Jn ⟨kind, frm, inc, seq, tgt, ups⟩ = true then .tuple #[.string (strOfNums (Jr ⟨kind, frm, inc, seq, tgt, ups⟩)), .nilIface] else .tuple #[.string ⟨#[]⟩, .iface 111 (.int .i64 2)]) /\ Below w1.heap.size w1 w' := by
  cases hw : Jn ⟨kind, frm, inc, seq, tgt, ups⟩
  · exact encode_no ⟨kind, frm, inc, seq, tgt, ups⟩ _ n _ w1 HN.out (by omega) (HKB1.out.spareKeys HN.out) hw
  · exact encode_yes ⟨kind, frm, inc, seq, tgt, ups⟩ _ n _ w1 HN.out (HKB1.out.spareKeys HN.out) hw
 refine henc.mono ?_; rintro e w2 ⟨rfl, hb2⟩; have hx2 : w2.heap[w.heap.size]? = _ := (hb2.block _ (Kb HX1.out)).trans HX1.out; have hB2 : Below w.heap.size w w2 := HB1.out.trans (hb2.mono HB1.out.size); have hkb2 := HKB1.out.under hb2 HKB1.out.lt; have hc2 := Ka hx2; have HX2 := Hd hx2; have HB2 := Hd hB2; have HKB2 := Hd hkb2; clear hx2 hB2 hkb2 hb2 henc hc1; have hlt1 := Kb HX1.out; cases hw : Jn ⟨kind, frm, inc, seq, tgt, ups⟩
 · have HW := Hd hw
   clear hw; rw [if_neg (by simp)]
   go_wp2_with fail
   refine (still_any ups g a n cap' cap w2 HN.out hl hc' HKB2.out (HK.out.below HB2.out)).mono ?_; rintro e w3 ⟨rfl, hch3⟩; have hx3 : w3.heap[w.heap.size]? = _ := hch3.kept _ _ HX2.out (by omega)
   have hB3 : Below w.heap.size w w3 := HB2.out.trans (hch3.below HB2.out.size (fun k o e => by omega))
   have hc3 := Ka hx3; have HX3 := Hd hx3; have HB3 := Hd hB3; clear hx3 hB3 hch3 hc2; go_wp2_with fail
   refine (rwhole_at ⟨kind, frm, inc, seq, tgt, ups⟩ a n cap w3 HN.out (by omega) (HK.out.below HB3.out)).mono ?_
   rintro e w4 ⟨rfl, hb4⟩; rw [HW.out]; have hB4 : Below w.heap.size w w4 := HB3.out.trans (hb4.mono HB3.out.size); have HB4 := Hd hB4; clear hb4 hB4 hc3; go_wp2_with fail
   refine (ltold_err 2 w4 (by decide) (HG.out.below HB4.out)).mono ?_
   rintro e w5 ⟨rfl, hb5⟩; have HB5 := Hd (HB4.out.trans (hb5.mono HB4.out.size)); clear hb5; go_wp2; go_ret2
   exact ⟨⟨#[]⟩, rfl, by decide, HB5.out⟩
 · have HW := Hd hw
   clear hw; rw [if_pos rfl]; obtain ⟨hk1, hf1, hi1, hs1, ht1, hu1, hku1⟩ := whole_fields HW.out; obtain ⟨S, hS⟩ : ∃ S, strOfNums (Jr ⟨kind, frm, inc, seq, tgt, ups⟩) = S := ⟨_, rfl⟩
   have hsz : S.size <= 60 := by
    rw [<- hS, str_size]; simp only [Jr, List.length_append, head_length, keyBytes_length]; simp only at hu1; omega
   rw [hS]; have HS := Hd hS; have HSZ := Hd hsz; clear hS hsz; go_wp2_with fail
   refine (still_any ups g a n cap' cap w2 HN.out hl hc' HKB2.out (HK.out.below HB2.out)).mono ?_; rintro e w3 ⟨rfl, hch3⟩; have hx3 : w3.heap[w.heap.size]? = _ := hch3.kept _ _ HX2.out (by omega)
   have hB3 : Below w.heap.size w w3 := HB2.out.trans (hch3.below HB2.out.size (fun k o e => by omega))
   have hc3 := Ka hx3; have HX3 := Hd hx3; have HB3 := Hd hB3; clear hx3 hB3 hch3 hc2; go_wp2_with fail
   refine (rwhole_at ⟨kind, frm, inc, seq, tgt, ups⟩ a n cap w3 HN.out (by omega) (HK.out.below HB3.out)).mono ?_
   rintro e w4 ⟨rfl, hb4⟩; rw [HW.out]; have hx4 : w4.heap[w.heap.size]? = _ := (hb4.block _ (Kb HX3.out)).trans HX3.out; have hc4 := Ka hx4; have hB4 : Below w.heap.size w w4 := HB3.out.trans (hb4.mono HB3.out.size); have HB4 := Hd hB4; clear hb4 hB4 hc3 hx4; go_wp2_with fail
   refine (rbytes_at ⟨kind, frm, inc, seq, tgt, ups⟩ a n cap w4 HN.out hl (HK.out.below HB4.out) ⟨Int.le_trans (by decide) hi1.1, Int.le_trans hi1.2 (by decide)⟩ hs1
    (fun k hk => by have := (keyB_iff.1 (hku1 k hk)).2.1; omega)).mono ?_
   rintro e w5 ⟨rfl, hb5⟩; rw [HS.out]; have HB5 := Hd (HB4.out.trans (hb5.mono HB4.out.size)); clear hb5; go_wp2; go_ret2
   exact ⟨S, rfl, HSZ.out, HB5.out⟩
theorem decode_some {bs : List UInt8} {m : M} (h : Ja bs = some m) : m = Ze bs /\ sizedB bs = true /\ Jn (Ze bs) = true := by
 unfold Ja at h
 split at h
 · rename_i hh; cases h; exact ⟨rfl, hh.1, hh.2⟩
 · cases h
def RKeys (w : World) (a : Option Addr) (l : List K) : Prop :=
 Jq w a l /\ ∀ p, a = some p -> ∃ cs f, w.heap[p.block]? = some (.cells cs 58 f)
theorem RKeys.of_row {w : World} {B n cap : Nat} {a : Option Addr} {l : List K} (h : w.ownsRow B 58 3 (.slice a n cap) n (Kd l)) : RKeys w a l := by
 refine ⟨(keysAt_row h).2, fun p hp => ?_⟩
 rcases h.2 with ⟨e, _⟩ | ⟨g, cap', cur, e, _, hg, _⟩
 · simp only [Value.slice.injEq] at e; rw [e.1] at hp; cases hp
 · simp only [Value.slice.injEq] at e; rw [e.1] at hp; cases hp; exact ⟨_, _, hg⟩
theorem RKeys.none (w : World) : RKeys w none [] := ⟨fun i k h => by simp at h, fun p h => by cases h⟩
theorem decoded_any (s : ByteArray) (w : World) (hm : s.size <= maxLen) (hg : Jc w) :
  Calls Tryz.prog 14 #[.string s] w fun e w' =>
   ∃ (m : M) (a : Option Addr) (n cap : Nat) (v : Value), e = .returned (.tuple #[m.agg (.slice a n cap), v, .bool true]) /\ m.ups.length = n /\ n <= 8 /\ (RKeys w' a m.ups /\ ∀ p, a = some p -> w.heap.size <= p.block) /\
    w'.ownsRow w.heap.size 76 3 v n (Kd m.ups) /\ Below w.heap.size w w' := by
 have HG := Hd hg; clear hg; go_enter Tryz.func14, Tryz.ntmps14; go_wp2_with fail
 refine (decode_any s _ hm).mono ?_; rintro e w1 ⟨hb1, hd1⟩; have hx1 : w1.heap[w.heap.size]? = _ := (hb1.block _ (by simp)).trans (Kc w _)
 have hB1 : Below w.heap.size w w1 := Jg (hb1.mono (by simp))
 have HX1 := Hd hx1; have HB1 := Hd hB1; clear hx1 hB1 hb1; rcases hd1 with ⟨hd, rfl⟩ | ⟨hd, v, rfl, hrow⟩
 · have HD := Hd hd
   clear hd; unfold noMsg; go_wp2_with fail
   refine (rdecode_any s _ hm).mono ?_; rintro e w2 ⟨hb2, hd2⟩; rcases hd2 with ⟨_, rfl⟩ | ⟨hd', _⟩
   case inr => rw [HD.out] at hd'; cases hd'
   have hx2 : w2.heap[w.heap.size]? = _ := (hb2.block _ (by simp; have := Kb HX1.out; omega)).trans (Kp _ HX1.out)
   have hy2 : w2.heap[w1.heap.size]? = _ := (hb2.block _ (by simp)).trans (Kc w1 _)
   have hB2 : Below w.heap.size w w2 := HB1.out.trans ((Jg (hb2.mono (by simp))).mono HB1.out.size)
   have hcy2 := Ka hy2; have HX2 := Hd hx2; have HY2 := Hd hy2; have HB2 := Hd hB2; clear hx2 hy2 hB2 hb2; unfold noMsg; go_wp2_with fail
   refine (ltold_err 2 _ (by decide) ((HG.out.below HB2.out).below ((Below.refl _ _).alloc (Nat.le_refl _) _))).mono ?_
   rintro e w3 ⟨rfl, hb3⟩; have hx3 : w3.heap[w.heap.size]? = _ := (hb3.block _ (by simp; have := Kb HX2.out; omega)).trans (Kp _ HX2.out)
   have hy3 : w3.heap[w1.heap.size]? = _ := (hb3.block _ (by simp; have := Kb HY2.out; omega)).trans (Kp _ HY2.out)
   have hz3 : w3.heap[w2.heap.size]? = _ := (hb3.block _ (by simp)).trans (Kc w2 _)
   have hB3 : Below w.heap.size w w3 := HB2.out.trans ((Jg (hb3.mono (by simp))).mono HB2.out.size)
   have hcy3 := Ka hy3; have hcz3 := Ka hz3; have HX3 := Hd hx3; have HY3 := Hd hy3; have HZ3 := Hd hz3; have HB3 := Hd hB3; clear hx3 hy3 hz3 hB3 hb3 hcy2; go_wp2_with fail
   refine (keys_same [] none none 0 0 0 _ rfl (by omega) (fun i k h => by simp at h) (fun i k h => by simp at h)).mono ?_
   rintro e w4 ⟨rfl, hb4⟩; have hx4 : w4.heap[w.heap.size]? = _ := (hb4.block _ (Kb HX3.out)).trans HX3.out; have hy4 : w4.heap[w1.heap.size]? = _ := (hb4.block _ (Kb HY3.out)).trans HY3.out; have hz4 : w4.heap[w2.heap.size]? = _ := (hb4.block _ (Kb HZ3.out)).trans HZ3.out; have hB4 : Below w.heap.size w w4 := HB3.out.trans (hb4.mono HB3.out.size); have hcx4 := Ka hx4; have hcy4 := Ka hy4; have hcz4 := Ka hz4; have hfx4 := Kr hx4; have HX4 := Hd hx4; have HB4 := Hd hB4; clear hx4 hy4 hz4 hB4 hb4 hcy3 hcz3; have hne1 : w.heap.size ≠ w1.heap.size := by have := Kb HX1.out; omega
   have hne2 : w.heap.size ≠ w2.heap.size := by have := Kb HX2.out; omega
   have hne3 : w1.heap.size ≠ w.heap.size := hne1.symm; have hne4 : w2.heap.size ≠ w.heap.size := hne2.symm; go_wp2_with fail
   go_region
   go_wp2; refine six_set (R := fun W => bodyPost _ _ _ _ _ W.drew) HX4.out _ _ _ _ _ _ (fun W hW hC => ?_)
   have hc := Ka hW
   refine bodyPost_ret (v := .tuple #[M.agg ⟨0, 0, 0, 0, 0, []⟩ (.slice none 0 0), .slice none 0 0, .bool true]) (by simp [results, Tryz.results14, go_sem, M.agg, hc]) rfl
    ⟨⟨0, 0, 0, 0, 0, []⟩, none, 0, 0, .slice none 0 0, rfl, rfl, by omega, ⟨RKeys.none _, fun p hp => by cases hp⟩, World.ownsRow_nil _ _ _ _, (HB4.out.trans (hC.below HB4.out.size (fun k o e => by omega))).drew⟩
 · have HD := Hd hd
   clear hd; obtain ⟨a, cap, rfl⟩ := Kg hrow; obtain ⟨m, hmm⟩ : ∃ m, Ze s.data.toList = m := ⟨_, rfl⟩; rw [hmm] at hrow ⊢; have HMM := Hd hmm; have HROW := Hd hrow; clear hmm hrow; unfold M.agg; go_wp2_with fail
   refine (rdecode_any s _ hm).mono ?_; rintro e w2 ⟨hb2, hd2⟩; rcases hd2 with ⟨hd', _⟩ | ⟨_, v', rfl, hrow2⟩
   case inl => rw [HD.out] at hd'; cases hd'
   obtain ⟨a', cap', rfl⟩ := Kg hrow2; rw [HMM.out] at hrow2 ⊢; have HROW2 := Hd hrow2; have HROW' := Hd (Ks (Ks HROW.out ((Below.refl _ _).alloc (Nat.le_refl _) _)) hb2); clear hrow2; have hx2 : w2.heap[w.heap.size]? = _ := (hb2.block _ (by simp; have := Kb HX1.out; omega)).trans (Kp _ HX1.out)
   have hy2 : w2.heap[w1.heap.size]? = _ := (hb2.block _ (by simp)).trans (Kc w1 _)
   have hB2 : Below w.heap.size w w2 := HB1.out.trans ((Jg (hb2.mono (by simp))).mono HB1.out.size)
   have hcy2 := Ka hy2; have HX2 := Hd hx2; have HY2 := Hd hy2; have HB2 := Hd hB2; clear hx2 hy2 hB2 hb2; unfold M.agg; go_wp2_with fail
   refine (ltold_ok _).mono ?_; rintro e w3 ⟨rfl, hw3⟩; have hb3 : Below (w2.alloc (.cells #[.int .i64 m.kind, .int .i64 m.frm, .int .i64 m.inc, .int .i64 m.seq, .int .i64 m.tgt, .slice a' m.ups.length cap'] 33)).heap.size (w2.alloc (.cells #[.int .i64 m.kind, .int .i64 m.frm, .int .i64 m.inc, .int .i64 m.seq, .int .i64 m.tgt, .slice a' m.ups.length cap'] 33)) w3 := by rw [hw3]; exact Below.refl _ _
   clear hw3; have hx3 : w3.heap[w.heap.size]? = _ := (hb3.block _ (by simp; have := Kb HX2.out; omega)).trans (Kp _ HX2.out)
   have hy3 : w3.heap[w1.heap.size]? = _ := (hb3.block _ (by simp; have := Kb HY2.out; omega)).trans (Kp _ HY2.out)
   have hz3 : w3.heap[w2.heap.size]? = _ := (hb3.block _ (by simp)).trans (Kc w2 _)
   have hB3 : Below w.heap.size w w3 := HB2.out.trans ((Jg (hb3.mono (by simp))).mono HB2.out.size)
   have hcy3 := Ka hy3; have hcz3 := Ka hz3; have HR3 := Hd (Ks (HROW'.out.alloc _) hb3); have HQ3 := Hd (Ks (HROW2.out.alloc _) hb3); have h8 : m.ups.length <= 8 := whole_len (by rw [<- HMM.out]; exact (decode_some HD.out).2.2)
   have HX3 := Hd hx3; have HY3 := Hd hy3; have HZ3 := Hd hz3; have HB3 := Hd hB3; clear hx3 hy3 hz3 hB3 hb3 hcy2; go_wp2_with fail
   refine (keys_same m.ups a a' m.ups.length cap cap' _ rfl (by omega) (keysAt_row HR3.out).2 (keysAt_row HQ3.out).2).mono ?_
   rintro e w4 ⟨rfl, hb4⟩; have HB34 := Hd hb4; have hx4 : w4.heap[w.heap.size]? = _ := (hb4.block _ (Kb HX3.out)).trans HX3.out; have hy4 : w4.heap[w1.heap.size]? = _ := (hb4.block _ (Kb HY3.out)).trans HY3.out; have hz4 : w4.heap[w2.heap.size]? = _ := (hb4.block _ (Kb HZ3.out)).trans HZ3.out; have hB4 : Below w.heap.size w w4 := HB3.out.trans (hb4.mono HB3.out.size); have hcx4 := Ka hx4; have hcy4 := Ka hy4; have hcz4 := Ka hz4; have hfx4 := Kr hx4; have HX4 := Hd hx4; have HB4 := Hd hB4; clear hx4 hy4 hz4 hB4 hb4 hcy3 hcz3; have hne1 : w.heap.size ≠ w1.heap.size := by have := Kb HX1.out; omega
   have hne2 : w.heap.size ≠ w2.heap.size := by have := Kb HX2.out; omega
   have hne3 : w1.heap.size ≠ w.heap.size := hne1.symm; have hne4 : w2.heap.size ≠ w.heap.size := hne2.symm; go_wp2_with fail
   go_region
   go_wp2; refine six_set (R := fun W => bodyPost _ _ _ _ _ W.drew) HX4.out _ _ _ _ _ _ (fun W hW hC => ?_)
   have hc := Ka hW
   refine bodyPost_ret (v := .tuple #[m.agg (.slice a' m.ups.length cap'), .slice a m.ups.length cap, .bool true]) (by simp [results, Tryz.results14, go_sem, M.agg, hc]) rfl
    ⟨m, a', m.ups.length, cap', .slice a m.ups.length cap, rfl, rfl, h8, ?_, ?_, (HB4.out.trans (hC.below HB4.out.size (fun k o e => by omega))).drew⟩
   · exact ⟨RKeys.of_row (Kq (Ks HQ3.out HB34.out) hC (fun g o hg e => by have := (HQ3.out.lt g hg).1; have := Kb HX1.out; simp only [World.size_alloc] at *; omega)).drew, fun p hp => by have := (HQ3.out.lt p.block (by rw [hp]; rfl)).1; have := Kb HX1.out; simp only [World.size_alloc] at *; omega⟩
   · exact Jl (Kq (Ks HR3.out HB34.out) hC (fun g o hg e => by have := (HR3.out.lt g hg).1; simp only [World.size_alloc] at this; omega)).drew (by simp)
def IntIn (w : World) (a : Option Addr) (l : List Int) : Prop :=
 Ki w a (l.map (Value.int .i64)) /\ ∀ p, a = some p -> ∃ cs f, w.heap[p.block]? = some (.cells cs 3 f)
def fits (n : Int) : Prop := -9223372036854775808 <= n /\ n <= 9223372036854775807
structure Sd where
 ts : List ByteArray
 m : M
 ds : List Int
 ow : List (Int × ByteArray)
 xs : List Value
 ys : List Value
 os : List Value
 ks : List Value
 mark : Int
def Zb : List TypeId := [41, 9, 46, 77, 60]
def heldTypes : List TypeId := [76, 78]
structure SAt (B0 b n : Nat) (w : World) (f : Nat -> Value) (d : Sd) : Prop where
 blk : WB w b f
 hB : B0 <= b
 t0 : ∃ a c, f 0 = .slice a d.ts.length c
 tr : w.ownsRow B0 9 1 (f 0) d.ts.length (d.ts.map Value.string)
 tn : d.ts.length <= n
 tz : ∀ t ∈ d.ts, t.size <= 16384
 m1 : f 1 = .int .i64 d.m.kind
 m2 : f 2 = .int .i64 d.m.frm
 m3 : f 3 = .int .i64 d.m.inc
 m4 : f 4 = .int .i64 d.m.seq
 m5 : f 5 = .int .i64 d.m.tgt
 m6 : ∃ a c, f 6 = .slice a d.m.ups.length c /\ RKeys w a d.m.ups
 mn : d.m.ups.length <= n + 8
 d7 : ∃ a c, f 7 = .slice a d.ds.length c /\ IntIn w a d.ds
 dn : d.ds.length <= n
 df : ∀ x ∈ d.ds, fits x
 cf : ∀ i, 8 <= i -> i < 14 -> ∃ c, f i = .int .i64 c /\ fits c
 o15 : ∃ a c, f 15 = .slice a d.ow.length c
 orow : w.ownsRow B0 60 2 (f 15) d.ow.length (Kk d.ow)
 on : d.ow.length <= 60
 oz : ∀ p ∈ d.ow, p.2.size <= 60
 l16 : ∃ a c, f 16 = .slice a d.xs.length c
 l17 : ∃ a c, f 17 = .slice a d.xs.length c
 lx : w.ownsRow B0 46 1 (f 16) d.xs.length d.xs
 ly : w.ownsRow B0 46 1 (f 17) d.xs.length d.ys
 ln : d.xs.length <= 4 * n
 lne : ∀ g, (f 16).ownBlock = some g -> (f 17).ownBlock ≠ some g
 lh : ∀ (i : Nat) v u, d.xs[i]? = some v -> d.ys[i]? = some u -> HeldK w.heap.size w v u
 l18 : ∃ a c, f 18 = .slice a d.os.length c
 l19 : ∃ a c, f 19 = .slice a d.os.length c
 lo : w.ownsRow B0 77 1 (f 18) d.os.length d.os
 lk : w.ownsRow B0 77 1 (f 19) d.os.length d.ks
 lon : d.os.length <= 8 * n
 lone : ∀ g, (f 18).ownBlock = some g -> (f 19).ownBlock ≠ some g
 lp : ∀ (i : Nat) v u, d.os[i]? = some v -> d.ks[i]? = some u -> HeldP w.heap.size w v u
 m20 : f 20 = .int .i64 d.mark
 mb : 0 <= d.mark /\ d.mark <= 100 * n
def Foreign (f : Nat -> Value) (k : Nat) (o : Obj) : Prop :=
 (∀ cs t fr, o = .cells cs t fr -> t ∉ Zb /\ t ∉ heldTypes) /\ (f 6).ownBlock ≠ some k /\ (f 7).ownBlock ≠ some k
theorem RKeys.chg {S : Nat -> Obj -> Prop} {w w' : World} {a : Option Addr} {n c : Nat} {l : List K} (h : RKeys w a l) (hc : Chg S w w') (hS : ∀ k o, (Value.slice a n c).ownBlock = some k -> ¬ S k o) : RKeys w' a l := by
 have hb : ∀ b off, a = some ⟨b, off, Option.none⟩ -> w'.heap[b]? = w.heap[b]? := by
  intro b off e; obtain ⟨cs, fr, hg⟩ := h.2 _ e; rw [hg]; exact hc.kept b _ hg (hS b _ (by rw [e]; rfl))
 refine ⟨(h.1.cells.heap fun b off e hlt => ⟨hb b off e, Nat.lt_of_lt_of_le hlt hc.size⟩).keys, fun p hp => ?_⟩
 obtain ⟨cs, fr, hg⟩ := h.2 p hp; refine ⟨cs, fr, ?_⟩; exact hc.kept p.block _ hg (hS p.block _ (by rw [hp]; rfl))
theorem IntIn.chg {S : Nat -> Obj -> Prop} {w w' : World} {a : Option Addr} {n c : Nat} {l : List Int} (h : IntIn w a l) (hc : Chg S w w') (hS : ∀ k o, (Value.slice a n c).ownBlock = some k -> ¬ S k o) : IntIn w' a l := by
 have hk : ∀ p, a = some p -> w'.heap[p.block]? = w.heap[p.block]? := by
  intro p e; obtain ⟨cs, f, hg⟩ := h.2 p e; rw [hg]; exact hc.kept p.block _ hg (hS p.block _ (by rw [e]; rfl))
 refine ⟨h.1.heap fun b off e hlt => ⟨hk _ e, Nat.lt_of_lt_of_le hlt hc.size⟩, fun p e => ?_⟩
 obtain ⟨cs, f, hg⟩ := h.2 p e; exact ⟨cs, f, (hk p e).trans hg⟩
theorem Jf {S : Nat -> Obj -> Prop} {w w' : World} {B e s n : Nat} {v : Value} {xs : List Value} (h : w.ownsRow B e s v n xs) (hc : Chg S w w') (hS : ∀ k o, w.heap[k]? = some o -> S k o -> ∀ cs fr, o ≠ .cells cs e fr) : w'.ownsRow B e s v n xs := by
 refine ⟨h.1, ?_⟩; rcases h.2 with hn | ⟨g, cap, cur, rfl, hb, hg, rest⟩
 · exact .inl hn
 · exact .inr ⟨g, cap, cur, rfl, hb, hc.kept g _ hg (fun hs => hS g _ hg hs _ _ rfl), rest⟩
theorem SAt.foreign {S : Nat -> Obj -> Prop} {B0 b n : Nat} {w w' : World} {f : Nat -> Value} {d : Sd} (h : SAt B0 b n w f d) (hc : Chg S w w') (hS : ∀ k o, w.heap[k]? = some o -> S k o -> Foreign f k o) : SAt B0 b n w' f d := by
 have hrow : ∀ t, t ∈ Zb -> ∀ k o, w.heap[k]? = some o -> S k o -> ∀ cs fr, o ≠ .cells cs t fr := fun t ht k o hk hs cs fr e => ((hS k o hk hs).1 cs t fr e).1 ht
 have hheld : ∀ t, t ∈ heldTypes -> ∀ k o, w.heap[k]? = some o -> S k o -> ∀ cs fr, o ≠ .cells cs t fr := fun t ht k o hk hs cs fr e => ((hS k o hk hs).1 cs t fr e).2 ht
 obtain ⟨a6, c6, e6, hk6⟩ := h.m6; obtain ⟨a7, c7, e7, hi7⟩ := h.d7; have hn6 : ∀ k, (f 6).ownBlock = some k -> ∀ o, w.heap[k]? = some o -> ¬ S k o := fun k e o hk hs => (hS k o hk hs).2.1 e
 have hn7 : ∀ k, (f 7).ownBlock = some k -> ∀ o, w.heap[k]? = some o -> ¬ S k o := fun k e o hk hs => (hS k o hk hs).2.2 e
 have hc' : Chg (fun k o => S k o /\ w.heap[k]? = some o) w w' := ⟨hc.os, hc.tape, hc.output, hc.size, fun k o hk hs => hc.kept k o hk (fun h => hs ⟨h, hk⟩)⟩
 exact { h with
         blk := h.blk.heap (by obtain ⟨cs, hb⟩ := h.blk.block; rw [hb]; exact hc.kept b _ hb (fun hs => hrow _ (by simp [Zb]) b _ hb hs _ _ rfl))
         tr := Jf h.tr hc (hrow _ (by simp [Zb]))
         m6 := ⟨a6, c6, e6, hk6.chg (n := d.m.ups.length) (c := c6) hc' (fun k o e hs => hn6 k (by rw [e6]; exact e) o hs.2 hs.1)⟩
         d7 := ⟨a7, c7, e7, hi7.chg (n := d.ds.length) (c := c7) hc' (fun k o e hs => hn7 k (by rw [e7]; exact e) o hs.2 hs.1)⟩
         orow := Jf h.orow hc (hrow _ (by simp [Zb]))
         lx := Jf h.lx hc (hrow _ (by simp [Zb]))
         ly := Jf h.ly hc (hrow _ (by simp [Zb]))
         lo := Jf h.lo hc (hrow _ (by simp [Zb]))
         lk := Jf h.lk hc (hrow _ (by simp [Zb]))
         lh := fun i v u hv hu => ((h.lh i v u hv hu).chg hc (fun k cs fr _ hk hs => hheld _ (by simp [heldTypes]) k _ hk hs _ _ rfl)).mono hc.size
         lp := fun i v u hv hu => ((h.lp i v u hv hu).chg hc (fun k cs fr _ hk hs => hheld _ (by simp [heldTypes]) k _ hk hs _ _ rfl)).mono hc.size }
theorem SAt.below {B0 b n : Nat} {w w' : World} {f : Nat -> Value} {d : Sd} (h : SAt B0 b n w f d) (hb : Below w.heap.size w w') : SAt B0 b n w' f d :=
 h.foreign (S := fun k _ => w.heap.size <= k) ⟨hb.os, hb.tape, hb.output, hb.size, fun k o hk _ => (hb.block k (Kb hk)).trans hk⟩ (fun k o hk hs => by have := Kb hk; omega)
theorem SAt.mono {B0 b n n' : Nat} {w : World} {f : Nat -> Value} {d : Sd} (h : SAt B0 b n w f d) (hn : n <= n') : SAt B0 b n' w f d :=
 { h with tn := Nat.le_trans h.tn hn, mn := by have := h.mn; omega, dn := Nat.le_trans h.dn hn, ln := by have := h.ln; omega, lon := by have := h.lon; omega, mb := by have := h.mb; omega }
theorem RKeys.typed {S : Nat -> Obj -> Prop} {w w' : World} {a : Option Addr} {l : List K} (h : RKeys w a l) (hc : Chg S w w') (hS : ∀ k o, w.heap[k]? = some o -> S k o -> ∀ cs fr, o ≠ .cells cs 58 fr) : RKeys w' a l := by
 have hk : ∀ p, a = some p -> w'.heap[p.block]? = w.heap[p.block]? := by
  intro p e; obtain ⟨cs, fr, hg⟩ := h.2 p e; rw [hg]; exact hc.kept _ _ hg (fun hs => hS _ _ hg hs _ _ rfl)
 refine ⟨(h.1.cells.heap fun b off e hlt => ⟨hk _ e, Nat.lt_of_lt_of_le hlt hc.size⟩).keys, fun p hp => ?_⟩
 obtain ⟨cs, fr, hg⟩ := h.2 p hp; exact ⟨cs, fr, (hk p hp).trans hg⟩
theorem IntIn.typed {S : Nat -> Obj -> Prop} {w w' : World} {a : Option Addr} {l : List Int} (h : IntIn w a l) (hc : Chg S w w') (hS : ∀ k o, w.heap[k]? = some o -> S k o -> ∀ cs fr, o ≠ .cells cs 3 fr) : IntIn w' a l := by
 have hk : ∀ p, a = some p -> w'.heap[p.block]? = w.heap[p.block]? := by
  intro p e; obtain ⟨cs, f, hg⟩ := h.2 p e; rw [hg]; exact hc.kept _ _ hg (fun hs => hS _ _ hg hs _ _ rfl)
 refine ⟨h.1.heap fun b off e hlt => ⟨hk _ e, Nat.lt_of_lt_of_le hlt hc.size⟩, fun p e => ?_⟩
 obtain ⟨cs, f, hg⟩ := h.2 p e; exact ⟨cs, f, (hk p e).trans hg⟩
structure Kept (T : List TypeId) (B0 : Nat) (w' : World) (f : Nat -> Value) (d : Sd) : Prop where
 tr : 9 ∉ T -> w'.ownsRow B0 9 1 (f 0) d.ts.length (d.ts.map Value.string)
 m6 : 58 ∉ T -> ∃ a c, f 6 = .slice a d.m.ups.length c /\ RKeys w' a d.m.ups
 d7 : 3 ∉ T -> ∃ a c, f 7 = .slice a d.ds.length c /\ IntIn w' a d.ds
 orow : 60 ∉ T -> w'.ownsRow B0 60 2 (f 15) d.ow.length (Kk d.ow)
 lx : 46 ∉ T -> w'.ownsRow B0 46 1 (f 16) d.xs.length d.xs
 ly : 46 ∉ T -> w'.ownsRow B0 46 1 (f 17) d.xs.length d.ys
 lh : 76 ∉ T -> ∀ (i : Nat) v u, d.xs[i]? = some v -> d.ys[i]? = some u -> HeldK w'.heap.size w' v u
 lo : 77 ∉ T -> w'.ownsRow B0 77 1 (f 18) d.os.length d.os
 lk : 77 ∉ T -> w'.ownsRow B0 77 1 (f 19) d.os.length d.ks
 lp : 78 ∉ T -> ∀ (i : Nat) v u, d.os[i]? = some v -> d.ks[i]? = some u -> HeldP w'.heap.size w' v u
theorem SAt.kept {T : List TypeId} {S : Nat -> Obj -> Prop} {B0 b n : Nat} {w w' : World} {f : Nat -> Value} {d : Sd} (h : SAt B0 b n w f d) (hc : Chg S w w')
  (hT : ∀ k o, w.heap[k]? = some o -> S k o -> ∃ cs t fr, o = .cells cs t fr /\ t ∈ T) : Kept T B0 w' f d := by
 have ht : ∀ t, t ∉ T -> ∀ k o, w.heap[k]? = some o -> S k o -> ∀ cs fr, o ≠ .cells cs t fr := by
  intro t hn k o hk hs cs fr e; obtain ⟨cs', t', fr', e', hm⟩ := hT k o hk hs; rw [e] at e'; simp only [Obj.cells.injEq] at e'; exact hn (e'.2.1 ▸ hm)
 obtain ⟨a6, c6, e6, hk6⟩ := h.m6; obtain ⟨a7, c7, e7, hi7⟩ := h.d7
 exact ⟨fun hn => Jf h.tr hc (ht _ hn), fun hn => ⟨a6, c6, e6, hk6.typed hc (ht _ hn)⟩, fun hn => ⟨a7, c7, e7, hi7.typed hc (ht _ hn)⟩, fun hn => Jf h.orow hc (ht _ hn),
  fun hn => Jf h.lx hc (ht _ hn), fun hn => Jf h.ly hc (ht _ hn),
  fun hn i v u hv hu => ((h.lh i v u hv hu).chg hc (fun k cs fr _ hk hs => ht _ hn k _ hk hs _ _ rfl)).mono hc.size,
  fun hn => Jf h.lo hc (ht _ hn), fun hn => Jf h.lk hc (ht _ hn),
  fun hn i v u hv hu => ((h.lp i v u hv hu).chg hc (fun k cs fr _ hk hs => ht _ hn k _ hk hs _ _ rfl)).mono hc.size⟩
theorem SAt.onlyB {B0 b n : Nat} {w : World} {f : Nat -> Value} {d : Sd} (h : SAt B0 b n w f d) : ∀ k o, w.heap[k]? = some o -> k = b -> ∃ cs t fr, o = .cells cs t fr /\ t ∈ [41] := by
 rintro k o hk rfl; obtain ⟨cs, hb⟩ := h.blk.block; rw [hb] at hk; cases hk; exact ⟨_, _, _, rfl, by simp⟩
def SQ (B0 b : Nat) (k : Nat) (o : Obj) : Prop := B0 <= k /\ (k = b \/ ∃ cs t fr, o = .cells cs t fr /\ t ∈ Zb)
theorem Chg.after {S : Nat -> Obj -> Prop} {B0 b : Nat} {w w1 w' : World} (h : Chg S w1 w') (hb : Below w.heap.size w w1) (hS : ∀ k o, w1.heap[k]? = some o -> S k o -> B0 <= k /\ (k = b \/ ∃ cs t fr, o = .cells cs t fr /\ t ∈ Zb)) : Chg (SQ B0 b) w w' :=
 ⟨h.os.trans hb.os, h.tape.trans hb.tape, h.output.trans hb.output, Nat.le_trans hb.size h.size, fun k o hk hs => by
  have hk1 := (hb.block k (Kb hk)).trans hk; exact h.kept k o hk1 (fun h' => hs (hS k o hk1 h'))⟩
def K14 (w : World) (f f' : Nat -> Value) : Prop := f' 14 = f 14 /\ ∀ i, i = 6 \/ i = 7 -> ∀ k, (f' i).ownBlock = some k -> (f i).ownBlock = some k \/ w.heap.size <= k
theorem K14.same {w : World} {f f' : Nat -> Value} (h14 : f' 14 = f 14) (h6 : f' 6 = f 6) (h7 : f' 7 = f 7) : K14 w f f' :=
 ⟨h14, fun i hi k hk => .inl (by rcases hi with rfl | rfl; · rw [<- h6]; exact hk
                                 · rw [<- h7]; exact hk)⟩
theorem K14.refl (w : World) (f : Nat -> Value) : K14 w f f := .same rfl rfl rfl
theorem K14.upd {w : World} {f : Nat -> Value} {i : Nat} {v : Value} (h : i ≠ 14 /\ i ≠ 6 /\ i ≠ 7) : K14 w f (upd f i v) :=
 .same (Kh _ _ _ (fun e => h.1 e.symm)) (Kh _ _ _ (fun e => h.2.1 e.symm)) (Kh _ _ _ (fun e => h.2.2 e.symm))
theorem K14.older {w w0 : World} {f f' : Nat -> Value} (h : K14 w f f') (hs : w0.heap.size <= w.heap.size) : K14 w0 f f' := ⟨h.1, fun i hi k hk => (h.2 i hi k hk).imp id (Nat.le_trans hs)⟩
theorem SAt.text {B0 b n : Nat} {w w1 w4 : World} {f : Nat -> Value} {d : Sd} (h : SAt B0 b n w f d) {s : ByteArray} (hs : s.size <= 16384) (hb : Below w.heap.size w w1) {g c : Nat}
  (hl : w4.ownsRow B0 9 1 (.slice (some ⟨g, 0, none⟩) (d.ts.length + 1) c) (d.ts.length + 1) (d.ts.map Value.string ++ [.string s])) (hto : AppTo w1 w4 (f 0) g) :
  w4.cell? ⟨b, 0, none⟩ = some (f 0) /\ w4.frozen? ⟨b, 0, none⟩ = false /\
  SAt B0 b (n + 1) (w4.setCell ⟨b, 0, none⟩ (.slice (some ⟨g, 0, none⟩) (d.ts.length + 1) c)) (upd f 0 (.slice (some ⟨g, 0, none⟩) (d.ts.length + 1) c)) { d with ts := d.ts ++ [s] } /\
  Chg (SQ B0 b) w (w4.setCell ⟨b, 0, none⟩ (.slice (some ⟨g, 0, none⟩) (d.ts.length + 1) c)) := by
 have h1 := h.below hb; have hn0 : (f 0).ownBlock ≠ some b := h1.blk.neOwn h1.tr (by decide)
 have hb4 : WB w4 b f := h1.blk.grown hto.grown hn0; have hl5 := Kq hl ((Chg.refl (fun k _ => k = b) w4).setCell (p := ⟨b, 0, none⟩) (.slice (some ⟨g, 0, none⟩) (d.ts.length + 1) c) (fun _ _ => rfl)) (fun g' o e e' => hb4.neOwn hl (by decide) (e' ▸ e))
 have hc1 : Chg (fun k o => k = b \/ (f 0).ownBlock = some k) w1 (w4.setCell ⟨b, 0, none⟩ (.slice (some ⟨g, 0, none⟩) (d.ts.length + 1) c)) :=
  ((Chg.refl _ w1).grown hto.grown (fun k o e _ => .inr e)).setCell _ (fun _ _ => .inl rfl)
 have hT : ∀ k o, w1.heap[k]? = some o -> (k = b \/ (f 0).ownBlock = some k) -> ∃ cs t fr, o = .cells cs t fr /\ t ∈ [41, 9] := by
  intro k o hk hs; rcases hs with rfl | hs
  · obtain ⟨cs, hb⟩ := h1.blk.block
    rw [hb] at hk; cases hk; exact ⟨_, _, _, rfl, by simp⟩
  · obtain ⟨_, cur, hg⟩ := Ke h1.tr hs
    rw [hg] at hk; cases hk; exact ⟨_, _, _, rfl, by simp⟩
 have K := h1.kept hc1 hT; refine ⟨hb4.cell (by omega), hb4.free 0, ?_, ?_⟩
 · have e : ∀ i, i ≠ 0 -> upd f 0 (.slice (some ⟨g, 0, none⟩) (d.ts.length + 1) c) i = f i := fun i hi => Kh _ _ _ hi
   exact {
    blk := hb4.set (by omega) _
    hB := h.hB
    t0 := ⟨_, _, by rw [Ku]; simp; exact ⟨rfl, rfl⟩⟩
    tr := by rw [Ku]; simpa using hl5
    tn := by have := h.tn; simp; omega
    tz := fun t ht => by
     rcases List.mem_append.1 ht with ht | ht
     · exact h.tz t ht
     · simp only [List.mem_cons, List.not_mem_nil, or_false] at ht; subst ht; exact hs
    m1 := by rw [e _ (by omega)]; exact h.m1
    m2 := by rw [e _ (by omega)]; exact h.m2
    m3 := by rw [e _ (by omega)]; exact h.m3
    m4 := by rw [e _ (by omega)]; exact h.m4
    m5 := by rw [e _ (by omega)]; exact h.m5
    m6 := by rw [e _ (by omega)]; exact K.m6 (by decide)
    mn := by have := h.mn; show d.m.ups.length <= _; omega
    d7 := by rw [e _ (by omega)]; exact K.d7 (by decide)
    dn := by have := h.dn; show d.ds.length <= _; omega
    df := h.df
    cf := fun i h8 h14 => by rw [e _ (by omega)]; exact h.cf i h8 h14
    o15 := by rw [e _ (by omega)]; exact h.o15
    orow := by rw [e _ (by omega)]; exact K.orow (by decide)
    on := h.on
    oz := h.oz
    l16 := by rw [e _ (by omega)]; exact h.l16
    l17 := by rw [e _ (by omega)]; exact h.l17
    lx := by rw [e _ (by omega)]; exact K.lx (by decide)
    ly := by rw [e _ (by omega)]; exact K.ly (by decide)
    ln := by have := h.ln; show d.xs.length <= _; omega
    lne := by rw [e _ (by omega), e _ (by omega)]; exact h.lne
    lh := K.lh (by decide)
    l18 := by rw [e _ (by omega)]; exact h.l18
    l19 := by rw [e _ (by omega)]; exact h.l19
    lo := by rw [e _ (by omega)]; exact K.lo (by decide)
    lk := by rw [e _ (by omega)]; exact K.lk (by decide)
    lon := by have := h.lon; show d.os.length <= _; omega
    lone := by rw [e _ (by omega), e _ (by omega)]; exact h.lone
    lp := K.lp (by decide)
    m20 := by rw [e _ (by omega)]; exact h.m20
    mb := by have := h.mb; constructor; · exact this.1
             · show d.mark <= 100 * ((n + 1 : Nat) : Int); omega }
 · refine ⟨hc1.os.trans hb.os, hc1.tape.trans hb.tape, hc1.output.trans hb.output, Nat.le_trans hb.size hc1.size, fun k o hk hs => ?_⟩
   have hk1 := (hb.block k (Kb hk)).trans hk; refine hc1.kept k o hk1 (fun h' => hs ?_)
   rcases h' with h' | h'
   · exact ⟨h' ▸ h.hB, .inl h'⟩
   · obtain ⟨hBk, cur, hg⟩ := Ke h1.tr h'
     rw [hg] at hk1; cases hk1; exact ⟨hBk, .inr ⟨_, _, _, rfl, by simp [Zb]⟩⟩
def pickS (c n : Int) : Nat := ((if c < 0 then -(c + 1) else c) % n).toNat
theorem pickS_lt (c : Int) (n : Nat) (h : 0 < n) : pickS c n < n := by
 unfold pickS; have h1 := Int.emod_nonneg (if c < 0 then -(c + 1) else c) (by omega : (n : Int) ≠ 0)
 have h2 := Int.emod_lt_of_pos (if c < 0 then -(c + 1) else c) (by omega : 0 < (n : Int))
 omega
theorem pickS_any (c : Int) (n : Nat) (w : World) (hc : fits c) (hn : 0 < n /\ n <= 1000000) :
  Calls Tryz.prog 19 #[.int .i64 c, .int .i64 n] w fun e w' => e = .returned (.int .i64 (pickS c n)) /\ w = w' := by
 obtain ⟨hn1, hn2⟩ := hn; obtain ⟨hc1, hc2⟩ := hc; by_cases h0 : c < 0
 · have hm := Int.emod_nonneg (-(c + 1)) (by omega : (n : Int) ≠ 0)
   have hl := Int.emod_lt_of_pos (-(c + 1)) (by omega : 0 < (n : Int))
   have hnz : ((n : Int) == 0) = false := by simp; omega
   have e : (pickS c n : Int) = -(c + 1) % n := by unfold pickS; rw [if_pos h0, Int.toNat_of_nonneg hm]
   have E := Hd e; clear e; go_enter Tryz.func19, Tryz.ntmps19; go_wp2; go_ret
   exact ⟨by rw [E.out, <- Int.tmod_eq_emod_of_nonneg (by omega), Int.neg_tmod]; simp, rfl⟩
 · have hm := Int.emod_nonneg c (by omega : (n : Int) ≠ 0)
   have hl := Int.emod_lt_of_pos c (by omega : 0 < (n : Int))
   have hnz : ((n : Int) == 0) = false := by simp; omega
   have e : (pickS c n : Int) = c % n := by unfold pickS; rw [if_neg h0, Int.toNat_of_nonneg hm]
   have E := Hd e; clear e; go_enter Tryz.func19, Tryz.ntmps19; go_wp2; go_ret
   exact ⟨by rw [E.out]; rfl, rfl⟩
theorem text_any (B0 b n : Nat) (w : World) (f : Nat -> Value) (d : Sd) (h : SAt B0 b n w f d) (c : Int) (hc : fits c) (hn : n <= 1000000) :
  Calls Tryz.prog 13 #[.pointer (some ⟨b, 0, none⟩), .int .i64 c] w fun e w' => ∃ s, e = .returned (.string s) /\ s.size <= 16384 /\ Below w.heap.size w w' := by
 obtain ⟨a, cap, e0⟩ := h.t0; have htn := h.tn; have c0 : w.cell? ⟨b, 0, none⟩ = some (.slice a d.ts.length cap) := by rw [<- e0]; exact h.blk.cell (by omega)
 have htr := h.tr; rw [e0] at htr; have HR := Hd htr; have HZ := Hd h.tz; obtain ⟨ts, hts⟩ : ∃ ts, d.ts = ts := ⟨_, rfl⟩; rw [hts] at c0 HR HZ htn; clear htr h e0 hts; obtain ⟨hc1, hc2⟩ := hc; cases hl : ts with
 | nil =>
  subst hl; simp only [List.length_nil] at c0; go_enter Tryz.func13, Tryz.ntmps13; go_wp2; go_ret
  exact ⟨⟨#[]⟩, rfl, by decide, Below.refl _ _⟩
 | cons t0 tl =>
  have hpos : 0 < ts.length := by rw [hl]; simp
  clear hl; obtain ⟨m, hm⟩ : ∃ m, ts.length = m := ⟨_, rfl⟩; rw [hm] at c0 HR htn hpos; have hnz : ((m : Int) == 0) = false := by simp; omega
  obtain ⟨k, hk⟩ : ∃ k, pickS c m = k := ⟨_, rfl⟩; have hkm := pickS_lt c m hpos; rw [hk] at hkm; have hkt : k < ts.length := by omega
  obtain ⟨g, rfl, hg, d1⟩ := row_cell HR.out (v := .string ts[k]) (by rw [List.getElem?_map, List.getElem?_eq_getElem hkt]; rfl)
  obtain ⟨s, hs⟩ : ∃ s, ts[k] = s := ⟨_, rfl⟩; rw [hs] at d1; have hsz : s.size <= 16384 := by rw [<- hs]; exact HZ.out _ (List.getElem_mem _)
  have HM := Hd hm; clear hm hs; go_enter Tryz.func13, Tryz.ntmps13; go_wp2_with fail
  go_region_with (go_at_call 19; refine (pickS_any _ _ _ ⟨hc1, hc2⟩ ⟨hpos, by omega⟩).mono ?_; rintro e w' ⟨rfl, rfl⟩; rw [hk])
  all_goals
   go_wp2; go_ret
   exact ⟨s, rfl, hsz, (Below.refl _ _).drew⟩
