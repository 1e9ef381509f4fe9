/-
  Texts of the proof: RefDecode, Told, ScrA, KeyBlock, Spare, SB. No condition.
-/
import Derived.Test.YtfngdplkcppabaaGreatDoorPart01
import Derived.Test.YtfngdplkcppabaaGreatDoorPart02
import Derived.RegionTactic
import Derived.ChangeAlike
import Derived.BigRegion
import Derived.Laws.Strings2
import Derived.Test.YtfngdplkcppabaaGreatDoorProg
import Derived.LaidEql
import Derived.Stop.Asserts
import Derived.RowKitTokens
import Derived.Deep.QuietTactic
import Derived.BigQuiet
import Derived.Deep.DeepCutAuto
set_option linter.all false
set_option maxRecDepth 100000
set_option maxHeartbeats 4000000
namespace Go.Proofs.YtfngdplkcppabaaGreatDoor
open Go.RowKit
def RDecPost (w : World) (bs : List UInt8) (e : Ending) (w' : World) : Prop :=
 Below w.heap.size w w' /\
 ((Ja bs = none /\ e = .returned (.tuple #[noMsg, .int .i64 2])) \/
  (Ja bs = some (Ze bs) /\ ∃ v, e = .returned (.tuple #[(Ze bs).agg v, .int .i64 0]) /\ w'.ownsRow w.heap.size 58 3 v (Ze bs).ups.length (Kd (Ze bs).ups)))
theorem rdecode_short (s : ByteArray) (w : World) (h : s.size < 12) :
  Calls Tryz.prog 29 #[.string s] w fun e w' => e = .returned (.tuple #[noMsg, .int .i64 2]) /\ Below w.heap.size w w' := by
 have HX := Hd (Kc w (.cells #[.int .i64 0, .int .i64 0, .int .i64 0, .int .i64 0, .int .i64 0, .slice none 0 0] 33)); go_enter Tryz.func29, Tryz.ntmps29; go_wp2; refine bodyPost_ret (v := .tuple #[noMsg, .int .i64 2]) (by simp [results, Tryz.results29, go_sem, noMsg]) rfl ⟨rfl, (Below.refl _ w).alloc (Nat.le_refl _) _⟩
theorem rdecode_odd (s : ByteArray) (w : World) (h : ¬ s.size < 12) (h' : s.size ≠ 12 + 6 * (s.data.toList.getD 11 0).toNat) (hm : s.size <= maxLen) :
  Calls Tryz.prog 29 #[.string s] w fun e w' => e = .returned (.tuple #[noMsg, .int .i64 2]) /\ Below w.heap.size w w' := by
 unfold maxLen at hm; have h11 : 11 < s.size := by omega
 have hb : (s[11].toNat : Int) < 256 := by have := s[11].toNat_lt; omega
 have ht : ((s.size : Int) != ((12 : Int) + (6 : Int) * (s[11].toNat : Int))) = true := by
  rw [byte11 s h11] at h'; rw [bne_iff_ne]; omega
 clear h'; have HX := Hd (Kc w (.cells #[.int .i64 0, .int .i64 0, .int .i64 0, .int .i64 0, .int .i64 0, .slice none 0 0] 33)); go_enter Tryz.func29, Tryz.ntmps29; go_wp2; refine bodyPost_ret (v := .tuple #[noMsg, .int .i64 2]) (by simp [results, Tryz.results29, go_sem, noMsg]) rfl ⟨rfl, (Below.refl _ w).alloc (Nat.le_refl _) _⟩
structure RMsgI (bs : List UInt8) (w wr : World) (k : Nat) (v : Value) : Prop where
 R : wr.heap[w.heap.size]? = some (.cells #[.int .i64 0, .int .i64 0, .int .i64 0, .int .i64 0, .int .i64 0, .slice none 0 0] 33 (0, 0))
 M : wr.heap[w.heap.size + 1]? = some (.cells #[.int .i64 (Ko bs 0 1), .int .i64 (Ko bs 1 1), .int .i64 (Ko bs 2 4), .int .i64 (Ko bs 6 4), .int .i64 (Ko bs 10 1), v] 33 (0, 0))
 row : wr.ownsRow (w.heap.size + 2) 58 3 v k (Kd (keysOf bs k))
 below : Below w.heap.size w wr
section
variable {bs : List UInt8} {w wr : World} {k : Nat} {v : Value}
theorem RMsgI.size (h : RMsgI bs w wr k v) : w.heap.size + 1 < wr.heap.size := Kb h.M
theorem RMsgI.alloc (h : RMsgI bs w wr k v) (o : Obj) : RMsgI bs w (wr.alloc o) k v :=
 ⟨Kp _ h.R, Kp _ h.M, h.row.alloc o, h.below.alloc (by have := h.size; omega) o⟩
theorem RMsgI.drew (h : RMsgI bs w wr k v) : RMsgI bs w wr.drew k v :=
 ⟨h.R, h.M, h.row.drew, h.below.drew⟩
theorem RMsgI.appended {W w1 : World} {v' : Value} (h : RMsgI bs w W k v) (hg : W.grownBy w1 v.ownBlock)
  (ho : w1.ownsRow (w.heap.size + 2) 58 3 v' (k + 1) (Kd (keysOf bs k) ++ [.int .i64 (Ko bs (12 + 6 * k) 1), .int .i64 (Ko bs (12 + 6 * k + 1) 4), .int .i64 (Ko bs (12 + 6 * k + 5) 1)])) :
  w1.cell? ⟨w.heap.size + 1, 5, none⟩ = some v /\ w1.frozen? ⟨w.heap.size + 1, 5, none⟩ = false /\ RMsgI bs w (w1.setCell ⟨w.heap.size + 1, 5, none⟩ v') (k + 1) v' := by
 have hb : ∀ g, v.ownBlock = some g -> w.heap.size + 2 <= g := fun g hg => (h.row.lt g hg).1
 have hs := h.size; have eR : w1.heap[w.heap.size]? = _ := (hg.block _ (by omega) (fun e => by have := hb _ e.symm; omega)).trans h.R
 have eM : w1.heap[w.heap.size + 1]? = _ := (hg.block _ (by omega) (fun e => by have := hb _ e.symm; omega)).trans h.M
 refine ⟨Ka eM 5, Kr eM 5, ⟨by rw [Kj _ _ _ _ _ (by omega)]; exact eR, Kf eM, ?_, ?_⟩⟩
 · rw [keysOf_succ]
   exact ownsRow_setCell_below ho (by simp) _
 · refine Below.setCell (h.below.grown hg (by omega) (fun g e => by have := hb g e; omega)) (by simp) _
end
theorem ext_list (s : ByteArray) (a b : Nat) : (s.extract a b).data.toList = (s.data.toList.drop a).take (b - a) := by
 simp
theorem num_ext (s : ByteArray) (a b : Nat) (h : b = a + 4) : numL (s.extract a b).data.toList = Ko s.data.toList a 4 := by
 rw [ext_list, Ko]; subst h; simp
theorem byte_field (s : ByteArray) (k : Nat) (h : k < s.size) : wrap64 (s[k].toNat : Int) = Ko s.data.toList k 1 := by
 have hb := s[k].toNat_lt; rw [IntWalk.wrap64_in _ ⟨by omega, by omega⟩, Ko, take1_at (by simpa using h), num1]
 rfl
theorem info_rkey : (Tryz.prog.info? 58).map (fun i => (i.zero, i.size, i.bytes)) = some (some (.agg #[.int .i64 0, .int .i64 0, .int .i64 0]), 3, 24) := by kernel_rfl
theorem rdecode_sized (s : ByteArray) (w : World) (h : s.size = 12 + 6 * (s.data.toList.getD 11 0).toNat) :
  Calls Tryz.prog 29 #[.string s] w (RDecPost w s.data.toList) := by
 have h11 : 11 < s.size := by omega
 have hb : (s[11].toNat : Int) < 256 := by have := s[11].toNat_lt; omega
 have ht : ((s.size : Int) != ((12 : Int) + (6 : Int) * (s[11].toNat : Int))) = false := by
  rw [byte11 s h11] at h; rw [bne_eq_false_iff_eq]; omega
 have hsz : s.size = 12 + 6 * s[11].toNat := by rw [byte11 s h11] at h; exact h
 have hsz1 : s.size <= 100000 := by have := s[11].toNat_lt; omega
 have hns : 12 <= s.size := by omega
 have h0 : (0 : Int) < s.size := by omega
 have h1 : (1 : Int) < s.size := by omega
 have h10 : (10 : Int) < s.size := by omega
 have h0n : 0 < s.size := by omega
 have h6 : (6 : Int) <= s.size := by omega
 have h10' : (10 : Int) <= s.size := by omega
 have h1n : 1 < s.size := by omega
 have h10n : 10 < s.size := by omega
 have HSZ := Hd hsz
 have hsB : sizedB s.data.toList = true := by
  have : s.data.toList.length = s.size := by simp
  unfold sizedB; rw [this]; simp only [Bool.and_eq_true, Bool.not_eq_true', decide_eq_false_iff_not, decide_eq_true_eq]; omega
 have hnb := byte11 s h11; have HSB := Hd hsB; have HNB := Hd hnb; clear h hsz hsB hnb; have HX := Hd (Kc w (.cells #[.int .i64 0, .int .i64 0, .int .i64 0, .int .i64 0, .int .i64 0, .slice none 0 0] 33)); go_enter Tryz.func29, Tryz.ntmps29; go_wp2_with fail
 go_region
 rw [byte_field s 0 h0n, byte_field s 1 h1n, byte_field s 10 h10n]; go_wp2_with fail
 refine (rnumber_any _ _ ?_).mono ?_
 · simp; omega
 rintro e w' ⟨rfl, rfl⟩; rw [num_ext s 2 6 rfl]; go_wp2_with fail
 refine (rnumber_any _ _ ?_).mono ?_
 · simp; omega
 rintro e w' ⟨rfl, rfl⟩; rw [num_ext s 6 10 rfl]; go_wp2_with fail
 obtain ⟨n, hnn⟩ : ∃ n, s[11].toNat = n := ⟨_, rfl⟩; have HSZ : Hid (s.size = 12 + 6 * n) := by rw [<- hnn]; exact HSZ.out
 have HNB : Hid ((s.data.toList.getD 11 0).toNat = n) := by rw [<- hnn]; exact congrArg UInt8.toNat HNB.out
 obtain ⟨bs, hbs⟩ : ∃ bs, s.data.toList = bs := ⟨_, rfl⟩; rw [hbs] at HSB HNB ⊢; have HBS := Hd hbs; clear hnn hbs; go_loopw [5] (fun i wr => ∃ (k : Nat) (v : Value), k <= n /\ i = .int .i64 ((12 + 6 * k : Nat) : Int) /\ RMsgI bs w wr k v) (fun i _ => s.size - (intOf i).toNat)
 case atStart =>
  exact ⟨0, .slice none 0 0, Nat.zero_le _, rfl, ⟨Kp _ (Kc w _), Jh _ _ (by simp), World.ownsRow_nil _ _ _ _, (((Below.refl _ w).alloc (Nat.le_refl _) _).alloc (by simp) _).drew⟩⟩
 case round =>
  obtain ⟨k, v, hkn, rfl, hI⟩ := hrel; by_cases hlt : k < n
  · obtain ⟨o, ho⟩ : ∃ o, 12 + 6 * k = o := ⟨_, rfl⟩
    have hosz : o + 6 <= s.size := by have := HSZ.out; omega
    have ho0 : o < s.size := by omega
    have ho5 : o + 5 < s.size := by omega
    have ho0i : (o : Int) < s.size := by omega
    have ho5i : (o : Int) + 5 < s.size := by omega
    have ho5l : (o : Int) + 5 <= s.size := by omega
    rw [ho]; have HO := Hd ho; have hM := Ka hI.M; have hsz := hI.size; have HI := Hd hI; clear ho hI; go_wp2_with fail
    have hsl := run_slice_string (P := Tryz.prog) wr 9 s .i64 .i64 ((o : Int) + 1) ((o : Int) + 5) Tryz.underlying9 (by omega) (by omega) (by omega)
    have ea : ((o : Int) + 1).toNat = o + 1 := by omega
    have eb : ((o : Int) + 5).toNat = o + 5 := by omega
    rw [ea, eb] at hsl; rw [hsl]; clear ea eb hsl; go_wp2_with fail
    refine (rnumber_any _ _ ?_).mono ?_
    · simp; omega
    rintro e w' ⟨rfl, rfl⟩; rw [num_ext s (o + 1) (o + 5) (by omega), HBS.out]
    obtain ⟨o5, ho5e⟩ : ∃ o5, o + 5 = o5 := ⟨_, rfl⟩; have hw5 : IntKind.i64.wrap ((o : Int) + 5) = (o5 : Int) := by rw [IntWalk.i64_in _ ⟨by omega, by omega⟩]; omega
    have h5n : o5 < s.size := by omega
    have h5i : (o5 : Int) < s.size := by omega
    have HO5 := Hd ho5e; clear ho5e ho5 ho5i ho5l; go_wp2_with fail
    go_region
    rw [byte_field s o ho0, byte_field s o5 h5n, HBS.out]; have HI2 := Hd ((HI.out.alloc (.cells #[.int .i64 (Ko bs o 1), .int .i64 (Ko bs (o + 1) 4), .int .i64 (Ko bs o5 1)] 58)).drew); obtain ⟨W2, hW2⟩ : ∃ W2, W2 = (wr.alloc (.cells #[.int .i64 (Ko bs o 1), .int .i64 (Ko bs (o + 1) 4), .int .i64 (Ko bs o5 1)] 58)).drew := ⟨_, rfl⟩; have hu := Ka (show W2.heap[wr.heap.size]? = _ by rw [hW2]; exact Kc wr _)
    have hM2 := Ka (show W2.heap[w.heap.size + 1]? = _ by rw [hW2]; exact HI2.out.M)
    rw [<- hW2] at HI2 ⊢; have HW2 := Hd hW2; have HN := Hd (Kt W2 [.int .i64 (Ko bs o 1), .int .i64 (Ko bs (o + 1) 4), .int .i64 (Ko bs o5 1)] 58 (n := W2.heap.size) rfl); have HI3 := Hd (HI2.out.alloc (.cells #[.int .i64 (Ko bs o 1), .int .i64 (Ko bs (o + 1) 4), .int .i64 (Ko bs o5 1)] 58)); have k3 : k + 1 <= maxLen := by have := HO.out; unfold maxLen; omega
    have K3 := Hd k3; have hbk : (k + 1) * 24 <= 140737488355328 := by have := HO.out; omega
    have HBK := Hd hbk; obtain ⟨i0, hi, hz0, hz1, hz2⟩ := info_parts info_rkey; have hsW2 := HI2.out.size; clear hM k3 hbk hW2; go_wp2_with (at_builtin; refine wpList_append_own _ rfl _ _ 31 rfl (w.heap.size + 2) 58 i0 _ 3 24 Tryz.underlying31 hi hz0 hz1 hz2 rfl (by decide) v k _ rfl HI3.out.row ⟨W2.heap.size, 0, none⟩ 1 1 _ rfl rfl HN.out (by simp [Value.oneCell']) K3.out HBK.out (by have := HI3.out.size; omega) ?_)
    intro v' w1 hown1 hgrow1 _; obtain ⟨hM1, hf1, hI1⟩ := HI3.out.appended hgrow1 (by rw [<- HO5.out, <- HO.out] at hown1; exact hown1)
    obtain ⟨ad', cp', rfl⟩ := Kg hown1; have HI1 := Hd hI1; clear hI1 hown1 hgrow1; have hw6 : (o : Int) + 6 = ((12 + 6 * (k + 1) : Nat) : Int) := by have := HO.out; omega
    have HW6 := Hd hw6; clear hw6; go_wp2; go_roundw
    case rel => exact ⟨k + 1, _, by omega, by rw [<- HW6.out], HI1.out⟩
    case measure => simp [intOf]; omega
  · have hk : k = n := by omega
    subst hk; have hle : s.size <= 12 + 6 * k := by have := HSZ.out; omega
    have hkb : k <= 100000 := by have := HSZ.out; omega
    have hM := Ka hI.M; obtain ⟨a, cap, rfl⟩ := Kg hI.row; obtain ⟨hlen, hka⟩ := keysAt_row hI.row; have hR := Kb hI.R; have hsz := hI.size; have HI := Hd hI; have HKA := Hd hka; have HLE := Hd hlen; have hrow := Jl (B' := w.heap.size) hI.row (by omega)
    have HROW := Hd hrow; clear hI hka hlen hrow; have hm : Ze bs = ⟨Ko bs 0 1, Ko bs 1 1, Ko bs 2 4, Ko bs 6 4, Ko bs 10 1, keysOf bs k⟩ := by rw [Ze, HNB.out]
    have HM := Hd hm; clear hm; go_wp2_with fail
    refine (rwhole_at ⟨Ko bs 0 1, Ko bs 1 1, Ko bs 2 4, Ko bs 6 4, Ko bs 10 1, keysOf bs k⟩ a k cap _ HLE.out (by omega) HKA.out).mono ?_
    rintro e w2 ⟨rfl, hb2⟩; rw [<- HM.out]; have hR2 : w2.heap[w.heap.size]? = _ := (hb2.block _ hR).trans HI.out.R; have hM2 : w2.heap[w.heap.size + 1]? = _ := (hb2.block _ hsz).trans HI.out.M; have hBB : Below w.heap.size w w2 := HI.out.below.trans (hb2.mono (by omega))
    have hRow2 : w2.ownsRow w.heap.size 58 3 (.slice a k cap) k (Kd (keysOf bs k)) := Ks HROW.out hb2; have hcR := Ka hR2; have hcM := Ka hM2; have hfR := Kr hR2; have HR2 := Hd hR2; have HBB := Hd hBB; have HRow2 := Hd hRow2; have hsz2 := hb2.size; clear hR2 hM2 hBB hRow2 hb2 hR; cases hw : Jn (Ze bs)
    · have HD : Hid (Ja bs = none) := by unfold Ja; rw [if_neg (by rw [hw]; simp)]; trivial
      have HW := Hd hw; clear hw; go_wp2; refine six_set (R := bodyPost _ _ _ _ _) HR2.out _ _ _ _ _ _ (fun W hW hC => ?_)
      have hc := Ka hW; refine bodyPost_ret (v := .tuple #[noMsg, .int .i64 2]) (by simp [results, Tryz.results29, go_sem, noMsg, hc]) rfl ⟨?_, .inl ⟨by rw [HBS.out]; exact HD.out, rfl⟩⟩
      exact HBB.out.trans (hC.below (by omega) (fun k o e => by omega))
    · have HD : Hid (Ja bs = some (Ze bs)) := by unfold Ja; rw [if_pos ⟨HSB.out, hw⟩]; trivial
      have HW := Hd hw; clear hw; go_wp2; refine six_set (R := bodyPost _ _ _ _ _) HR2.out _ _ _ _ _ _ (fun W hW hC => ?_)
      have hc := Ka hW; have hm := HM.out; refine bodyPost_ret (v := .tuple #[(Ze bs).agg (.slice a k cap), .int .i64 0]) (by simp [results, Tryz.results29, go_sem, M.agg, hm, hc]) rfl ⟨?_, .inr ⟨by rw [HBS.out]; exact HD.out, .slice a k cap, by rw [HBS.out], ?_⟩⟩
      · exact HBB.out.trans (hC.below (by omega) (fun k o e => by omega))
      · rw [HBS.out, hm]
        have := Kq HRow2.out hC (fun g o hg e => by have := (HI.out.row.lt g hg).1; omega)
        have e : (keysOf bs k).length = k := HLE.out
        show W.ownsRow _ _ _ _ (keysOf bs k).length _
        rw [e]; exact this
theorem rdecode_any (s : ByteArray) (w : World) (hm : s.size <= maxLen) : Calls Tryz.prog 29 #[.string s] w (RDecPost w s.data.toList) := by
 have hl : s.data.toList.length = s.size := by simp
 by_cases h : s.size < 12
 · refine (rdecode_short s w h).mono fun e w' ⟨he, hb⟩ => ⟨hb, .inl ⟨?_, he⟩⟩
   unfold Ja; rw [if_neg (by unfold sizedB; rw [hl]; simp [h])]
 · by_cases h' : s.size = 12 + 6 * (s.data.toList.getD 11 0).toNat
   · exact rdecode_sized s w h'
   · refine (rdecode_odd s w h h' hm).mono fun e w' ⟨he, hb⟩ => ⟨hb, .inl ⟨?_, he⟩⟩
     unfold Ja; rw [if_neg (by unfold sizedB; rw [hl]; simp only [Bool.and_eq_true, decide_eq_true_eq]; omega)]
end Go.Proofs.YtfngdplkcppabaaGreatDoor
namespace Go.Proofs.YtfngdplkcppabaaGreatDoor
open Go.RowKit Go.Extern.Stop Go.Stop Go.Extern
/-! ### CLOSED FACTS ON THE MODEL's ENTRIES FOR internal/reflectlite, at the types api.Errno ('25'), *api.Errno ('27'), error, reflectlite.rtype -/
theorem rl_valueOf27 (t : Addr) (w : World) : (ReflectliteValue.unpack (.iface 158 (.pointer (some t)))).run Tryz.prog w
  = .ok (.agg #[.pointer (some ⟨1, 158, none⟩), .pointer (some ⟨w.heap.size, 0, none⟩), .int .u64 150]) (w.alloc (.cells #[.pointer (some t)] 158)) := by kernel_rfl
theorem rl_type27 (a : Addr) (w : World) : (ReflectliteValue.methodAny (ReflectliteValue.valueError "reflectlite.Value.Type" 0) (fun t _ _ _ => ReflectliteType.toType t) #[.agg #[.pointer (some ⟨1, 158, none⟩), .pointer (some a), .int .u64 150]]).run Tryz.prog w
  = .ok (.iface 219 (.agg #[.pointer (some ⟨1, 158, none⟩)])) w := by kernel_rfl
theorem rl_methodKind (h : Value) (w : World) : (Go.method 406 219 (.agg #[h]) "Kind").run Tryz.prog w = .ok (203, h) w := by kernel_rfl
theorem rl_kind27 (w : World) : ((ReflectliteType.abiMethod fun t => Functor.map (fun a : Nat => Value.int IntKind.u8 (a : Int)) (Rtype.kind t)) #[.pointer (some ⟨1, 158, none⟩)]).run Tryz.prog w = .ok (.int .u8 22) w := by kernel_rfl
theorem rl_kind25 (w : World) : ((ReflectliteType.abiMethod fun t => Functor.map (fun a : Nat => Value.int IntKind.u8 (a : Int)) (Rtype.kind t)) #[.pointer (some ⟨1, 111, none⟩)]).run Tryz.prog w = .ok (.int .u8 2) w := by kernel_rfl
/-! ### THE ENTRIES THAT READ OR WRITE MEMORY: laws with a premise on the cell (after Derived/Lib/ReflectliteSlice.lean's manner: each unfolding a lemma of its own, by rfl) -/
theorem rlm (z : Sem Value) (f : TypeId -> Addr -> Nat -> Nat -> Sem Value) (v : Value) :
  ReflectliteValue.method z f #[v] = (do match <- ReflectliteValue.parts v with | none => z | some (t, a, fl) => f t a fl (fl % 32)) := rfl
theorem rl_parts27 (a : Addr) (w : World) : (ReflectliteValue.parts (.agg #[.pointer (some ⟨1, 158, none⟩), .pointer (some a), .int .u64 150])).run Tryz.prog w = .ok (some (158, a, 150)) w := by kernel_rfl
theorem rl_isNil27 (a p : Addr) (W : World) (ha : W.cell? a = some (.pointer (some p))) :
  (ReflectliteValue.method (ReflectliteValue.valueError "reflectlite.Value.IsNil" 0) ReflectliteValue.isNil #[.agg #[.pointer (some ⟨1, 158, none⟩), .pointer (some a), .int .u64 150]]).run Tryz.prog W = .ok (.bool false) W := by
 rw [rlm]; simp only [Sem.run_bind, rl_parts27, Result.andThen]
 simp [ReflectliteValue.isNil, loadVar, isAgg, underlying, Tryz.underlying158, ha, Result.andThen]
theorem rl_methodElem (h : Value) (w : World) : (Go.method 406 219 (.agg #[h]) "Elem").run Tryz.prog w = .ok (213, .agg #[h]) w := by kernel_rfl
theorem rl_methodImplements (h : Value) (w : World) : (Go.method 406 219 (.agg #[h]) "Implements").run Tryz.prog w = .ok (214, .agg #[h]) w := by kernel_rfl
theorem rl_methodAssignableTo (h : Value) (w : World) : (Go.method 406 219 (.agg #[h]) "AssignableTo").run Tryz.prog w = .ok (211, .agg #[h]) w := by kernel_rfl
theorem rl_elem27 (w : World) : (ReflectliteType.method ReflectliteType.elem #[.agg #[.pointer (some ⟨1, 158, none⟩)]]).run Tryz.prog w = .ok (.iface 219 (.agg #[.pointer (some ⟨1, 111, none⟩)])) w := by kernel_rfl
theorem rl_implements25 (w : World) : (ReflectliteType.relation "Implements" ReflectliteType.implements_ #[.agg #[.pointer (some ⟨1, 111, none⟩)], .iface 219 (.agg #[.pointer (some ⟨1, 64, none⟩)])]).run Tryz.prog w = .ok (.bool true) w := by kernel_rfl
theorem rl_typeOf25 (v : Value) (w : World) : (ReflectliteType.typeOf #[.iface 111 v]).run Tryz.prog w = .ok (.iface 219 (.agg #[.pointer (some ⟨1, 111, none⟩)])) w := by kernel_rfl
theorem rl_assignable25 (w : World) : (ReflectliteType.relation "AssignableTo" ReflectliteType.assignableTo #[.agg #[.pointer (some ⟨1, 111, none⟩)], .iface 219 (.agg #[.pointer (some ⟨1, 111, none⟩)])]).run Tryz.prog w = .ok (.bool true) w := by kernel_rfl
theorem rl_valueOf25 (e : Int) (w : World) : (ReflectliteValue.unpack (.iface 111 (.int .i64 e))).run Tryz.prog w
  = .ok (.agg #[.pointer (some ⟨1, 111, none⟩), .pointer (some ⟨w.heap.size, 0, none⟩), .int .u64 130]) (w.alloc (.cells #[.int .i64 e] 111)) := by kernel_rfl
theorem rl_elemOf27 (w : World) : (Rtype.elem? 158).run Tryz.prog w = .ok (some 111) w := by kernel_rfl
theorem rl_mk25 (p : Addr) (w : World) : (ReflectliteValue.mk 111 p ReflectliteValue.flagAddr).run Tryz.prog w = .ok (.agg #[.pointer (some ⟨1, 111, none⟩), .pointer (some p), .int .u64 386]) w := by kernel_rfl
theorem rl_elemV27 (a p : Addr) (W : World) (ha : W.cell? a = some (.pointer (some p))) :
  (ReflectliteValue.method (ReflectliteValue.valueError "reflectlite.Value.Elem" 0) ReflectliteValue.elem #[.agg #[.pointer (some ⟨1, 158, none⟩), .pointer (some a), .int .u64 150]]).run Tryz.prog W
   = .ok (.agg #[.pointer (some ⟨1, 111, none⟩), .pointer (some p), .int .u64 386]) W := by
 rw [rlm]; simp only [Sem.run_bind, rl_parts27, Result.andThen]
 simp [ReflectliteValue.elem, loadVar, isAgg, underlying, Tryz.underlying158, ha, Result.andThen, rl_elemOf27, rl_mk25]
theorem rls (v x : Value) : ReflectliteValue.set #[v, x] = (do
  let (some (dst, a, fl), some (src, b, _)) := (<- ReflectliteValue.parts v, <- ReflectliteValue.parts x)
   | unsupported (.noEntry "extern/(internal/reflectlite.Value).Set.zeroValue")
  if fl / ReflectliteValue.flagAddr % 2 == 0 then unsupported (.noEntry "extern/(internal/reflectlite.Value).Set.unaddressable")
  let val <- loadVar src b
  if <- Rtype.directlyAssignable dst src then storeVar dst a val
  else if <- Rtype.implements dst src then
   if (<- Rtype.kind src) == 20 then
    match val with
    | .nilIface => unsupported (.noEntry "extern/reflectlite: a nil value of one interface type handed on as a value of another")
    | _ => storeVar dst a val
   else storeVar dst a (.iface src val)
  else panicString ("reflectlite.Set: value of type " ++ (<- Rtype.spelt src) ++ " is not assignable to type " ++ (<- Rtype.spelt dst))
  pure (.tuple #[])) := rfl
theorem rl_parts25a (a : Addr) (w : World) : (ReflectliteValue.parts (.agg #[.pointer (some ⟨1, 111, none⟩), .pointer (some a), .int .u64 386])).run Tryz.prog w = .ok (some (111, a, 386)) w := by kernel_rfl
theorem rl_parts25 (a : Addr) (w : World) : (ReflectliteValue.parts (.agg #[.pointer (some ⟨1, 111, none⟩), .pointer (some a), .int .u64 130])).run Tryz.prog w = .ok (some (111, a, 130)) w := by kernel_rfl
theorem rl_direct25 (w : World) : (Rtype.directlyAssignable 111 111).run Tryz.prog w = .ok true w := by kernel_rfl
theorem rl_set25 (ta b : Addr) (e : Int) (old : Value) (W : World) (hb : W.cell? b = some (.int .i64 e)) (ht : W.cell? ta = some old) (hf : W.frozen? ta = false) :
  (ReflectliteValue.set #[.agg #[.pointer (some ⟨1, 111, none⟩), .pointer (some ta), .int .u64 386], .agg #[.pointer (some ⟨1, 111, none⟩), .pointer (some b), .int .u64 130]]).run Tryz.prog W
   = .ok (.tuple #[]) (W.setCell ta (.int .i64 e)) := by
 rw [rls]; simp only [Sem.run_bind, rl_parts25a, rl_parts25, Result.andThen]
 simp [ReflectliteValue.flagAddr, loadVar, isAgg, underlying, Tryz.underlying111, hb, Result.andThen, rl_direct25, storeVar, Value.cells, storeCells, Addr.add]
 rw [run_store Tryz.prog W ta _ _ (by rfl)]
 simp [ht, hf]
theorem as_hit (e : Int) (t : Addr) (old : Value) (w : World) (hg : w.cell? ⟨0, 0, none⟩ = some (.iface 219 (.agg #[.pointer (some ⟨1, 64, none⟩)]))) (ht0 : w.cell? t = some old) (hf0 : w.frozen? t = false) :
  Calls Tryz.prog 79 #[.iface 111 (.int .i64 e), .iface 158 (.pointer (some t))] w fun ev w' => ev = .returned (.bool true) /\ w' = ((((w.alloc (.cells #[.pointer (some t)] 158)).alloc (.cells #[.pointer (some ⟨1, 158, none⟩), .pointer (some ⟨w.heap.size, 0, none⟩), .int .u64 150] 191)).alloc (.cells #[.pointer (some ⟨1, 158, none⟩), .pointer (some ⟨w.heap.size, 0, none⟩), .int .u64 150] 191)).alloc (.cells #[.int .i64 e] 111)).setCell t (.int .i64 e) := by
 have h6 := @run_callFunc_extern Tryz.prog 115 _ (fun args => ReflectliteValue.unpack (args.getD 0 (.tuple #[]))) Tryz.func115 (by kernel_rfl) (by kernel_rfl) (by kernel_rfl) (by kernel_rfl)
 have h7 := @run_callFunc_extern Tryz.prog 116 _ (ReflectliteValue.methodAny (ReflectliteValue.valueError "reflectlite.Value.Type" 0) (fun t _ _ _ => ReflectliteType.toType t)) Tryz.func116 (by kernel_rfl) (by kernel_rfl) (by kernel_rfl) (by kernel_rfl)
 have h8 := @run_callFunc_extern Tryz.prog 117 _ (ReflectliteValue.method (ReflectliteValue.valueError "reflectlite.Value.IsNil" 0) ReflectliteValue.isNil) Tryz.func117 (by kernel_rfl) (by kernel_rfl) (by kernel_rfl) (by kernel_rfl)
 have h27 := @run_callFunc_extern Tryz.prog 203 _ (ReflectliteType.abiMethod fun t => do pure (.int .u8 (<- Rtype.kind t))) Tryz.func203 (by kernel_rfl) (by kernel_rfl) (by kernel_rfl) (by kernel_rfl)
 have h37 := @run_callFunc_extern Tryz.prog 213 _ (ReflectliteType.method ReflectliteType.elem) Tryz.func213 (by kernel_rfl) (by kernel_rfl) (by kernel_rfl) (by kernel_rfl)
 have h38 := @run_callFunc_extern Tryz.prog 214 _ (ReflectliteType.relation "Implements" ReflectliteType.implements_) Tryz.func214 (by kernel_rfl) (by kernel_rfl) (by kernel_rfl) (by kernel_rfl)
 have h10 := @run_callFunc_extern Tryz.prog 135 _ ReflectliteType.typeOf Tryz.func135 (by kernel_rfl) (by kernel_rfl) (by kernel_rfl) (by kernel_rfl)
 have h35 := @run_callFunc_extern Tryz.prog 211 _ (ReflectliteType.relation "AssignableTo" ReflectliteType.assignableTo) Tryz.func211 (by kernel_rfl) (by kernel_rfl) (by kernel_rfl) (by kernel_rfl)
 have h11 := @run_callFunc_extern Tryz.prog 136 _ (ReflectliteValue.method (ReflectliteValue.valueError "reflectlite.Value.Elem" 0) ReflectliteValue.elem) Tryz.func136 (by kernel_rfl) (by kernel_rfl) (by kernel_rfl) (by kernel_rfl)
 have h12 := @run_callFunc_extern Tryz.prog 137 _ ReflectliteValue.set Tryz.func137 (by kernel_rfl) (by kernel_rfl) (by kernel_rfl) (by kernel_rfl)
 have tO := rl_typeOf25; have mA := rl_methodAssignableTo; have a25 := rl_assignable25; have v25 := rl_valueOf25; have f6 := rl_valueOf27; have f7 := rl_type27; have mK := rl_methodKind; have mE := rl_methodElem; have mI := rl_methodImplements; have k27 := rl_kind27; have k25 := rl_kind25; have e27 := rl_elem27; have i25 := rl_implements25; have n8 := rl_isNil27 ⟨w.heap.size, 0, none⟩ t ((w.alloc (.cells #[.pointer (some t)] 158)).alloc (.cells #[.pointer (some ⟨1, 158, none⟩), .pointer (some ⟨w.heap.size, 0, none⟩), .int .u64 150] 191)) (by simp)
 have hlt : 0 < w.heap.size := by
  rcases Nat.eq_zero_or_pos w.heap.size with h0 | h
  · simp [World.cell?, h0] at hg
  · exact h
 have hg2 : ((w.alloc (.cells #[.pointer (some t)] 158)).alloc (.cells #[.pointer (some ⟨1, 158, none⟩), .pointer (some ⟨w.heap.size, 0, none⟩), .int .u64 150] 191)).cell? ⟨0, 0, none⟩ = some (.iface 219 (.agg #[.pointer (some ⟨1, 64, none⟩)])) := by
  rw [World.cell?_alloc_lt _ _ ⟨0, 0, none⟩ (by simp), World.cell?_alloc_lt _ _ ⟨0, 0, none⟩ hlt]; exact hg
 have htl : t.block < w.heap.size := by
  rcases Nat.lt_or_ge t.block w.heap.size with h | h
  · exact h
  · simp [World.cell?, Array.getElem?_eq_none h] at ht0
 have el := rl_elemV27 ⟨w.heap.size, 0, none⟩ t (((w.alloc (.cells #[.pointer (some t)] 158)).alloc (.cells #[.pointer (some ⟨1, 158, none⟩), .pointer (some ⟨w.heap.size, 0, none⟩), .int .u64 150] 191)).alloc (.cells #[.pointer (some ⟨1, 158, none⟩), .pointer (some ⟨w.heap.size, 0, none⟩), .int .u64 150] 191)) (by rw [World.cell?_alloc_lt _ _ ⟨w.heap.size, 0, none⟩ (by simp; omega)]; simp)
 have st := rl_set25 t ⟨w.heap.size + 1 + 1 + 1, 0, none⟩ e old ((((w.alloc (.cells #[.pointer (some t)] 158)).alloc (.cells #[.pointer (some ⟨1, 158, none⟩), .pointer (some ⟨w.heap.size, 0, none⟩), .int .u64 150] 191)).alloc (.cells #[.pointer (some ⟨1, 158, none⟩), .pointer (some ⟨w.heap.size, 0, none⟩), .int .u64 150] 191)).alloc (.cells #[.int .i64 e] 111))
  (by rw [World.cell?_alloc_at _ _ _ _ (by simp)]; rfl)
  (by rw [World.cell?_alloc_lt _ _ t (by simp; omega), World.cell?_alloc_lt _ _ t (by simp; omega), World.cell?_alloc_lt _ _ t (by simp; omega), World.cell?_alloc_lt _ _ t htl]; exact ht0)
  (by rw [World.frozen?_alloc_old _ _ t (by simp; omega), World.frozen?_alloc_old _ _ t (by simp; omega), World.frozen?_alloc_old _ _ t (by simp; omega), World.frozen?_alloc_old _ _ t (Nat.ne_of_lt htl)]; exact hf0)
 go_enter Tryz.func79, Tryz.ntmps79; go_wp2; refine wp_loop_rounds 1 ?_; rw [rounds_succ]; go_wp2; go_ret
 exact ⟨rfl, rfl⟩
theorem told_nil (w : World) : Calls Tryz.prog 49 #[.nilIface] w fun e w' => e = .returned (.int .i64 0) /\ w = w' := by
 go_enter Tryz.func49, Tryz.ntmps49; go_wp2; go_ret
 exact ⟨rfl, rfl⟩
theorem told_errno (n : Int) (w : World) (hg : w.cell? ⟨0, 0, none⟩ = some (.iface 219 (.agg #[.pointer (some ⟨1, 64, none⟩)]))) :
  Calls Tryz.prog 49 #[.iface 111 (.int .i64 n)] w fun e w' => e = .returned (.int .i64 n) /\ Below w.heap.size w w' := by
 have hlt : 0 < w.heap.size := World.block_lt_of_cell? _ _ hg
 have hgA : (w.alloc (.cells #[.int .i64 0] 111)).cell? ⟨0, 0, none⟩ = some (.iface 219 (.agg #[.pointer (some ⟨1, 64, none⟩)])) := by
  rw [World.cell?_alloc_lt _ _ ⟨0, 0, none⟩ hlt]; exact hg
 have htA : (w.alloc (.cells #[.int .i64 0] 111)).cell? ⟨w.heap.size, 0, none⟩ = some (.int .i64 0) := by simp
 have hfA : (w.alloc (.cells #[.int .i64 0] 111)).frozen? ⟨w.heap.size, 0, none⟩ = false := by simp
 have HG := Hd hgA; clear hg hgA; go_enter Tryz.func49, Tryz.ntmps49; go_wp2_with fail
 refine (as_hit n _ _ _ HG.out htA hfA).mono ?_; rintro e w1 ⟨rfl, hw⟩; obtain ⟨W, hW⟩ : ∃ W, W = w1 := ⟨_, rfl⟩
 have hB : Below w.heap.size w w1 := by
  rw [hw]; exact ((((((Below.refl _ w).alloc (Nat.le_refl _) _).alloc (by simp) _).alloc (by simp; omega) _).alloc (by simp; omega) _).alloc (by simp; omega) _).setCell (by simp) _
 have hc : w1.cell? ⟨w.heap.size, 0, none⟩ = some (.int .i64 n) := by
  rw [hw]; refine World.cell?_setCell_same (u := .int .i64 0) _ _ _ ?_; rw [World.cell?_alloc_lt _ _ _ (by simp; omega), World.cell?_alloc_lt _ _ _ (by simp; omega), World.cell?_alloc_lt _ _ _ (by simp; omega), World.cell?_alloc_lt _ _ _ (by simp)]
  exact htA
 clear hw hW htA hfA; go_wp2; go_ret
 exact ⟨rfl, hB⟩
end Go.Proofs.YtfngdplkcppabaaGreatDoor
namespace Go.Proofs.YtfngdplkcppabaaGreatDoor
open Go.RowKit
def Jc (w : World) : Prop := w.cell? ⟨0, 0, none⟩ = some (.iface 219 (.agg #[.pointer (some ⟨1, 64, none⟩)]))
theorem Jc.lt {w : World} (h : Jc w) : 0 < w.heap.size := World.block_lt_of_cell? _ _ h
theorem Jc.below {w w' : World} (h : Jc w) (hb : Below w.heap.size w w') : Jc w' := by
 have hl := h.lt; unfold Jc at *; rw [hb.cell hl]; exact h
theorem below_drewN {B : Nat} {w w' : World} (h : Below B w w') (n : Nat) : Below B w (w'.drewN n) := ⟨h.os, h.tape, h.output, h.size, fun k hk => h.block k hk⟩
theorem num_any (n : Int) (w : World) : Calls Tryz.prog 50 #[.int .i64 n] w fun e w' => e = .returned (.int .i64 n) /\ w = w' := by
 go_enter Tryz.func50, Tryz.ntmps50; go_wp2; go_ret
 exact ⟨rfl, rfl⟩
theorem ltold_ok (w : World) : Calls Tryz.prog 26 #[.nilIface, .int .i64 0] w fun e w' => e = .returned (.bool true) /\ w = w' := by
 go_enter Tryz.func26, Tryz.ntmps26; go_wp2_with fail
 refine (told_nil _).mono ?_; rintro e w1 ⟨rfl, rfl⟩; go_wp2_with fail
 refine (num_any _ _).mono ?_; rintro e w1 ⟨rfl, rfl⟩; go_wp2; go_ret
 exact ⟨rfl, rfl⟩
theorem ltold_err (n : Int) (w : World) (hn : n ≠ 0) (hg : Jc w) :
  Calls Tryz.prog 26 #[.iface 111 (.int .i64 n), .int .i64 n] w fun e w' => e = .returned (.bool true) /\ Below w.heap.size w w' := by
 have HG := Hd hg; have hn0 : (n == 0) = false := by simp [hn]
 clear hg hn; go_enter Tryz.func26, Tryz.ntmps26; go_wp2_with fail
 refine (told_errno n _ HG.out).mono ?_; rintro e w1 ⟨rfl, hb⟩; have HB := Hd hb; clear hb; go_wp2_with fail
 refine (num_any _ _).mono ?_; rintro e w2 ⟨rfl, rfl⟩; go_wp2; go_ret
 exact ⟨rfl, HB.out⟩
theorem keys_same (l : List K) (a b : Option Addr) (n cap cap' : Nat) (w : World) (hn : l.length = n) (hl : n <= 9223372036854775807) (ha : Jq w a l) (hb : Jq w b l) :
  Calls Tryz.prog 30 #[.slice a n cap, .slice b n cap'] w fun e w' => e = .returned (.bool true) /\ Below w.heap.size w w' := by
 have HA := Hd ha; have HB := Hd hb; have HN := Hd hn; clear ha hb hn; go_enter Tryz.func30, Tryz.ntmps30; go_wp2; go_loopw [5] (fun i wr => ∃ k : Nat, k <= n /\ i = .int .i64 k /\ Below w.heap.size w wr) (fun i _ => n - (intOf i).toNat)
 case atStart => exact ⟨0, Nat.zero_le _, rfl, Below.refl _ _⟩
 case round =>
  obtain ⟨k, hkl, rfl, hb⟩ := hrel; by_cases hlt : k < n
  · have hlt' : k < l.length := by have := HN.out; omega
    obtain ⟨b1, off1, rfl, hb1, c0, c1, c2⟩ := HA.out k l[k] (List.getElem?_eq_getElem hlt'); obtain ⟨b2, off2, rfl, hb2, d0, d1, d2⟩ := HB.out k l[k] (List.getElem?_eq_getElem hlt'); rw [<- hb.cell hb1] at c0 c1 c2; rw [<- hb.cell hb2] at d0 d1 d2; have HBB := Hd hb; clear hb; go_wp2; go_quiet (fail); go_wp2; go_roundw
    case rel => exact ⟨k + 1, by omega, by go_num, below_drewN HBB.out _⟩
    case measure => simp [intOf]; omega
  · have hk' : k = n := by omega
    go_wp2; go_ret
    exact ⟨rfl, hb⟩
def KB (w : World) (b N : Nat) (f : Nat -> K) : Prop :=
 ∃ cs : Array Value, w.heap[b]? = some (.cells cs 76 (0, 0)) /\ N * 3 <= cs.size /\
  ∀ i, i < N -> cs[i * 3]? = some (.int .i64 (f i).id) /\ cs[i * 3 + 1]? = some (.int .i64 (f i).inc) /\ cs[i * 3 + 2]? = some (.int .i64 (f i).st)
section
variable {w w' : World} {b N : Nat} {f : Nat -> K}
theorem KB.lt (h : KB w b N f) : b < w.heap.size := by obtain ⟨cs, h, _⟩ := h; exact Kb h
theorem KB.cell0 (h : KB w b N f) {i : Nat} (hi : i < N) : w.cell? ⟨b, i * 3, none⟩ = some (.int .i64 (f i).id) := by
 obtain ⟨cs, h, _, hc⟩ := h; rw [Ka h]; exact (hc i hi).1
theorem KB.cell1 (h : KB w b N f) {i : Nat} (hi : i < N) : w.cell? ⟨b, i * 3 + 1, none⟩ = some (.int .i64 (f i).inc) := by
 obtain ⟨cs, h, _, hc⟩ := h; rw [Ka h]; exact (hc i hi).2.1
theorem KB.cell2 (h : KB w b N f) {i : Nat} (hi : i < N) : w.cell? ⟨b, i * 3 + 2, none⟩ = some (.int .i64 (f i).st) := by
 obtain ⟨cs, h, _, hc⟩ := h; rw [Ka h]; exact (hc i hi).2.2
theorem KB.free (h : KB w b N f) (k : Nat) : w.frozen? ⟨b, k, none⟩ = false := by
 obtain ⟨cs, h, _⟩ := h; exact Kr h k
theorem KB.heap (h : KB w b N f) (e : w'.heap[b]? = w.heap[b]?) : KB w' b N f := by
 obtain ⟨cs, h, hr⟩ := h; exact ⟨cs, e.trans h, hr⟩
theorem KB.block (h : KB w b N f) : ∃ cs, w.heap[b]? = some (.cells cs 76 (0, 0)) := by obtain ⟨cs, h, _⟩ := h; exact ⟨cs, h⟩
theorem KB.alloc (h : KB w b N f) (o : Obj) : KB (w.alloc o) b N f := h.heap (Below.heap_alloc _ _ _ h.lt)
theorem KB.under {B : Nat} (h : KB w b N f) (hb : Below B w w') (hB : b < B) : KB w' b N f := h.heap (hb.block b hB)
theorem KB.keysAt (h : KB w b N f) {l : List K} (hl : l.length <= N) (hf : ∀ i k, l[i]? = some k -> f i = k) : Jq w (some ⟨b, 0, none⟩) l := by
 intro i k hk
 have hi : i < N := by
  rcases Nat.lt_or_ge i l.length with h' | h'
  · omega
  · rw [List.getElem?_eq_none h'] at hk; cases hk
 refine ⟨b, 0, rfl, h.lt, ?_, ?_, ?_⟩
 · rw [Nat.zero_add, h.cell0 hi, hf i k hk]
 · rw [Nat.zero_add, h.cell1 hi, hf i k hk]
 · rw [Nat.zero_add, h.cell2 hi, hf i k hk]
theorem KB.set (h : KB w b N f) {i : Nat} (hi : i < N) (k : K) :
  KB (((w.setCell ⟨b, i * 3, none⟩ (.int .i64 k.id)).setCell ⟨b, i * 3 + 1, none⟩ (.int .i64 k.inc)).setCell ⟨b, i * 3 + 2, none⟩ (.int .i64 k.st)) b N (fun j => if j = i then k else f j) := by
 obtain ⟨cs, h, hs, hc⟩ := h; refine ⟨_, Kf (Kf (Kf h)), by simpa using hs, fun j hj => ?_⟩
 by_cases e : j = i
 · subst e
   have h0 : j * 3 < cs.size := by omega
   have h1 : j * 3 + 1 < cs.size := by omega
   have h2 : j * 3 + 2 < cs.size := by omega
   simp [Array.getElem?_setIfInBounds, h0, h1, h2]
 · have := hc j hj
   simp only [Array.getElem?_setIfInBounds, if_neg e]; rw [if_neg (by omega), if_neg (by omega), if_neg (by omega), if_neg (by omega), if_neg (by omega), if_neg (by omega), if_neg (by omega), if_neg (by omega), if_neg (by omega)]
   exact this
end
theorem KB.of_row {w : World} {B n : Nat} {v : Value} {l : List K} (h : w.ownsRow B 76 3 v n (Kd l)) (hn : 0 < n) : ∃ g cap, v = .slice (some ⟨g, 0, none⟩) n cap /\ B <= g /\ n <= cap /\ cap <= maxLen /\ l.length = n /\
  KB w g n (fun i => l.getD i ⟨0, 0, 0⟩) := by
 obtain ⟨g0, cap0, rfl⟩ := Kg h; obtain ⟨hlen, hk⟩ := keysAt_row h; rcases h.2 with ⟨_, e⟩ | ⟨g, cap, cur, e, hB, hg, hc, hm, hs, _⟩
 · omega
 · simp only [Value.slice.injEq] at e
   obtain ⟨rfl, _, rfl⟩ := e; refine ⟨g, cap0, rfl, hB, hc, hm, hlen, cur, hg, by rw [hs]; exact Nat.mul_le_mul_right 3 hc, fun i hi => ?_⟩
   have hi' : i < l.length := by omega
   obtain ⟨b, off, e, _, c0, c1, c2⟩ := hk i l[i] (List.getElem?_eq_getElem hi'); simp only [Option.some.injEq, Addr.mk.injEq] at e; obtain ⟨rfl, rfl, _⟩ := e; have hd : l.getD i ⟨0, 0, 0⟩ = l[i] := by simp [List.getD, hi']
   rw [Ka hg, Nat.zero_add] at c0 c1 c2
   show cur[i * 3]? = some (.int .i64 (l.getD i ⟨0, 0, 0⟩).id) /\ cur[i * 3 + 1]? = some (.int .i64 (l.getD i ⟨0, 0, 0⟩).inc) /\ cur[i * 3 + 2]? = some (.int .i64 (l.getD i ⟨0, 0, 0⟩).st)
   rw [hd]; exact ⟨c0, c1, c2⟩
theorem make_keys (n : Nat) (hn : n <= 2000000) : ∃ cs : Array Value, (∀ W : World, (Instr.makeSlice 46 (.int .i64 (n : Int)) (.int .i64 (n : Int))).run Tryz.prog W = .ok (.slice (some ⟨W.heap.size, 0, none⟩) n n) (W.alloc (.cells cs 76))) /\
  ∀ W : World, KB (W.alloc (.cells cs 76)) W.heap.size n (fun _ => ⟨0, 0, 0⟩) := by
 obtain ⟨i0, hi, hz0, hz1, hz2⟩ := info_parts info_key; refine ⟨madeCells (Value.agg #[.int .i64 0, .int .i64 0, .int .i64 0]).cells (n * 3), fun W => ?_, fun W => ⟨_, Kc W _, by rw [size_madeCells]; exact Nat.le_refl _, fun i hi => ?_⟩⟩
 · have hr := run_make (P := Tryz.prog) W 46 76 i0 _ Tryz.underlying46 hi hz0 .i64 .i64 n n (by omega) (Int.le_refl _) (by rw [hz2]; omega) (by omega)
   simp only [Int.toNat_natCast, hz1] at hr; exact hr
 · have hc : (Value.agg #[.int .i64 0, .int .i64 0, .int .i64 0]).cells = #[Value.int .i64 0, .int .i64 0, .int .i64 0] := rfl
   have h0 : i * 3 < n * 3 := by omega
   have h1 : i * 3 + 1 < n * 3 := by omega
   have h2 : i * 3 + 2 < n * 3 := by omega
   have e0 : (i * 3) % 3 = 0 := by omega
   have e1 : (i * 3 + 1) % 3 = 1 := by omega
   have e2 : (i * 3 + 2) % 3 = 2 := by omega
   rw [hc]; refine ⟨?_, ?_, ?_⟩ <;> simp [madeCells, h0, h1, h2, e0, e1, e2]
def zK : K := ⟨0, 0, 0⟩
def mK : K := ⟨-7, 0, 0⟩
def spareF (l : List K) (k : Nat) (i : Nat) : K := if i < k then l.getD i zK else zK
theorem KB.congr {w : World} {b N : Nat} {f f' : Nat -> K} (h : KB w b N f) (e : ∀ i, i < N -> f i = f' i) : KB w b N f' := by
 obtain ⟨cs, h1, h2, h3⟩ := h; exact ⟨cs, h1, h2, fun i hi => by rw [<- e i hi]; exact h3 i hi⟩
theorem KB.drew {w : World} {b N : Nat} {f : Nat -> K} (h : KB w b N f) : KB w.drew b N f := h
theorem spare_any (l : List K) (a : Option Addr) (n cap : Nat) (w : World) (hn : l.length = n) (hl : n <= 1000000) (ha : Jq w a l) :
  Calls Tryz.prog 22 #[.slice a n cap] w fun e w' => ∃ g cap', e = .returned (.slice (some ⟨g, 0, none⟩) n cap') /\ w.heap.size <= g /\ n + 2 <= cap' /\ Below w.heap.size w w' /\
   KB w' g (n + 2) (fun i => if i < n then l.getD i zK else mK) := by
 have HA := Hd ha; have HN := Hd hn; clear ha hn; obtain ⟨cs, hmk, hkb⟩ := make_keys (n + 2) (by omega)
 have e2 : ((n + 2 : Nat) : Int) = (n : Int) + 2 := by omega
 rw [e2] at hmk; have HKB := Hd hkb; clear hkb e2; go_enter Tryz.func22, Tryz.ntmps22; go_wp2_with fail
 go_loopw [5] (fun i wr => ∃ k : Nat, k <= n /\ i = .int .i64 k /\ Below w.heap.size w wr /\ KB wr w.heap.size (n + 2) (spareF l k)) (fun i _ => n - (intOf i).toNat)
 case atStart => exact ⟨0, Nat.zero_le _, rfl, (Below.refl _ _).alloc (Nat.le_refl _) _, by
  have e : spareF l 0 = fun _ => (⟨0, 0, 0⟩ : K) := by funext i; simp [spareF, zK]
  rw [e]; exact HKB.out w⟩
 case round =>
  obtain ⟨k, hkl, rfl, hb, hK⟩ := hrel; by_cases hlt : k < n
  · have hlt' : k < l.length := by have := HN.out; omega
    obtain ⟨b1, off1, rfl, hb1, c0, c1, c2⟩ := HA.out k l[k] (List.getElem?_eq_getElem hlt'); rw [<- hb.cell hb1] at c0 c1 c2; have hk2 : k < n + 2 := by omega
    have d0 := hK.cell0 hk2; have d1 := hK.cell1 hk2; have d2 := hK.cell2 hk2; have f0 := hK.free (k * 3); have f1 := hK.free (k * 3 + 1); have f2 := hK.free (k * 3 + 2); have HBB := Hd hb; have HK := Hd hK; clear hb hK hmk; go_wp2_with fail
    go_region
    have hK3 := (HK.out.set hk2 l[k]).drew; have HK3 := Hd hK3
    have HB3 : Hid (Below w.heap.size w (((wr.setCell ⟨w.heap.size, k * 3, none⟩ (.int .i64 l[k].id)).setCell ⟨w.heap.size, k * 3 + 1, none⟩ (.int .i64 l[k].inc)).setCell ⟨w.heap.size, k * 3 + 2, none⟩ (.int .i64 l[k].st)).drew) :=
     (((HBB.out.setCell (by simp) _).setCell (by simp) _).setCell (by simp) _).drew
    obtain ⟨W, hW⟩ : ∃ W, W = (((wr.setCell ⟨w.heap.size, k * 3, none⟩ (.int .i64 l[k].id)).setCell ⟨w.heap.size, k * 3 + 1, none⟩ (.int .i64 l[k].inc)).setCell ⟨w.heap.size, k * 3 + 2, none⟩ (.int .i64 l[k].st)).drew := ⟨_, rfl⟩; rw [<- hW] at HK3 HB3 ⊢; clear hW hK3 c0 c1 c2 d0 d1 d2 f0 f1 f2; go_wp2; go_roundw
    case rel =>
     refine ⟨k + 1, by omega, by go_num, HB3.out, ?_⟩
     have e : spareF l (k + 1) = fun j => if j = k then l[k] else spareF l k j := by
      funext j
      unfold spareF; by_cases hj : j = k
      · subst hj; simp [List.getD, hlt']
      · rw [if_neg hj]
        by_cases hj' : j < k
        · rw [if_pos (by omega), if_pos hj']
        · rw [if_neg (by omega), if_neg hj']
     rw [e]; exact HK3.out
    case measure => simp [intOf]; omega
  · have hk' : k = n := by omega
    subst hk'; have h1 : k < k + 2 := by omega
    have h2 : k + 1 < k + 2 := by omega
    have d0 := hK.cell0 h1; have d1 := hK.cell1 h1; have d2 := hK.cell2 h1; have f0 := hK.free; obtain ⟨Wa, hWa⟩ : ∃ Wa, Wa = ((wr.setCell ⟨w.heap.size, k * 3, none⟩ (.int .i64 (-7))).setCell ⟨w.heap.size, k * 3 + 1, none⟩ (.int .i64 0)).setCell ⟨w.heap.size, k * 3 + 2, none⟩ (.int .i64 0) := ⟨_, rfl⟩; have hKa : KB Wa w.heap.size (k + 2) (fun j => if j = k then mK else spareF l k j) := by rw [hWa]; exact hK.set h1 mK
    have hBa : Below w.heap.size w Wa := by rw [hWa]; exact ((hb.setCell (by simp) _).setCell (by simp) _).setCell (by simp) _
    have e0 := hKa.cell0 h2; have e1 := hKa.cell1 h2; have e2 := hKa.cell2 h2; have fa := hKa.free; have hKb : KB (((Wa.setCell ⟨w.heap.size, (k + 1) * 3, none⟩ (.int .i64 (-7))).setCell ⟨w.heap.size, (k + 1) * 3 + 1, none⟩ (.int .i64 0)).setCell ⟨w.heap.size, (k + 1) * 3 + 2, none⟩ (.int .i64 0)) w.heap.size (k + 2) (fun j => if j = k + 1 then mK else if j = k then mK else spareF l k j) := hKa.set h2 mK
    have hBb : Below w.heap.size w (((Wa.setCell ⟨w.heap.size, (k + 1) * 3, none⟩ (.int .i64 (-7))).setCell ⟨w.heap.size, (k + 1) * 3 + 1, none⟩ (.int .i64 0)).setCell ⟨w.heap.size, (k + 1) * 3 + 2, none⟩ (.int .i64 0)) := ((hBa.setCell (by simp) _).setCell (by simp) _).setCell (by simp) _
    have HWa := Hd hWa; have HB := Hd hBb; have HK := Hd hKb; clear hmk hK hKa hKb hb hWa hBa hBb; go_upto_region 8 with (fail); rw [<- HWa.out]; go_wp2; go_ret
    exact ⟨w.heap.size, k + 2, rfl, Nat.le_refl _, Nat.le_refl _, HB.out, HK.out.congr (fun j hj => by
     by_cases j1 : j = k + 1
     · rw [if_pos j1, if_neg (by omega)]
     · by_cases j2 : j = k
       · rw [if_neg j1, if_pos j2, if_neg (by omega)]
       · rw [if_neg j1, if_neg j2, if_pos (by omega)]; unfold spareF; rw [if_pos (by omega)])⟩
theorem still_any (l : List K) (g : Nat) (b : Option Addr) (n cap cap' : Nat) (w : World) (hn : l.length = n) (hl : n <= 1000000) (hc : n + 2 <= cap)
  (hg : KB w g (n + 2) (fun i => if i < n then l.getD i zK else mK)) (hb : Jq w b l) :
  Calls Tryz.prog 24 #[.slice (some ⟨g, 0, none⟩) n cap, .slice b n cap'] w fun e w' => e = .returned (.bool true) /\ Chg (fun k _ => k = g) w w' := by
 have hga : Jq w (some ⟨g, 0, none⟩) l := hg.keysAt (by omega) (fun i k hk => by
  have hi : i < l.length := by
   rcases Nat.lt_or_ge i l.length with h' | h'
   · exact h'
   · rw [List.getElem?_eq_none h'] at hk; cases hk
  show (if i < n then l.getD i zK else mK) = k
  rw [if_pos (by omega)]
  simp [List.getD, hk])
 have HGA := Hd hga; have HB := Hd hb; have HN := Hd hn; have HG := Hd hg; have hlt := hg.lt; clear hga hb hn hg; go_enter Tryz.func24, Tryz.ntmps24; go_wp2_with fail
 refine (keys_same l _ _ n _ _ _ HN.out (by omega) HGA.out HB.out).mono ?_
 rintro e w1 ⟨rfl, hb1⟩; have hg1 := HG.out.under hb1 hlt
 have d0 : w1.cell? ⟨g, n * 3, none⟩ = some (.int .i64 (-7)) := by
  have := hg1.cell0 (i := n) (by omega)
  rw [if_neg (by omega)] at this; exact this
 have d1 : w1.cell? ⟨g, (n + 1) * 3, none⟩ = some (.int .i64 (-7)) := by
  have := hg1.cell0 (i := n + 1) (by omega)
  rw [if_neg (by omega)] at this; exact this
 have HG1 := Hd hg1; have HC1 : Hid (Chg (fun k _ => k = g) w w1) := ⟨hb1.os, hb1.tape, hb1.output, hb1.size, fun k o hk _ => (hb1.block k (Kb hk)).trans hk⟩
 clear hg1 hb1; go_wp2; go_loopw [9] (fun i wr => ∃ k : Nat, k <= n + 2 /\ i = .int .i64 k /\ Chg (fun k _ => k = g) w wr /\ ∃ f, KB wr g (n + 2) f) (fun i _ => n + 2 - (intOf i).toNat)
 case atStart => exact ⟨0, Nat.zero_le _, rfl, HC1.out, _, HG1.out⟩
 case round =>
  obtain ⟨k, hkl, rfl, hch, f, hK⟩ := hrel; by_cases hlt2 : k < n + 2
  · have c0 := hK.cell0 hlt2
    have c1 := hK.cell1 hlt2; have c2 := hK.cell2 hlt2; have fr := hK.free; have hK2 := hK.set hlt2 mK; have HK2 := Hd hK2; have HCH := Hd hch; clear hK hK2 hch d0 d1; go_wp2; go_roundw
    case rel => exact ⟨k + 1, by omega, by go_num, ((HCH.out.setCell _ (fun _ _ => rfl)).setCell _ (fun _ _ => rfl)).setCell _ (fun _ _ => rfl), _, HK2.out⟩
    case measure => simp [intOf]; omega
  · have hk' : k = n + 2 := by omega
    go_wp2; go_ret
    exact ⟨rfl, hch⟩
def upd (f : Nat -> Value) (i : Nat) (v : Value) (j : Nat) : Value := if j = i then v else f j
theorem Ku (f : Nat -> Value) (i : Nat) (v : Value) : upd f i v i = v := if_pos rfl
theorem Kh (f : Nat -> Value) (i : Nat) (v : Value) {j : Nat} (h : j ≠ i) : upd f i v j = f j := if_neg h
def SB (t : TypeId) (N : Nat) (w : World) (b : Nat) (f : Nat -> Value) : Prop :=
 ∃ cs : Array Value, w.heap[b]? = some (.cells cs t (0, 0)) /\ N <= cs.size /\ ∀ i, i < N -> cs[i]? = some (f i)
section
variable {t : TypeId} {N : Nat} {w w' : World} {b : Nat} {f g : Nat -> Value}
theorem SB.lt (h : SB t N w b f) : b < w.heap.size := by obtain ⟨cs, h, _⟩ := h; exact Kb h
theorem SB.cell (h : SB t N w b f) {i : Nat} (hi : i < N) : w.cell? ⟨b, i, none⟩ = some (f i) := by
 obtain ⟨cs, h, _, hc⟩ := h; rw [Ka h]; exact hc i hi
theorem SB.free (h : SB t N w b f) (k : Nat) : w.frozen? ⟨b, k, none⟩ = false := by
 obtain ⟨cs, h, _⟩ := h; exact Kr h k
theorem SB.heap (h : SB t N w b f) (e : w'.heap[b]? = w.heap[b]?) : SB t N w' b f := by
 obtain ⟨cs, h, hr⟩ := h; exact ⟨cs, e.trans h, hr⟩
theorem SB.block (h : SB t N w b f) : ∃ cs, w.heap[b]? = some (.cells cs t (0, 0)) := by obtain ⟨cs, h, _⟩ := h; exact ⟨cs, h⟩
theorem SB.alloc (h : SB t N w b f) (o : Obj) : SB t N (w.alloc o) b f := h.heap (Below.heap_alloc _ _ _ h.lt)
theorem SB.drew (h : SB t N w b f) : SB t N w.drew b f := h
theorem SB.under {B : Nat} (h : SB t N w b f) (hb : Below B w w') (hB : b < B) : SB t N w' b f := h.heap (hb.block b hB)
theorem SB.chg {S : Nat -> Obj -> Prop} (h : SB t N w b f) (hc : Chg S w w') (hS : ∀ cs, ¬ S b (.cells cs t (0, 0))) : SB t N w' b f := by
 obtain ⟨cs, h, hr⟩ := h; exact ⟨cs, hc.kept b _ h (hS cs), hr⟩
theorem SB.grown {row : Option Nat} (h : SB t N w b f) (hg : w.grownBy w' row) (hr : row ≠ some b) : SB t N w' b f := h.heap (hg.block b h.lt (fun e => hr e.symm))
theorem SB.set (h : SB t N w b f) {i : Nat} (hi : i < N) (v : Value) : SB t N (w.setCell ⟨b, i, none⟩ v) b (upd f i v) := by
 obtain ⟨cs, h, hs, hc⟩ := h; refine ⟨_, Kf h, by simpa using hs, fun j hj => ?_⟩
 by_cases e : j = i
 · subst e
   have h0 : j < cs.size := by omega
   simp [h0, upd]
 · rw [Array.getElem?_setIfInBounds, if_neg (fun e' => e e'.symm), Kh _ _ _ e]
   exact hc j hj
theorem SB.other (h : SB t N w b f) {b' i : Nat} (hb : b' ≠ b) (v : Value) : SB t N (w.setCell ⟨b', i, none⟩ v) b f := h.heap (Kj _ _ _ _ _ (fun e => hb e.symm))
theorem SB.congr (h : SB t N w b f) (e : ∀ i, i < N -> f i = g i) : SB t N w b g := by
 obtain ⟨cs, h1, h2, h3⟩ := h; exact ⟨cs, h1, h2, fun i hi => by rw [<- e i hi]; exact h3 i hi⟩
theorem SB.ne {t' : TypeId} {N' b' : Nat} (h : SB t N w b f) (h' : SB t' N' w b' g) (ht : t ≠ t') : b ≠ b' := by
 obtain ⟨cs, h, _⟩ := h; obtain ⟨cs', h', _⟩ := h'; rintro rfl; rw [h] at h'; simp only [Option.some.injEq, Obj.cells.injEq] at h'; exact ht h'.2.1
theorem SB.neOwn {B e s n : Nat} {v : Value} {xs : List Value} (h : SB t N w b f) (ho : w.ownsRow B e s v n xs) (ht : t ≠ e) : v.ownBlock ≠ some b := by
 obtain ⟨cs, h, _⟩ := h; rcases ho.2 with ⟨rfl, _⟩ | ⟨g, cap, cur, rfl, _, hg, _⟩
 · simp [Value.ownBlock]
 · simp only [Value.ownBlock, ne_eq, Option.some.injEq]
   rintro rfl; rw [h] at hg; simp only [Option.some.injEq, Obj.cells.injEq] at hg; exact ht hg.2.1
end
theorem Ke {w : World} {B e s n : Nat} {v : Value} {xs : List Value} (h : w.ownsRow B e s v n xs) {g : Nat} (hg : v.ownBlock = some g) : B <= g /\ ∃ cur, w.heap[g]? = some (.cells cur e (0, 0)) := by
 rcases h.2 with ⟨rfl, _⟩ | ⟨g', cap, cur, rfl, hB, hc, _⟩
 · simp [Value.ownBlock] at hg
 · simp only [Value.ownBlock, Option.some.injEq] at hg
   subst hg; exact ⟨hB, cur, hc⟩
def Ki (w : World) (a : Option Addr) (l : List Value) : Prop :=
 ∀ j v, l[j]? = some v -> ∃ b off, a = some ⟨b, off, none⟩ /\ b < w.heap.size /\ w.cell? ⟨b, off + j, none⟩ = some v
theorem Ki.heap {w w' : World} {a : Option Addr} {l : List Value} (h : Ki w a l) (e : ∀ b off, a = some ⟨b, off, none⟩ -> b < w.heap.size -> w'.heap[b]? = w.heap[b]? /\ b < w'.heap.size) : Ki w' a l := by
 intro j v hj; obtain ⟨b, off, ea, hb, hc⟩ := h j v hj; obtain ⟨e1, e2⟩ := e b off ea hb; refine ⟨b, off, ea, e2, ?_⟩; unfold World.cell? at *; rw [e1]; exact hc
theorem Ki.below {w w' : World} {a : Option Addr} {l : List Value} (h : Ki w a l) (hb : Below w.heap.size w w') : Ki w' a l :=
 h.heap (fun b _ _ hlt => ⟨hb.block b hlt, Nat.lt_of_lt_of_le hlt hb.size⟩)
theorem Ki.row {w : World} {B e s n cap : Nat} {a : Option Addr} {l : List Value} (h : w.ownsRow B e s (.slice a n cap) n l) : Ki w a l := by
 intro j v hj; rcases h.2 with ⟨_, e'⟩ | ⟨g, cap', cur, e', _, hg, _, _, _, ht⟩
 · have hl := h.1
   subst e'; have : l = [] := List.eq_nil_of_length_eq_zero (by omega)
   subst this
   simp at hj
 · simp only [Value.slice.injEq] at e'
   obtain ⟨rfl, _, _⟩ := e'; refine ⟨g, 0, rfl, Kb hg, ?_⟩; rw [Nat.zero_add, Ka hg]; rw [<- ht, List.getElem?_take] at hj; rw [<- Array.getElem?_toList]; by_cases hlt : j < n * s
   · rw [if_pos hlt] at hj; exact hj
   · rw [if_neg hlt] at hj; cases hj
