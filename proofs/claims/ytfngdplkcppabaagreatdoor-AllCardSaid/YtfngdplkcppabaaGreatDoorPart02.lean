/-
  Texts of the proof: Message, PlainW, RefWhole, RefNum, RefBytes. No condition.
-/
import Derived.Test.YtfngdplkcppabaaGreatDoorPart01
import Derived.Lib.IndexBytes
set_option linter.all false
set_option maxRecDepth 100000
set_option maxHeartbeats 4000000
namespace Go.Proofs.YtfngdplkcppabaaGreatDoor
open Go.RowKit
def Ko (bs : List UInt8) (k wd : Nat) : Int := numL ((bs.drop k).take wd)
def Rest (bs : List UInt8) (k : Nat) (s : ByteArray) : Prop := s.data.toList = bs.drop k
def keyOf (bs : List UInt8) (o : Nat) : K := ⟨Ko bs o 1, Ko bs (o + 1) 4, Ko bs (o + 5) 1⟩
def keysOf (bs : List UInt8) (n : Nat) : List K := (List.range n).map fun i => keyOf bs (12 + 6 * i)
def Ze (bs : List UInt8) : M := ⟨Ko bs 0 1, Ko bs 1 1, Ko bs 2 4, Ko bs 6 4, Ko bs 10 1, keysOf bs (bs.getD 11 0).toNat⟩
def sizedB (bs : List UInt8) : Bool := !decide (bs.length < 12) && decide (bs.length = 12 + 6 * (bs.getD 11 0).toNat)
def Ja (bs : List UInt8) : Option M := if sizedB bs = true /\ Jn (Ze bs) = true then some (Ze bs) else none
def Kd (l : List K) : List Value := l.flatMap fun k => [.int .i64 k.id, .int .i64 k.inc, .int .i64 k.st]
def noMsg : Value := .agg #[.int .i64 0, .int .i64 0, .int .i64 0, .int .i64 0, .int .i64 0, .slice none 0 0]
def M.agg (m : M) (v : Value) : Value := .agg #[.int .i64 m.kind, .int .i64 m.frm, .int .i64 m.inc, .int .i64 m.seq, .int .i64 m.tgt, v]
theorem take_at (bs : List UInt8) (k p wd : Nat) (s : ByteArray) (wi : Int) (w : World) (hp : w.cell? ⟨p, 0, none⟩ = some (.string s)) (hf : w.frozen? ⟨p, 0, none⟩ = false)
  (hr : Rest bs k s) (hwi : wi = wd) (hw : wd <= 4) (hs : k + wd <= bs.length) (hss : bs.length <= 100000) :
  Calls Tryz.prog 80 #[.pointer (some ⟨p, 0, none⟩), .int .i64 wi] w fun e w' =>
   ∃ s', e = .returned (.int .i64 (Ko bs k wd)) /\ Rest bs (k + wd) s' /\ w.setCell ⟨p, 0, none⟩ (.string s') = w' := by
 have hsz : s.size = bs.length - k := by
  have := congrArg List.length hr
  simpa using this
 refine (take_any p wd s wi w hp hf hwi hw (by omega) (by omega)).mono fun e w' ⟨he, hw'⟩ => ⟨_, ?_, ?_, hw'⟩
 · rw [he, Ko, <- hr]
 · unfold Rest at *
   rw [Lib.extract_to_end, hr, List.drop_drop]
theorem take_ab (bs : List UInt8) (k p wd : Nat) (s : ByteArray) (wi : Int) (w : World) (hp : w.heap[p]? = some (.cells #[.string s] 160 (0, 0)))
  (hr : Rest bs k s) (hwi : wi = wd) (hw : wd <= 4) (hs : k + wd <= bs.length) (hss : bs.length <= 100000) :
  Calls Tryz.prog 80 #[.pointer (some ⟨p, 0, none⟩), .int .i64 wi] w fun e w' =>
   ∃ s', e = .returned (.int .i64 (Ko bs k wd)) /\ Rest bs (k + wd) s' /\ w'.heap[p]? = some (.cells #[.string s'] 160 (0, 0)) /\ Chg (fun b _ => b = p) w w' :=
 (take_at bs k p wd s wi w (Ka hp 0) (Kr hp 0) hr hwi hw hs hss).mono fun e w' ⟨s', he, hr', hw'⟩ =>
  ⟨s', he, hr', by rw [<- hw', Kf hp]; rfl, by rw [<- hw']; exact (Chg.refl _ _).setCell _ (fun _ _ => rfl)⟩
theorem message_short (s : ByteArray) (w : World) (h : s.size < 12) :
  Calls Tryz.prog 52 #[.string s] w fun e w' => e = .returned (.tuple #[noMsg, .iface 111 (.int .i64 2)]) /\ Below w.heap.size w w' := by
 go_enter Tryz.func52, Tryz.ntmps52; go_wp2; refine bodyPost_ret (v := .tuple #[noMsg, .iface 111 (.int .i64 2)]) (by simp [results, Tryz.results52, go_sem, noMsg]) rfl ⟨rfl, (Below.refl _ _).alloc (Nat.le_refl _) _⟩
theorem byte11 (s : ByteArray) (h : 11 < s.size) : (s.data.toList.getD 11 0) = s[11] := by
 simp [List.getD, h]; rfl
theorem message_odd (s : ByteArray) (w : World) (h : ¬ s.size < 12) (h' : s.size ≠ 12 + 6 * (s.data.toList.getD 11 0).toNat) (hm : s.size <= maxLen) :
  Calls Tryz.prog 52 #[.string s] w fun e w' => e = .returned (.tuple #[noMsg, .iface 111 (.int .i64 2)]) /\ Below w.heap.size w w' := by
 unfold maxLen at hm; have h11 : 11 < s.size := by omega
 have hb : (s[11].toNat : Int) < 256 := by have := s[11].toNat_lt; omega
 have ht : ((s.size : Int) != ((12 : Int) + (6 : Int) * (s[11].toNat : Int))) = true := by
  rw [byte11 s h11] at h'; rw [bne_iff_ne]; omega
 clear h'; go_enter Tryz.func52, Tryz.ntmps52; go_wp2; refine bodyPost_ret (v := .tuple #[noMsg, .iface 111 (.int .i64 2)]) (by simp [results, Tryz.results52, go_sem, noMsg]) rfl ⟨rfl, (Below.refl _ _).alloc (Nat.le_refl _) _⟩
theorem info_key : (Tryz.prog.info? 76).map (fun i => (i.zero, i.size, i.bytes)) = some (some (.agg #[.int .i64 0, .int .i64 0, .int .i64 0]), 3, 24) := by kernel_rfl
structure MsgI (bs : List UInt8) (w wr : World) (j k : Nat) (s' : ByteArray) (v : Value) : Prop where
 R : wr.heap[w.heap.size]? = some (.cells #[.int .i64 0, .int .i64 0, .int .i64 0, .int .i64 0, .int .i64 0, .slice none 0 0] 68 (0, 0))
 P : wr.heap[w.heap.size + 1]? = some (.cells #[.string s'] 160 (0, 0))
 M : wr.heap[w.heap.size + 1 + 1]? = some (.cells #[.int .i64 (Ko bs 0 1), .int .i64 (Ko bs 1 1), .int .i64 (Ko bs 2 4), .int .i64 (Ko bs 6 4), .int .i64 (Ko bs 10 1), v] 68 (0, 0))
 row : wr.ownsRow (w.heap.size + 3) 76 3 v k (Kd (keysOf bs k))
 rest : Rest bs j s'
 below : Below w.heap.size w wr
section
variable {bs : List UInt8} {w wr : World} {j k : Nat} {s' : ByteArray} {v : Value}
theorem MsgI.size (h : MsgI bs w wr j k s' v) : w.heap.size + 1 + 1 < wr.heap.size := Kb h.M
theorem MsgI.start {s6 : ByteArray} (h : Rest bs 12 s6) : MsgI bs w (((w.alloc (.cells #[.int .i64 0, .int .i64 0, .int .i64 0, .int .i64 0, .int .i64 0, .slice none 0 0] 68)).alloc (.cells #[.string s6] 160)).alloc
  (.cells #[.int .i64 (Ko bs 0 1), .int .i64 (Ko bs 1 1), .int .i64 (Ko bs 2 4), .int .i64 (Ko bs 6 4), .int .i64 (Ko bs 10 1), .slice none 0 0] 68)) 12 0 s6 (.slice none 0 0) :=
 ⟨Kp _ (Kp _ (Jh _ _ rfl)), Kp _ (Jh _ _ (by simp)), Jh _ _ (by simp), World.ownsRow_nil _ _ _ _, h, (((Below.refl _ w).alloc (Nat.le_refl _) _).alloc (by simp) _).alloc (by simp; omega) _⟩
theorem MsgI.took {w' : World} {j' : Nat} {s2 : ByteArray} (h : MsgI bs w wr j k s' v) (hp : w'.heap[w.heap.size + 1]? = some (.cells #[.string s2] 160 (0, 0)))
  (hc : Chg (fun b _ => b = w.heap.size + 1) wr w') (hr : Rest bs j' s2) : MsgI bs w w' j' k s2 v :=
 ⟨hc.kept _ _ h.R (by omega), hp, hc.kept _ _ h.M (by omega), Kq h.row hc (fun g _ hg e => by have := (h.row.lt g hg).1; omega), hr,
  h.below.trans (hc.below (by have := h.size; omega) (fun k _ e => by omega) |>.mono (Nat.le_succ _))⟩
theorem MsgI.alloc (h : MsgI bs w wr j k s' v) (o : Obj) : MsgI bs w (wr.alloc o) j k s' v :=
 ⟨Kp _ h.R, Kp _ h.P, Kp _ h.M, h.row.alloc o, h.rest, h.below.alloc (by have := h.size; omega) o⟩
theorem MsgI.setCell (h : MsgI bs w wr j k s' v) (b i : Nat) (u : Value) (hb : w.heap.size + 3 <= b) (hv : ∀ g, v.ownBlock = some g -> g ≠ b) : MsgI bs w (wr.setCell ⟨b, i, none⟩ u) j k s' v :=
 ⟨by rw [Kj _ _ _ _ _ (by omega)]; exact h.R, by rw [Kj _ _ _ _ _ (by omega)]; exact h.P, by rw [Kj _ _ _ _ _ (by omega)]; exact h.M,
  Kq h.row ((Chg.refl (fun k _ => k = b) wr).setCell u (fun _ _ => rfl)) (fun g _ hg e => hv g hg e), h.rest, h.below.setCell (by simp; omega) u⟩
theorem keysOf_succ (bs : List UInt8) (k : Nat) : Kd (keysOf bs (k + 1)) = Kd (keysOf bs k) ++ [.int .i64 (Ko bs (12 + 6 * k) 1), .int .i64 (Ko bs (12 + 6 * k + 1) 4), .int .i64 (Ko bs (12 + 6 * k + 5) 1)] := by
 simp [keysOf, Kd, List.range_succ, keyOf]
theorem MsgI.appended {W w1 : World} {v' : Value} (h : MsgI bs w W j k s' v) (hg : W.grownBy w1 v.ownBlock)
  (ho : w1.ownsRow (w.heap.size + 3) 76 3 v' (k + 1) (Kd (keysOf bs k) ++ [.int .i64 (Ko bs (12 + 6 * k) 1), .int .i64 (Ko bs (12 + 6 * k + 1) 4), .int .i64 (Ko bs (12 + 6 * k + 5) 1)])) :
  w1.cell? ⟨w.heap.size + 1 + 1, 5, none⟩ = some v /\ w1.frozen? ⟨w.heap.size + 1 + 1, 5, none⟩ = false /\ MsgI bs w (w1.setCell ⟨w.heap.size + 1 + 1, 5, none⟩ v') j (k + 1) s' v' := by
 have hb : ∀ g, v.ownBlock = some g -> w.heap.size + 3 <= g := fun g hg => (h.row.lt g hg).1
 have hs := h.size; have eR : w1.heap[w.heap.size]? = _ := (hg.block _ (by omega) (fun e => by have := hb _ e.symm; omega)).trans h.R
 have eP : w1.heap[w.heap.size + 1]? = _ := (hg.block _ (by omega) (fun e => by have := hb _ e.symm; omega)).trans h.P
 have eM : w1.heap[w.heap.size + 1 + 1]? = _ := (hg.block _ (by omega) (fun e => by have := hb _ e.symm; omega)).trans h.M
 refine ⟨Ka eM 5, Kr eM 5, ⟨by rw [Kj _ _ _ _ _ (by omega)]; exact eR, by rw [Kj _ _ _ _ _ (by omega)]; exact eP, Kf eM, ?_, h.rest, ?_⟩⟩
 · rw [keysOf_succ]
   exact ownsRow_setCell_below ho (by simp) _
 · refine Below.setCell (h.below.grown hg (by omega) (fun g e => by have := hb g e; omega)) (by simp; omega) _
end
theorem Jt (l : List K) : (Kd l).length = 3 * l.length := by
 induction l with
 | nil => rfl
 | cons a l ih => simp [Kd] at ih ⊢; omega
theorem keyCells_at (l : List K) : ∀ (i : Nat) (k : K), l[i]? = some k -> (Kd l)[i * 3]? = some (.int .i64 k.id) /\ (Kd l)[i * 3 + 1]? = some (.int .i64 k.inc) /\ (Kd l)[i * 3 + 2]? = some (.int .i64 k.st) := by
 induction l with
 | nil => intro i k h; simp at h
 | cons a l ih =>
  intro i k h; cases i with
  | zero => simp at h; subst h; simp [Kd]
  | succ i =>
   have := ih i k (by simpa using h)
   have e : Kd (a :: l) = [.int .i64 a.id, .int .i64 a.inc, .int .i64 a.st] ++ Kd l := rfl; rw [e]; have e1 : (i + 1) * 3 = 3 + i * 3 := by omega
   have e2 : (i + 1) * 3 + 1 = 3 + (i * 3 + 1) := by omega
   have e3 : (i + 1) * 3 + 2 = 3 + (i * 3 + 2) := by omega
   clear ih h; rw [e2, e3, e1]; rw [List.getElem?_append_right (by simp), List.getElem?_append_right (by simp), List.getElem?_append_right (by simp)]
   simpa [Nat.add_assoc] using this
theorem keysAt_row {w : World} {B t n cap : Nat} {a : Option Addr} {l : List K} (h : w.ownsRow B t 3 (.slice a n cap) n (Kd l)) : l.length = n /\ Jq w a l := by
 have hl : l.length = n := by have := h.1; rw [Jt] at this; omega
 refine ⟨hl, fun i k hk => ?_⟩
 have hi : i < l.length := by
  rcases Nat.lt_or_ge i l.length with h' | h'
  · exact h'
  · rw [List.getElem?_eq_none h'] at hk; cases hk
 rcases h.2 with ⟨e, e'⟩ | ⟨g, cap', cur, e, hB, hg, _⟩
 · omega
 · simp only [Value.slice.injEq] at e
   obtain ⟨rfl, _, rfl⟩ := e; obtain ⟨k0, k1, k2⟩ := keyCells_at l i k hk; refine ⟨g, 0, rfl, Kb hg, ?_, ?_, ?_⟩
   · rw [Nat.zero_add, h.cellAt _ (by omega)]; exact k0
   · rw [Nat.zero_add, h.cellAt _ (by omega)]; exact k1
   · rw [Nat.zero_add, h.cellAt _ (by omega)]; exact k2
def DecPost (w : World) (bs : List UInt8) (e : Ending) (w' : World) : Prop :=
 Below w.heap.size w w' /\
 ((Ja bs = none /\ e = .returned (.tuple #[noMsg, .iface 111 (.int .i64 2)])) \/
  (Ja bs = some (Ze bs) /\ ∃ v, e = .returned (.tuple #[(Ze bs).agg v, .nilIface]) /\ w'.ownsRow w.heap.size 76 3 v (Ze bs).ups.length (Kd (Ze bs).ups)))
theorem message_sized (s : ByteArray) (w : World) (h : s.size = 12 + 6 * (s.data.toList.getD 11 0).toNat) :
  Calls Tryz.prog 52 #[.string s] w (DecPost w s.data.toList) := by
 have h11 : 11 < s.size := by omega
 have hb : (s[11].toNat : Int) < 256 := by have := s[11].toNat_lt; omega
 have ht : ((s.size : Int) != ((12 : Int) + (6 : Int) * (s[11].toNat : Int))) = false := by
  rw [byte11 s h11] at h; rw [bne_eq_false_iff_eq]; omega
 have hn : Ko s.data.toList 11 1 = s[11].toNat := by
  rw [Ko, List.drop_eq_getElem_cons (by simpa using h11)]
  simp [numL]; rfl
 have hsz : s.data.toList.length = 12 + 6 * s[11].toNat := by rw [byte11 s h11] at h; simpa using h
 have hsz1 : s.data.toList.length <= 100000 := by have := s[11].toNat_lt; omega
 have hsz2 : 12 <= s.data.toList.length := by omega
 have hr0 : Rest s.data.toList 0 s := rfl; have hnb := byte11 s h11
 have hsB : sizedB s.data.toList = true := by
  have : s.data.toList.length = s.size := by simp
  unfold sizedB; rw [this]; simp only [Bool.and_eq_true, Bool.not_eq_true', decide_eq_false_iff_not, decide_eq_true_eq]; omega
 obtain ⟨bs, hbs⟩ : ∃ bs, s.data.toList = bs := ⟨_, rfl⟩; rw [hbs] at hnb hsB hn hsz hsz1 hsz2 hr0 ⊢; have HSB := Hd hsB; clear hsB; clear hbs; have hns : 12 <= s.size := by omega
 clear h; have HNB := Hd hnb; clear hnb; have HR0 := Hd hr0; have HN := Hd hn; have HS := Hd hsz; clear hr0 hn hsz; go_enter Tryz.func52, Tryz.ntmps52; go_wp2_with fail
 refine (take_at bs 0 (w.heap.size + 1) 1 s 1 _ ?_ ?_ HR0.out rfl (by omega) (by omega) hsz1).mono ?_
 · go_simp
 · go_simp
 rintro e w' ⟨s1, rfl, hr1, rfl⟩; have HR1 := Hd hr1; clear hr1; go_wp2_with fail
 refine (take_at bs 1 (w.heap.size + 1) 1 s1 1 _ ?_ ?_ HR1.out rfl (by omega) (by omega) hsz1).mono ?_
 · go_simp
 · go_simp
 rintro e w' ⟨s2, rfl, hr2, rfl⟩; have HR2 := Hd hr2; clear hr2; go_wp2_with fail
 refine (take_at bs 2 (w.heap.size + 1) 4 s2 4 _ ?_ ?_ HR2.out rfl (by omega) (by omega) hsz1).mono ?_
 · go_simp
 · go_simp
 rintro e w' ⟨s3, rfl, hr3, rfl⟩; have HR3 := Hd hr3; clear hr3; go_wp2_with fail
 refine (take_at bs 6 (w.heap.size + 1) 4 s3 4 _ ?_ ?_ HR3.out rfl (by omega) (by omega) hsz1).mono ?_
 · go_simp
 · go_simp
 rintro e w' ⟨s4, rfl, hr4, rfl⟩; have HR4 := Hd hr4; clear hr4; go_wp2_with fail
 refine (take_at bs 10 (w.heap.size + 1) 1 s4 1 _ ?_ ?_ HR4.out rfl (by omega) (by omega) hsz1).mono ?_
 · go_simp
 · go_simp
 rintro e w' ⟨s5, rfl, hr5, rfl⟩; have HR5 := Hd hr5; clear hr5; go_wp2_with fail
 refine (take_at bs 11 (w.heap.size + 1) 1 s5 1 _ ?_ ?_ HR5.out rfl (by omega) (by omega) hsz1).mono ?_
 · go_simp
 · go_simp
 rintro e w' ⟨s6, rfl, hr6, rfl⟩; rw [HN.out]; have HR6 := Hd hr6; clear hr6; go_wp2_with fail
 obtain ⟨n, hnn⟩ : ∃ n, s[11].toNat = n := ⟨_, rfl⟩; rw [hnn] at hb ⊢; have HNN := Hd hnn; have HS : Hid (bs.length = 12 + 6 * n) := by rw [<- hnn]; exact HS.out
 have HNB : Hid ((bs.getD 11 0).toNat = n) := by rw [<- hnn]; exact congrArg UInt8.toNat HNB.out
 clear hnn HR0 HR1 HR2 HR3 HR4 HR5; go_loopw [33] (fun i wr => ∃ (k : Nat) (s' : ByteArray) (v : Value), k <= n /\ i = .int .i64 k /\ MsgI bs w wr (12 + 6 * k) k s' v) (fun i _ => n - (intOf i).toNat)
 case atStart => exact ⟨0, s6, _, Nat.zero_le _, rfl, MsgI.start HR6.out⟩
 case round =>
  obtain ⟨k, s', v, hkn, rfl, hI⟩ := hrel; by_cases hlt : k < n
  · have hlen : 12 + 6 * k + 6 <= bs.length := by have := HS.out; omega
    have hsz := hI.size; have hlt0 : ∀ g, v.ownBlock = some g -> g < wr.heap.size := fun g hg => (hI.row.lt g hg).2
    have HI := Hd hI; have HL := Hd hlt0; clear hI hlt0; go_wp2_with fail
    refine (take_ab bs (12 + 6 * k) (w.heap.size + 1) 1 s' 1 _ HI.out.P HI.out.rest rfl (by omega) (by omega) hsz1).mono ?_
    rintro e w7 ⟨s7, rfl, hr7, hp7, hc7⟩; have hs7 := hc7.size; have HI7 := Hd (HI.out.took hp7 hc7 hr7); clear hp7 hc7 hr7; go_wp2_with fail
    refine (take_ab bs (12 + 6 * k + 1) (w.heap.size + 1) 4 s7 4 _ (HI7.out.alloc _).P HI7.out.rest rfl (by omega) (by omega) hsz1).mono ?_
    rintro e w8 ⟨s8, rfl, hr8, hp8, hc8⟩; have hs8 := hc8.size; rw [World.size_alloc] at hs8; have hu8 := Ka (hc8.kept w7.heap.size _ (Kc _ _) (by omega))
    have hf8 := Kr (hc8.kept w7.heap.size _ (Kc _ _) (by omega))
    have HU8 := Hd (hc8.kept w7.heap.size _ (Kc _ _) (by omega))
    have HI8 := Hd ((HI7.out.alloc _).took hp8 hc8 hr8); clear hp8 hc8 hr8; go_wp2_with fail
    have HI9a := Hd (HI8.out.setCell w7.heap.size 1 (.int .i64 (Ko bs (12 + 6 * k + 1) 4)) (by omega) (fun g hg => by have := HL.out g hg; omega))
    have HU9a := Hd (Kf (i := 1) (v := .int .i64 (Ko bs (12 + 6 * k + 1) 4)) HU8.out); refine (take_ab bs (12 + 6 * k + 5) (w.heap.size + 1) 1 s8 1 _ HI9a.out.P HI8.out.rest rfl (by omega) (by omega) hsz1).mono ?_
    rintro e w9 ⟨s9, rfl, hr9, hp9, hc9⟩; have hs9 := hc9.size; rw [World.size_setCell] at hs9; have hu9 := hc9.kept w7.heap.size _ HU9a.out (by omega)
    simp only [List.setIfInBounds_toArray, List.set_cons_succ, List.set_cons_zero] at hu9; have HU9 := Hd hu9; have hcu9 := Ka hu9; have hf9 := Kr hu9; have HI9 := Hd (HI9a.out.took hp9 hc9 hr9); have hM9 := Ka HI9.out.M 5; simp only [List.getElem?_toArray, List.getElem?_cons_succ, List.getElem?_cons_zero] at hM9
    have HW := Hd ((HI9.out.setCell w7.heap.size 2 (.int .i64 (Ko bs (12 + 6 * k + 5) 1)) (by omega) (fun g hg => by have := HL.out g hg; omega)).alloc
     (.cells #[.int .i64 (Ko bs (12 + 6 * k) 1), .int .i64 (Ko bs (12 + 6 * k + 1) 4), .int .i64 (Ko bs (12 + 6 * k + 5) 1)] 76))
    have HN := Hd (Kt (w9.setCell ⟨w7.heap.size, 2, none⟩ (.int .i64 (Ko bs (12 + 6 * k + 5) 1))) [.int .i64 (Ko bs (12 + 6 * k) 1), .int .i64 (Ko bs (12 + 6 * k + 1) 4), .int .i64 (Ko bs (12 + 6 * k + 5) 1)] 76 (n := w9.heap.size) (by simp))
    have k3 : k + 1 <= maxLen := by unfold maxLen; omega
    have K3 := Hd k3; obtain ⟨i0, hi, hz0, hz1, hz2⟩ := info_parts info_key; clear hp9 hc9 hr9 hu9 hu8 hf8 k3; go_wp2_with (at_builtin; refine wpList_append_own _ rfl _ _ 46 rfl (w.heap.size + 3) 76 i0 _ 3 24 Tryz.underlying46 hi hz0 hz1 hz2 rfl (by decide) v k _ rfl HW.out.row ⟨w9.heap.size, 0, none⟩ 1 1 _ rfl rfl HN.out (by simp [Value.oneCell']) K3.out (by omega) (by have := HW.out.size; omega) ?_)
    intro v' w1 hown1 hgrow1 _; obtain ⟨hM1, hf1, hI1⟩ := HW.out.appended hgrow1 hown1; obtain ⟨ad', cp', rfl⟩ := Kg hown1; have HI1 := Hd hI1; clear hI1 hown1 hgrow1; go_wp2; go_roundw
    case rel => exact ⟨k + 1, s9, _, by omega, by go_num, HI1.out⟩
    case measure => simp [intOf]; omega
  · have hk : k = n := by omega
    subst hk; have hI' := hI; have hM := Ka hI.M; obtain ⟨a, cap, rfl⟩ := Kg hI.row; obtain ⟨hlen, hka⟩ := keysAt_row hI.row; have hR := Kb hI.R; have hsz := hI.size; have HI := Hd hI; have HKA := Hd hka; have HLE := Hd hlen; have hrow := Jl (B' := w.heap.size) hI.row (by omega)
    have HROW := Hd hrow; clear hI hI' hka hlen hrow; have hm : Ze bs = ⟨Ko bs 0 1, Ko bs 1 1, Ko bs 2 4, Ko bs 6 4, Ko bs 10 1, keysOf bs k⟩ := by rw [Ze, HNB.out]
    have HM := Hd hm; clear hm; go_wp2_with fail
    refine (whole_at ⟨Ko bs 0 1, Ko bs 1 1, Ko bs 2 4, Ko bs 6 4, Ko bs 10 1, keysOf bs k⟩ a k cap _ HLE.out (by omega) HKA.out).mono ?_
    rintro e w2 ⟨rfl, hb2⟩; rw [<- HM.out]; have hR2 : w2.heap[w.heap.size]? = _ := (hb2.block _ hR).trans HI.out.R; have hM2 : w2.heap[w.heap.size + 1 + 1]? = _ := (hb2.block _ hsz).trans HI.out.M; have hBB : Below w.heap.size w w2 := HI.out.below.trans (hb2.mono (by omega))
    have hRow2 : w2.ownsRow w.heap.size 76 3 (.slice a k cap) k (Kd (keysOf bs k)) := Ks HROW.out hb2; have hcR := Ka hR2; have hcM := Ka hM2; have hfR := Kr hR2; have HR2 := Hd hR2; have HBB := Hd hBB; have HRow2 := Hd hRow2; have hsz2 := hb2.size; clear hR2 hM2 hBB hRow2 hb2 hR; cases hw : Jn (Ze bs)
    · have HD : Hid (Ja bs = none) := by unfold Ja; rw [if_neg (by rw [hw]; simp)]; trivial
      have HW := Hd hw; clear hw; go_wp2; refine six_set (R := bodyPost _ _ _ _ _) HR2.out _ _ _ _ _ _ (fun W hW hC => ?_)
      have hc := Ka hW; refine bodyPost_ret (v := .tuple #[noMsg, .iface 111 (.int .i64 2)]) (by simp [results, Tryz.results52, go_sem, noMsg, hc]) rfl ⟨?_, .inl ⟨HD.out, rfl⟩⟩
      exact HBB.out.trans (hC.below (by omega) (fun k o e => by omega))
    · have HD : Hid (Ja bs = some (Ze bs)) := by unfold Ja; rw [if_pos ⟨HSB.out, hw⟩]; trivial
      have HW := Hd hw; clear hw; go_wp2; refine six_set (R := bodyPost _ _ _ _ _) HR2.out _ _ _ _ _ _ (fun W hW hC => ?_)
      have hc := Ka hW; have hm := HM.out; refine bodyPost_ret (v := .tuple #[(Ze bs).agg (.slice a k cap), .nilIface]) (by simp [results, Tryz.results52, go_sem, M.agg, hm, hc]) rfl ⟨?_, .inr ⟨HD.out, .slice a k cap, rfl, ?_⟩⟩
      · exact HBB.out.trans (hC.below (by omega) (fun k o e => by omega))
      · rw [hm]
        have := Kq HRow2.out hC (fun g o hg e => by have := (HI.out.row.lt g hg).1; omega)
        have e : (keysOf bs k).length = k := HLE.out
        show W.ownsRow _ _ _ _ (keysOf bs k).length _
        rw [e]; exact this
theorem message_any (s : ByteArray) (w : World) (hm : s.size <= maxLen) : Calls Tryz.prog 52 #[.string s] w (DecPost w s.data.toList) := by
 have hl : s.data.toList.length = s.size := by simp
 by_cases h : s.size < 12
 · refine (message_short s w h).mono fun e w' ⟨he, hb⟩ => ⟨hb, .inl ⟨?_, he⟩⟩
   unfold Ja; rw [if_neg (by unfold sizedB; rw [hl]; simp [h])]
 · by_cases h' : s.size = 12 + 6 * (s.data.toList.getD 11 0).toNat
   · exact message_sized s w h'
   · refine (message_odd s w h h' hm).mono fun e w' ⟨he, hb⟩ => ⟨hb, .inl ⟨?_, he⟩⟩
     unfold Ja; rw [if_neg (by unfold sizedB; rw [hl]; simp only [Bool.and_eq_true, decide_eq_true_eq]; omega)]
theorem num1 (a : UInt8) : numL [a] = a.toNat := by simp [numL]
theorem be1 (n : Int) : be 1 n = [n % 256] := by simp [be]
theorem be4 (n : Int) : be 4 n = [n / 16777216 % 256, n / 65536 % 256, n / 256 % 256, n % 256] := by simp [be]
theorem take1_at {bs : List UInt8} {k : Nat} (h : k < bs.length) : (bs.drop k).take 1 = [bs[k]] := by
 rw [List.drop_eq_getElem_cons h]; rfl
theorem withinB_iff {n lo hi : Int} : Kl n lo hi = true ↔ lo <= n /\ n <= hi := by simp [Kl]
theorem keyB_iff {k : K} : keyB k = true ↔ (1 <= k.id /\ k.id <= 250) /\ (1 <= k.inc /\ k.inc <= 1073741824) /\ (1 <= k.st /\ k.st <= 4) := by
 simp only [keyB, Bool.and_eq_true, withinB_iff, and_assoc]
theorem whole_fields {m : M} (h : Jn m = true) : (1 <= m.kind /\ m.kind <= 5) /\ (1 <= m.frm /\ m.frm <= 250) /\ (1 <= m.inc /\ m.inc <= 1073741824) /\ (0 <= m.seq /\ m.seq <= 4294967295) /\ (0 <= m.tgt /\ m.tgt <= 250) /\ m.ups.length <= 8 /\ ∀ k ∈ m.ups, keyB k = true := by
 have h8 : m.ups.length <= 8 /\ -1 < Jy m.kind := by
  unfold Jn at h; simp only [Bool.and_eq_true, Bool.not_eq_true', decide_eq_false_iff_not] at h; have h2 := h.1.1.1.1.2; rcases roomI_cases m.kind with hr | hr | hr <;> rw [hr] at h2 ⊢ <;> omega
 have hk : 1 <= m.kind /\ m.kind <= 5 := by
  have := h8.2; unfold Jy at this
  split at this
  · omega
  · split at this <;> omega
 unfold Jn tgtB at h; simp only [Bool.and_eq_true, withinB_iff, List.all_eq_true] at h; obtain ⟨⟨⟨⟨⟨ht, _⟩, h2⟩, h3⟩, h4⟩, h5⟩ := h; refine ⟨hk, h2, h3, h4, ?_, h8.1, h5⟩
 split at ht
 · have := eq_of_beq ht; omega
 · rw [withinB_iff] at ht; omega
theorem head_length (a b c d e f : Int) : (headBytes a b c d e f).length = 12 := by simp [headBytes, be]
theorem rid_any (n : Int) (w : World) :
  Calls Tryz.prog 47 #[.int .i64 n] w fun e w' => e = .returned (.bool (Kl n 1 250)) /\ w = w' := by
 by_cases h1 : 1 <= n
 · by_cases h2 : n <= 250
   all_goals
    go_enter Tryz.func47, Tryz.ntmps47; go_wp2; go_ret
    exact ⟨by simp [Kl, *]; try omega, rfl⟩
 · go_enter Tryz.func47, Tryz.ntmps47
   go_wp2; go_ret
   exact ⟨by simp [Kl]; omega, rfl⟩
theorem rinc_any (n : Int) (w : World) :
  Calls Tryz.prog 48 #[.int .i64 n] w fun e w' => e = .returned (.bool (Kl n 1 1073741824)) /\ w = w' := by
 by_cases h1 : 1 <= n
 · by_cases h2 : n <= 1073741824
   all_goals
    go_enter Tryz.func48, Tryz.ntmps48; go_wp2; go_ret
    exact ⟨by simp [Kl, *]; try omega, rfl⟩
 · go_enter Tryz.func48, Tryz.ntmps48
   go_wp2; go_ret
   exact ⟨by simp [Kl]; omega, rfl⟩
theorem room_of {k : Int} (h1 : 1 <= k) (h2 : k <= 5) : Jy k = if k < 4 then 4 else 8 := by
 rcases (show k = 1 \/ k = 2 \/ k = 3 \/ k = 4 \/ k = 5 by omega) with rfl | rfl | rfl | rfl | rfl <;> rfl
theorem rseven (kind seq : Int) (f i : Bool) : kind < 1 \/ (1 <= kind /\ 5 < kind) \/ (1 <= kind /\ kind <= 5 /\ f = false) \/ (1 <= kind /\ kind <= 5 /\ f = true /\ i = false) \/ (1 <= kind /\ kind <= 5 /\ f = true /\ i = true /\ seq < 0) \/
  (1 <= kind /\ kind <= 5 /\ f = true /\ i = true /\ 0 <= seq /\ 4294967295 < seq) \/ (1 <= kind /\ kind <= 5 /\ f = true /\ i = true /\ 0 <= seq /\ seq <= 4294967295) := by
 cases f <;> cases i <;> simp <;> omega
theorem rwhole_no (kind frm inc seq tgt : Int) (l : List K) (a : Option Addr) (cap : Nat) (w : World)
  (hno : ¬ (1 <= kind /\ kind <= 5 /\ Kl frm 1 250 = true /\ Kl inc 1 1073741824 = true /\ 0 <= seq /\ seq <= 4294967295)) :
  Calls Tryz.prog 25 #[.agg #[.int .i64 kind, .int .i64 frm, .int .i64 inc, .int .i64 seq, .int .i64 tgt, .slice a l.length cap]] w fun e w' =>
   e = .returned (.bool false) /\ Below w.heap.size w w' := by
 rcases rseven kind seq (Kl frm 1 250) (Kl inc 1 1073741824) with h1 | ⟨h1, h2⟩ | ⟨h1, h2, h3⟩ | ⟨h1, h2, h3, h4⟩ | ⟨h1, h2, h3, h4, h5⟩ | ⟨h1, h2, h3, h4, h5, h6⟩ | h
 case inr.inr.inr.inr.inr.inr => exact absurd h hno
 all_goals
  clear hno; go_enter Tryz.func25, Tryz.ntmps25; go_wp2_with (first | (go_at_call 47; refine (rid_any _ _).mono ?_; rintro e w' ⟨rfl, rfl⟩) | (go_at_call 48; refine (rinc_any _ _).mono ?_; rintro e w' ⟨rfl, rfl⟩))
  go_ret
  exact ⟨rfl, (Below.refl _ _).alloc (Nat.le_refl _) _⟩
theorem rwhole_mid (kind frm inc seq tgt : Int) (l : List K) (a : Option Addr) (cap : Nat) (w : World) (hl : l.length <= 9223372036854775807)
  (h1 : 1 <= kind) (h2 : kind <= 5) (h3 : Kl frm 1 250 = true) (h4 : Kl inc 1 1073741824 = true) (h5 : 0 <= seq) (h6 : seq <= 4294967295)
  (hno : ¬ (tgtB kind tgt = true /\ ¬ Jy kind < (l.length : Int))) :
  Calls Tryz.prog 25 #[.agg #[.int .i64 kind, .int .i64 frm, .int .i64 inc, .int .i64 seq, .int .i64 tgt, .slice a l.length cap]] w fun e w' =>
   e = .returned (.bool false) /\ Below w.heap.size w w' := by
 rcases (show kind = 4 \/ kind = 5 \/ kind < 4 by omega) with hk | hk | hk
 all_goals
  obtain ⟨r, hr, hr'⟩ : ∃ r, Jy kind = r /\ r = if kind < 4 then 4 else 8 := ⟨_, rfl, room_of h1 h2⟩
  first | rw [if_pos (by omega)] at hr' | rw [if_neg (by omega)] at hr'
  subst hr'; rw [tgtB_eq hr, hr] at hno; simp only [Int.reduceEq, if_true, if_false] at hno
 · by_cases ht : tgt = 0
   · have hn : (8 : Int) < l.length := by simp [ht] at hno; omega
     clear hno hr; subst hk; go_enter Tryz.func25, Tryz.ntmps25; go_wp2_with (first | (go_at_call 47; refine (rid_any _ _).mono ?_; rintro e w' ⟨rfl, rfl⟩) | (go_at_call 48; refine (rinc_any _ _).mono ?_; rintro e w' ⟨rfl, rfl⟩))
     go_ret
     exact ⟨rfl, (Below.refl _ _).alloc (Nat.le_refl _) _⟩
   · have hb : (tgt == 0) = false := by simp [ht]
     clear hno hr; subst hk; go_enter Tryz.func25, Tryz.ntmps25; go_wp2_with (first | (go_at_call 47; refine (rid_any _ _).mono ?_; rintro e w' ⟨rfl, rfl⟩) | (go_at_call 48; refine (rinc_any _ _).mono ?_; rintro e w' ⟨rfl, rfl⟩))
     go_ret
     exact ⟨rfl, (Below.refl _ _).alloc (Nat.le_refl _) _⟩
 · by_cases ht : tgt = 0
   · have hn : (8 : Int) < l.length := by simp [ht] at hno; omega
     clear hno hr; subst hk; go_enter Tryz.func25, Tryz.ntmps25; go_wp2_with (first | (go_at_call 47; refine (rid_any _ _).mono ?_; rintro e w' ⟨rfl, rfl⟩) | (go_at_call 48; refine (rinc_any _ _).mono ?_; rintro e w' ⟨rfl, rfl⟩))
     go_ret
     exact ⟨rfl, (Below.refl _ _).alloc (Nat.le_refl _) _⟩
   · have hb : (tgt == 0) = false := by simp [ht]
     clear hno hr; subst hk; go_enter Tryz.func25, Tryz.ntmps25; go_wp2_with (first | (go_at_call 47; refine (rid_any _ _).mono ?_; rintro e w' ⟨rfl, rfl⟩) | (go_at_call 48; refine (rinc_any _ _).mono ?_; rintro e w' ⟨rfl, rfl⟩))
     go_ret
     exact ⟨rfl, (Below.refl _ _).alloc (Nat.le_refl _) _⟩
 · have k4 : (kind == 4) = false := by rw [beq_eq_false_iff_ne]; omega
   have k5 : (kind == 5) = false := by rw [beq_eq_false_iff_ne]; omega
   cases ht : Kl tgt 1 250
   · clear hno hr
     go_enter Tryz.func25, Tryz.ntmps25; go_wp2_with (first | (go_at_call 47; refine (rid_any _ _).mono ?_; rintro e w' ⟨rfl, rfl⟩) | (go_at_call 48; refine (rinc_any _ _).mono ?_; rintro e w' ⟨rfl, rfl⟩))
     go_ret
     exact ⟨rfl, (Below.refl _ _).alloc (Nat.le_refl _) _⟩
   · have hn : (4 : Int) < l.length := by simp [ht] at hno; omega
     clear hno hr; go_enter Tryz.func25, Tryz.ntmps25; go_wp2_with (first | (go_at_call 47; refine (rid_any _ _).mono ?_; rintro e w' ⟨rfl, rfl⟩) | (go_at_call 48; refine (rinc_any _ _).mono ?_; rintro e w' ⟨rfl, rfl⟩))
     go_ret
     exact ⟨rfl, (Below.refl _ _).alloc (Nat.le_refl _) _⟩
theorem rwhole_yes (kind frm inc seq tgt : Int) (l : List K) (a : Option Addr) (cap : Nat) (w : World) (hl : l.length <= 9223372036854775807) (hk : Jq w a l)
  (h1 : 1 <= kind) (h2 : kind <= 5) (h3 : Kl frm 1 250 = true) (h4 : Kl inc 1 1073741824 = true) (h5 : 0 <= seq) (h6 : seq <= 4294967295)
  (ht : tgtB kind tgt = true) (hn : ¬ Jy kind < (l.length : Int)) :
  Calls Tryz.prog 25 #[.agg #[.int .i64 kind, .int .i64 frm, .int .i64 inc, .int .i64 seq, .int .i64 tgt, .slice a l.length cap]] w fun e w' =>
   e = .returned (.bool (l.all keyB)) /\ Below w.heap.size w w' := by
 have HK := Hd hk; clear hk; rcases (show kind = 4 \/ kind = 5 \/ kind < 4 by omega) with hk | hk | hk
 all_goals
  obtain ⟨r, hr, hr'⟩ : ∃ r, Jy kind = r /\ r = if kind < 4 then 4 else 8 := ⟨_, rfl, room_of h1 h2⟩
  first | rw [if_pos (by omega)] at hr' | rw [if_neg (by omega)] at hr'
  subst hr'; rw [tgtB_eq hr] at ht; rw [hr] at hn; simp only [Int.reduceEq, if_true, if_false] at ht; have k4 : (kind == 4) = decide (kind = 4) := rfl; have k5 : (kind == 5) = decide (kind = 5) := rfl
  first | rw [decide_eq_true (by omega)] at k4 | rw [decide_eq_false (by omega)] at k4
  first | rw [decide_eq_true (by omega)] at k5 | rw [decide_eq_false (by omega)] at k5
  clear hr; go_enter Tryz.func25, Tryz.ntmps25; go_wp2_with (first | (go_at_call 47; refine (rid_any _ _).mono ?_; rintro e w' ⟨rfl, rfl⟩) | (go_at_call 48; refine (rinc_any _ _).mono ?_; rintro e w' ⟨rfl, rfl⟩))
  go_loopw [7] (fun i wr => ∃ k : Nat, k <= l.length /\ i = .int .i64 k /\ (l.take k).all keyB = true /\ Below w.heap.size w wr /\ wr.heap[w.heap.size]? = some (.cells #[.int .i64 kind, .int .i64 frm, .int .i64 inc, .int .i64 seq, .int .i64 tgt, .slice a l.length cap] 33 (0, 0))) (fun i _ => l.length - (intOf i).toNat)
  case atStart => exact ⟨0, Nat.zero_le _, rfl, rfl, (Below.refl _ _).alloc (Nat.le_refl _) _, by first | exact Kc _ _ | (rw [hk]; exact Kc _ _)⟩
  case round =>
   obtain ⟨k, hkl, rfl, hall, hb, hbx⟩ := hrel; have hcx := Ka hbx; have HA := Hd hall; have HX := Hd hbx; clear hall hbx; by_cases hlt : k < l.length
   · obtain ⟨b, off, rfl, hbl, c0, c1, c2⟩ := HK.out k l[k] (List.getElem?_eq_getElem hlt)
     have hsz := hb.size; have hsx := Kb HX.out; rw [<- hb.cell hbl] at c0 c1 c2; go_wp2_with (first | (go_at_call 47; refine (rid_any _ _).mono ?_; rintro e w' ⟨rfl, rfl⟩) | (go_at_call 48; refine (rinc_any _ _).mono ?_; rintro e w' ⟨rfl, rfl⟩))
     case roundEnd =>
      have hkk : keyB l[k] = true := by first | (simp_all [keyB]; done) | (simp_all [keyB, Kl]; done) | (simp_all [keyB, Kl]; omega)
      refine ⟨⟨k + 1, by omega, by go_num, by rw [all_take_succ hlt, HA.out, hkk]; rfl, hb.alloc (by omega) _, Kp _ HX.out⟩, by simp [intOf]; omega⟩
     all_goals
      have hkk : keyB l[k] = false := by first | (simp_all [keyB]; done) | (simp_all [keyB, Kl]; done) | (simp_all [keyB, Kl]; omega)
      go_ret
      exact ⟨by rw [all_keyB_false hlt hkk]; rfl, hb.alloc hsz _⟩
   · have hk' : k = l.length := by omega
     go_wp2; go_ret
     exact ⟨by have := HA.out; rw [hk', List.take_length] at this; rw [this]; rfl, hb⟩
theorem rwhole_at (m : M) (a : Option Addr) (n cap : Nat) (w : World) (hn : m.ups.length = n) (hl : n <= 9223372036854775807) (hk : Jq w a m.ups) :
  Calls Tryz.prog 25 #[.agg #[.int .i64 m.kind, .int .i64 m.frm, .int .i64 m.inc, .int .i64 m.seq, .int .i64 m.tgt, .slice a n cap]] w fun e w' =>
   e = .returned (.bool (Jn m)) /\ Below w.heap.size w w' := by
 subst hn; obtain ⟨kind, frm, inc, seq, tgt, l⟩ := m; have hw : Jn ⟨kind, frm, inc, seq, tgt, l⟩ = (tgtB kind tgt && !decide ((l.length : Int) > Jy kind) && Kl frm 1 250 && Kl inc 1 1073741824 && Kl seq 0 4294967295 && l.all keyB) := rfl; by_cases h : 1 <= kind /\ kind <= 5 /\ Kl frm 1 250 = true /\ Kl inc 1 1073741824 = true /\ 0 <= seq /\ seq <= 4294967295
 · obtain ⟨h1, h2, h3, h4, h5, h6⟩ := h
   have hs : Kl seq 0 4294967295 = true := withinB_iff.2 ⟨h5, h6⟩; by_cases h' : tgtB kind tgt = true /\ ¬ Jy kind < (l.length : Int)
   · have e : Jn ⟨kind, frm, inc, seq, tgt, l⟩ = l.all keyB := by
      have hd : decide ((l.length : Int) > Jy kind) = false := decide_eq_false (by simpa using h'.2)
      rw [hw, h'.1, hd, h3, h4, hs]; simp
     rw [e]; exact rwhole_yes kind frm inc seq tgt l a cap w hl hk h1 h2 h3 h4 h5 h6 h'.1 h'.2
   · have e : Jn ⟨kind, frm, inc, seq, tgt, l⟩ = false := by
      rw [hw]; by_cases ht : tgtB kind tgt = true
      · have hd : decide ((l.length : Int) > Jy kind) = true := decide_eq_true (by
         have := fun q => h' ⟨ht, q⟩
         simpa using Classical.not_not.1 this)
        rw [hd]; simp
      · rw [Bool.eq_false_iff.2 ht]; simp
     rw [e]; exact rwhole_mid kind frm inc seq tgt l a cap w hl h1 h2 h3 h4 h5 h6 h'
 · have e : Jn ⟨kind, frm, inc, seq, tgt, l⟩ = false := by
    cases hx : Jn ⟨kind, frm, inc, seq, tgt, l⟩
    · rfl
    · rw [hw] at hx
      simp only [Bool.and_eq_true, Bool.not_eq_true', decide_eq_false_iff_not] at hx; obtain ⟨⟨⟨⟨⟨_, x2⟩, x3⟩, x4⟩, x5⟩, _⟩ := hx; have := withinB_iff.1 x5; refine absurd ⟨?_, ?_, x3, x4, this.1, this.2⟩ h
      · unfold Jy at x2
        split at x2
        · omega
        · split at x2 <;> omega
      · unfold Jy at x2
        split at x2
        · omega
        · split at x2 <;> omega
   rw [e]; exact rwhole_no kind frm inc seq tgt l a cap w h
theorem mask255 (n : Int) (h0 : 0 <= n) (h1 : n <= 1099511627775) : bits .and .i64 n 255 = n % 256 :=
 bits_mask .i64 40 (by decide) (fun m h₀ h₁ => IntWalk.i64_in m (by omega)) 8 (by decide) n (by omega) (by omega)
theorem conv_new (w : World) (bs : List Int) (n : Nat) (hn : bs.length = n) :
  (convert 56 9 (.slice (some ⟨w.heap.size, 0, none⟩) n n)).run Tryz.prog (w.alloc (.cells (bs.map byteV).toArray 5)) = .ok (.string (strOfNums bs)) (w.alloc (.cells (bs.map byteV).toArray 5)) := by
 refine run_convert_bytes_arg _ _ 5 Tryz.underlying56 Tryz.underlying5 w.heap.size 0 n n bs hn (fun i hi => ?_) _ Tryz.underlying9
 rw [Nat.zero_add, Ka (Kc w _)]; have hi' : i < bs.length := by omega
 simp [byteV, List.getD, hi']
theorem conv_new4 (w : World) (a b c d : Int) (q : Nat) (hq : q = w.heap.size) :
  (convert 56 9 (.slice (some ⟨q, 0, none⟩) 4 4)).run Tryz.prog (w.alloc (.cells #[.int .u8 a, .int .u8 b, .int .u8 c, .int .u8 d] 5)) = .ok (.string (strOfNums [a, b, c, d])) (w.alloc (.cells #[.int .u8 a, .int .u8 b, .int .u8 c, .int .u8 d] 5)) := by subst hq; exact conv_new w [a, b, c, d] 4 rfl
theorem conv_new2 (w : World) (a b : Int) (q : Nat) (hq : q = w.heap.size) :
  (convert 56 9 (.slice (some ⟨q, 0, none⟩) 2 2)).run Tryz.prog (w.alloc (.cells #[.int .u8 a, .int .u8 b] 5)) = .ok (.string (strOfNums [a, b])) (w.alloc (.cells #[.int .u8 a, .int .u8 b] 5)) := by subst hq; exact conv_new w [a, b] 2 rfl
theorem conv_new1 (w : World) (a : Int) (q : Nat) (hq : q = w.heap.size) :
  (convert 56 9 (.slice (some ⟨q, 0, none⟩) 1 1)).run Tryz.prog (w.alloc (.cells #[.int .u8 a] 5)) = .ok (.string (strOfNums [a])) (w.alloc (.cells #[.int .u8 a] 5)) := by subst hq; exact conv_new w [a] 1 rfl
theorem rfour_any (n : Int) (w : World) (h0 : 0 <= n) (h1 : n <= 4294967295) :
  Calls Tryz.prog 51 #[.int .i64 n] w fun e w' => e = .returned (.string (strOfNums (be 4 n))) /\ Below w.heap.size w w' := by
 have e1 := mask255 (n / 16777216) (by omega) (by omega)
 have e2 := mask255 (n / 65536) (by omega) (by omega)
 have e3 := mask255 (n / 256) (by omega) (by omega)
 have e4 := mask255 n (by omega) (by omega)
 go_enter Tryz.func51, Tryz.ntmps51; go_wp2; rw [conv_new4 _ _ _ _ _ _ rfl]; go_wp2; go_ret
 refine ⟨by rw [be4]; rfl, (Below.refl _ _).alloc (Nat.le_refl _) _⟩
theorem rnumber_any (s : ByteArray) (w : World) (h : s.size = 4) :
  Calls Tryz.prog 53 #[.string s] w fun e w' => e = .returned (.int .i64 (numL s.data.toList)) /\ w = w' := by
 go_enter Tryz.func53, Tryz.ntmps53; go_wp2; go_loop [3, 4] (fun n i => ∃ k : Nat, k <= 4 /\ i = .int .i64 k /\ n = .int .i64 (numL (s.data.toList.take k))) (fun _ i => 4 - (intOf i).toNat)
 case atStart => exact ⟨0, Nat.zero_le _, rfl, rfl⟩
 case round =>
  obtain ⟨k, hk, rfl, rfl⟩ := hrel; by_cases hlt : k < 4
  · have hks : k < s.size := by omega
    obtain ⟨n, hn⟩ : ∃ n, numL (s.data.toList.take k) = n := ⟨_, rfl⟩; have hbd := numL_small (s.data.toList.take k) (by rw [List.length_take]; omega)
    rw [hn] at hbd ⊢; have hb := s[k].toNat_lt; have HN := Hd hn; clear hn; go_wp2; go_round
    case rel => exact ⟨k + 1, by omega, by go_num, by
     rw [take_snocB s k hks, numL_snoc, HN.out]; go_num⟩
    case measure => simp [intOf]; omega
  · have hk' : k = 4 := by omega
    go_wp2; go_ret
    refine ⟨?_, rfl⟩; have e : s.data.toList.take 4 = s.data.toList := List.take_of_length_le (by simp; omega)
    rw [e]; rfl
theorem str_size (a : List Int) : (strOfNums a).size = a.length := by simp [strOfNums, ByteArray.size]
theorem str_add (a b : List Int) : strOfNums a ++ strOfNums b = strOfNums (a ++ b) := by
 apply ByteArray.ext
 simp [strOfNums]
theorem rbytes_any (kind frm inc seq tgt : Int) (l : List K) (a : Option Addr) (cap : Nat) (w : World) (hl : l.length <= 1000000) (hk : Jq w a l)
  (hi : 0 <= inc /\ inc <= 4294967295) (hs : 0 <= seq /\ seq <= 4294967295) (hu : ∀ k ∈ l, 0 <= k.inc /\ k.inc <= 4294967295) :
  Calls Tryz.prog 27 #[.agg #[.int .i64 kind, .int .i64 frm, .int .i64 inc, .int .i64 seq, .int .i64 tgt, .slice a l.length cap]] w fun e w' =>
   e = .returned (.string (strOfNums (Jr ⟨kind, frm, inc, seq, tgt, l⟩))) /\ Below w.heap.size w w' := by
 have HK := Hd hk; have HU := Hd hu; have HI := Hd hi; have HS := Hd hs; clear hk hu hi hs; have hz4 : ∀ n, (strOfNums (be 4 n)).size = 4 := fun n => by rw [str_size, be_length]
 have hz2 : ∀ x y, (strOfNums [x, y]).size = 2 := fun x y => by rw [str_size]; rfl
 have hz1 : ∀ x, (strOfNums [x]).size = 1 := fun x => by rw [str_size]; rfl
 have hza : ∀ s t : ByteArray, (s ++ t).size = s.size + t.size := fun s t => ByteArray.size_append
 go_enter Tryz.func27, Tryz.ntmps27; go_wp2_with fail
 rw [conv_new2]
 rotate_left
 · simp
 go_wp2_with fail
 refine (rfour_any _ _ HI.out.1 HI.out.2).mono ?_; rintro e w1 ⟨rfl, hb1⟩; have hx1 : w1.heap[w.heap.size]? = _ := (hb1.block _ (by simp; omega)).trans (Kp _ (Kc w _))
 have hc1 := Ka hx1; have hB1 : Below w.heap.size w w1 := Jg (Jg (hb1.mono (by simp)) |>.mono (by simp))
 have HX1 := Hd hx1; have HB1 := Hd hB1; clear hb1 hx1 hB1; go_wp2_with fail
 refine (rfour_any _ _ HS.out.1 HS.out.2).mono ?_; rintro e w2 ⟨rfl, hb2⟩; have hx2 : w2.heap[w.heap.size]? = _ := (hb2.block _ (Kb HX1.out)).trans HX1.out; have hc2 := Ka hx2; have hB2 : Below w.heap.size w w2 := HB1.out.trans (hb2.mono HB1.out.size); have HX2 := Hd hx2; have HB2 := Hd hB2; clear hb2 hx2 hB2 HX1 HB1 hc1; go_wp2_with fail
 rw [conv_new2 _ _ _ _ rfl]; go_wp2_with fail
 go_loopw [3, 6] (fun s i wr => ∃ k : Nat, k <= l.length /\ i = .int .i64 k /\ s = .string (strOfNums (headBytes kind frm inc seq tgt l.length ++ (l.take k).flatMap keyBytes)) /\ Below w.heap.size w wr /\ wr.heap[w.heap.size]? = some (.cells #[.int .i64 kind, .int .i64 frm, .int .i64 inc, .int .i64 seq, .int .i64 tgt, .slice a l.length cap] 33 (0, 0))) (fun _ i _ => l.length - (intOf i).toNat)
 case atStart =>
  refine ⟨0, Nat.zero_le _, rfl, ?_, HB2.out.alloc HB2.out.size _, Kp _ HX2.out⟩
  simp [str_add, headBytes, be1]
 case round =>
  obtain ⟨k, hkl, rfl, rfl, hb, hbx⟩ := hrel; clear hc2; have hcx := Ka hbx; have HX := Hd hbx; have HB := Hd hb; by_cases hlt : k < l.length
  · obtain ⟨b, off, rfl, hbl, c0, c1, c2⟩ := HK.out k l[k] (List.getElem?_eq_getElem hlt)
    have hsz := hb.size; have hsx := Kb hbx; rw [<- hb.cell hbl] at c0 c1 c2
    have hzz : (strOfNums (headBytes kind frm inc seq tgt l.length ++ (l.take k).flatMap keyBytes)).size <= 7000000 := by
     rw [str_size, List.length_append, keyBytes_length, List.length_take, head_length]; omega
    obtain ⟨sk, hsk⟩ : ∃ sk, strOfNums (headBytes kind frm inc seq tgt l.length ++ (l.take k).flatMap keyBytes) = sk := ⟨_, rfl⟩; rw [hsk] at hzz ⊢; have HSK := Hd hsk; clear hsk; clear hbx hb; go_wp2_with fail
    have hu := HU.out _ (List.getElem_mem hlt); refine (rfour_any _ _ hu.1 hu.2).mono ?_; rintro e w3 ⟨rfl, hb3⟩; have hx3 : w3.heap[w.heap.size]? = _ := (hb3.block _ (by simp; omega)).trans (Kp _ HX.out)
    have hy3 : w3.heap[wr.heap.size]? = _ := (hb3.block _ (by simp)).trans (Kc _ _)
    have hc3 := Ka hx3; have hd3 := Ka hy3; have hly := Kb hy3; have hlx := Kb hx3; have hB3 : Below w.heap.size w w3 := HB.out.trans ((Jg (hb3.mono (by simp))).mono hsz)
    have HX3 := Hd hx3; have HB3 := Hd hB3; clear hb3 hx3 hB3 hcx hy3 c0 c1 c2; go_wp2_with fail
    rw [conv_new1 _ _ _ rfl]; go_wp2_with fail
    rw [conv_new1]
    rotate_left
    · simp
    go_wp2_with fail
    go_roundw
    case rel =>
     refine ⟨k + 1, by omega, by go_num, ?_, (HB3.out.alloc HB3.out.size _).alloc (by simp; have := HB3.out.size; omega) _, Kp _ (Kp _ HX3.out)⟩
     have et : (l.take (k + 1)).flatMap keyBytes = (l.take k).flatMap keyBytes ++ keyBytes l[k] := by
      rw [List.take_succ_eq_append_getElem hlt, List.flatMap_append]; simp
     rw [<- HSK.out, et]
     simp [str_add, keyBytes, be1]
    case measure => simp [intOf]; omega
  · have hk' : k = l.length := by omega
    go_wp2; go_ret
    exact ⟨by rw [hk', List.take_length]; rfl, HB.out⟩
theorem rbytes_at (m : M) (a : Option Addr) (n cap : Nat) (w : World) (hn : m.ups.length = n) (hl : n <= 1000000) (hk : Jq w a m.ups)
  (hi : 0 <= m.inc /\ m.inc <= 4294967295) (hs : 0 <= m.seq /\ m.seq <= 4294967295) (hu : ∀ k ∈ m.ups, 0 <= k.inc /\ k.inc <= 4294967295) :
  Calls Tryz.prog 27 #[.agg #[.int .i64 m.kind, .int .i64 m.frm, .int .i64 m.inc, .int .i64 m.seq, .int .i64 m.tgt, .slice a n cap]] w fun e w' =>
   e = .returned (.string (strOfNums (Jr m))) /\ Below w.heap.size w w' := by
 subst hn; exact rbytes_any m.kind m.frm m.inc m.seq m.tgt m.ups a cap w hl hk hi hs hu
