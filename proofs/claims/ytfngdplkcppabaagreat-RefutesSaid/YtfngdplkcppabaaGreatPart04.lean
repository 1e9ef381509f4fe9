/-
  wire.Message reads a message.
  news: New, Put, Len.
  A node in memory: where its parts lie; what other code leaves as it is.
  A walk in an ordinary call's frame, where a select of one case with a default may stand. No program in sight.
-/
import Derived.Test.YtfngdplkcppabaaGreatPart03
import Derived.Lib.IndexBytes
import Derived.Test.YtfngdplkcppabaaGreatPart01
import Derived.Test.YtfngdplkcppabaaGreatPart02
import Derived.Carry
import Derived.Conc.LoneSelect
import Derived.Conc.LoneCalls
set_option linter.all false
namespace Go.Proofs.YtfngdplkcppabaaGreat
open Go.RowKit

/-- The number of the wd bytes from place k on. -/
def fieldN (bs : List UInt8) (k wd : Nat) : Int := numL ((bs.drop k).take wd)
/-- What is left of bs behind k bytes. -/
def Rest (bs : List UInt8) (k : Nat) (s : ByteArray) : Prop := s.data.toList = bs.drop k
def keyOf (bs : List UInt8) (o : Nat) : K := ⟨fieldN bs o 1, fieldN bs (o + 1) 4, fieldN bs (o + 5) 1⟩
/-- The first n keys. -/
def keysOf (bs : List UInt8) (n : Nat) : List K := (List.range n).map fun i => keyOf bs (12 + 6 * i)
/-- The message of bytes of the right length. -/
def rawMsg (bs : List UInt8) : M := ⟨fieldN bs 0 1, fieldN bs 1 1, fieldN bs 2 4, fieldN bs 6 4, fieldN bs 10 1, keysOf bs (bs.getD 11 0).toNat⟩
/-- Have the bytes a message's length? -/
def sizedB (bs : List UInt8) : Bool := !decide (bs.length < 12) && decide (bs.length = 12 + 6 * (bs.getD 11 0).toNat)
/-- wire.Message. -/
def decodeM (bs : List UInt8) : Option M := if sizedB bs = true ∧ wholeB (rawMsg bs) = true then some (rawMsg bs) else none
def keyCells (l : List K) : List Value := l.flatMap fun k => [.int .i64 k.id, .int .i64 k.inc, .int .i64 k.st]
def noMsg : Value := .agg #[.int .i64 0, .int .i64 0, .int .i64 0, .int .i64 0, .int .i64 0, .slice none 0 0]
def M.agg (m : M) (v : Value) : Value := .agg #[.int .i64 m.kind, .int .i64 m.frm, .int .i64 m.inc, .int .i64 m.seq, .int .i64 m.tgt, v]

theorem take_at (bs : List UInt8) (k p wd : Nat) (s : ByteArray) (wi : Int) (w : World) (hp : w.cell? ⟨p, 0, none⟩ = some (.string s)) (hf : w.frozen? ⟨p, 0, none⟩ = false)
    (hr : Rest bs k s) (hwi : wi = wd) (hw : wd ≤ 4) (hs : k + wd ≤ bs.length) (hss : bs.length ≤ 100000) :
    Calls Tryz.prog 40 #[.pointer (some ⟨p, 0, none⟩), .int .i64 wi] w fun e w' =>
      ∃ s', e = .returned (.int .i64 (fieldN bs k wd)) ∧ Rest bs (k + wd) s' ∧ w.setCell ⟨p, 0, none⟩ (.string s') = w' := by
  have hsz : s.size = bs.length - k := by
    have := congrArg List.length hr
    simpa using this
  refine (take_any p wd s wi w hp hf hwi hw (by omega) (by omega)).mono fun e w' ⟨he, hw'⟩ => ⟨_, ?_, ?_, hw'⟩
  · rw [he, fieldN, ← hr]
  · unfold Rest at *
    rw [Lib.extract_to_end, hr, List.drop_drop]

/-- The same, its world told by its blocks. -/
theorem take_ab (bs : List UInt8) (k p wd : Nat) (s : ByteArray) (wi : Int) (w : World) (hp : w.heap[p]? = some (.cells #[.string s] 101 (0, 0)))
    (hr : Rest bs k s) (hwi : wi = wd) (hw : wd ≤ 4) (hs : k + wd ≤ bs.length) (hss : bs.length ≤ 100000) :
    Calls Tryz.prog 40 #[.pointer (some ⟨p, 0, none⟩), .int .i64 wi] w fun e w' =>
      ∃ s', e = .returned (.int .i64 (fieldN bs k wd)) ∧ Rest bs (k + wd) s' ∧ w'.heap[p]? = some (.cells #[.string s'] 101 (0, 0)) ∧ Chg (fun b _ => b = p) w w' :=
  (take_at bs k p wd s wi w (cells_at hp 0) (unfrozen hp 0) hr hwi hw hs hss).mono fun e w' ⟨s', he, hr', hw'⟩ =>
    ⟨s', he, hr', by rw [← hw', heap_setCell_eq hp]; rfl, by rw [← hw']; exact (Chg.refl _ _).setCell _ (fun _ _ => rfl)⟩

theorem message_short (s : ByteArray) (w : World) (h : s.size < 12) :
    Calls Tryz.prog 23 #[.string s] w fun e w' => e = .returned (.tuple #[noMsg, .iface 67 (.int .i64 2)]) ∧ Below w.heap.size w w' := by
  go_enter Tryz.func23, Tryz.ntmps23
  go_wp2
  refine bodyPost_ret (v := .tuple #[noMsg, .iface 67 (.int .i64 2)]) (by simp [results, Tryz.results23, go_sem, noMsg]) rfl ⟨rfl, (Below.refl _ _).alloc (Nat.le_refl _) _⟩
theorem byte11 (s : ByteArray) (h : 11 < s.size) : (s.data.toList.getD 11 0) = s[11] := by
  simp [List.getD, h]; rfl
set_option maxRecDepth 100000 in
theorem message_odd (s : ByteArray) (w : World) (h : ¬ s.size < 12) (h' : s.size ≠ 12 + 6 * (s.data.toList.getD 11 0).toNat) (hm : s.size ≤ maxLen) :
    Calls Tryz.prog 23 #[.string s] w fun e w' => e = .returned (.tuple #[noMsg, .iface 67 (.int .i64 2)]) ∧ Below w.heap.size w w' := by
  unfold maxLen at hm
  have h11 : 11 < s.size := by omega
  have hb : (s[11].toNat : Int) < 256 := by have := s[11].toNat_lt; omega
  have ht : ((s.size : Int) != ((12 : Int) + (6 : Int) * (s[11].toNat : Int))) = true := by
    rw [byte11 s h11] at h'
    rw [bne_iff_ne]; omega
  clear h'
  go_enter Tryz.func23, Tryz.ntmps23
  go_wp2
  refine bodyPost_ret (v := .tuple #[noMsg, .iface 67 (.int .i64 2)]) (by simp [results, Tryz.results23, go_sem, noMsg]) rfl ⟨rfl, (Below.refl _ _).alloc (Nat.le_refl _) _⟩

theorem info_key : (Tryz.prog.info? 31).map (fun i => (i.zero, i.size, i.bytes)) = some (some (.agg #[.int .i64 0, .int .i64 0, .int .i64 0]), 3, 24) := by kernel_rfl

/-- The loop of wire.Message behind k rounds, j bytes taken: the result's variable, the reader, the message lie in the first three new blocks, the keys in a row of the call's own. -/
structure MsgI (bs : List UInt8) (w wr : World) (j k : Nat) (s' : ByteArray) (v : Value) : Prop where
  R : wr.heap[w.heap.size]? = some (.cells #[.int .i64 0, .int .i64 0, .int .i64 0, .int .i64 0, .int .i64 0, .slice none 0 0] 29 (0, 0))
  P : wr.heap[w.heap.size + 1]? = some (.cells #[.string s'] 101 (0, 0))
  M : wr.heap[w.heap.size + 1 + 1]? = some (.cells #[.int .i64 (fieldN bs 0 1), .int .i64 (fieldN bs 1 1), .int .i64 (fieldN bs 2 4), .int .i64 (fieldN bs 6 4), .int .i64 (fieldN bs 10 1), v] 29 (0, 0))
  row : wr.ownsRow (w.heap.size + 3) 31 3 v k (keyCells (keysOf bs k))
  rest : Rest bs j s'
  below : Below w.heap.size w wr
section
variable {bs : List UInt8} {w wr : World} {j k : Nat} {s' : ByteArray} {v : Value}
theorem MsgI.size (h : MsgI bs w wr j k s' v) : w.heap.size + 1 + 1 < wr.heap.size := heap_lt h.M
theorem MsgI.start {s6 : ByteArray} (h : Rest bs 12 s6) : MsgI bs w (((w.alloc (.cells #[.int .i64 0, .int .i64 0, .int .i64 0, .int .i64 0, .int .i64 0, .slice none 0 0] 29)).alloc (.cells #[.string s6] 101)).alloc
    (.cells #[.int .i64 (fieldN bs 0 1), .int .i64 (fieldN bs 1 1), .int .i64 (fieldN bs 2 4), .int .i64 (fieldN bs 6 4), .int .i64 (fieldN bs 10 1), .slice none 0 0] 29)) 12 0 s6 (.slice none 0 0) :=
  ⟨heap_old _ (heap_old _ (heap_new _ _ rfl)), heap_old _ (heap_new _ _ (by simp)), heap_new _ _ (by simp), World.ownsRow_nil _ _ _ _, h, (((Below.refl _ w).alloc (Nat.le_refl _) _).alloc (by simp) _).alloc (by simp; omega) _⟩
theorem MsgI.took {w' : World} {j' : Nat} {s2 : ByteArray} (h : MsgI bs w wr j k s' v) (hp : w'.heap[w.heap.size + 1]? = some (.cells #[.string s2] 101 (0, 0)))
    (hc : Chg (fun b _ => b = w.heap.size + 1) wr w') (hr : Rest bs j' s2) : MsgI bs w w' j' k s2 v :=
  ⟨hc.kept _ _ h.R (by omega), hp, hc.kept _ _ h.M (by omega), own_chg h.row hc (fun g _ hg e => by have := (h.row.lt g hg).1; omega), hr,
    h.below.trans (hc.below (by have := h.size; omega) (fun k _ e => by omega) |>.mono (Nat.le_succ _))⟩
theorem MsgI.alloc (h : MsgI bs w wr j k s' v) (o : Obj) : MsgI bs w (wr.alloc o) j k s' v :=
  ⟨heap_old _ h.R, heap_old _ h.P, heap_old _ h.M, h.row.alloc o, h.rest, h.below.alloc (by have := h.size; omega) o⟩
theorem MsgI.setCell (h : MsgI bs w wr j k s' v) (b i : Nat) (u : Value) (hb : w.heap.size + 3 ≤ b) (hv : ∀ g, v.ownBlock = some g → g ≠ b) : MsgI bs w (wr.setCell ⟨b, i, none⟩ u) j k s' v :=
  ⟨by rw [heap_setCell_ne _ _ _ _ _ (by omega)]; exact h.R, by rw [heap_setCell_ne _ _ _ _ _ (by omega)]; exact h.P, by rw [heap_setCell_ne _ _ _ _ _ (by omega)]; exact h.M,
    own_chg h.row ((Chg.refl (fun k _ => k = b) wr).setCell u (fun _ _ => rfl)) (fun g _ hg e => hv g hg e), h.rest, h.below.setCell (by simp; omega) u⟩
theorem keysOf_succ (bs : List UInt8) (k : Nat) : keyCells (keysOf bs (k + 1)) = keyCells (keysOf bs k) ++ [.int .i64 (fieldN bs (12 + 6 * k) 1), .int .i64 (fieldN bs (12 + 6 * k + 1) 4), .int .i64 (fieldN bs (12 + 6 * k + 5) 1)] := by
  simp [keysOf, keyCells, List.range_succ, keyOf]
theorem MsgI.appended {W w1 : World} {v' : Value} (h : MsgI bs w W j k s' v) (hg : W.grownBy w1 v.ownBlock)
    (ho : w1.ownsRow (w.heap.size + 3) 31 3 v' (k + 1) (keyCells (keysOf bs k) ++ [.int .i64 (fieldN bs (12 + 6 * k) 1), .int .i64 (fieldN bs (12 + 6 * k + 1) 4), .int .i64 (fieldN bs (12 + 6 * k + 5) 1)])) :
    w1.cell? ⟨w.heap.size + 1 + 1, 5, none⟩ = some v ∧ w1.frozen? ⟨w.heap.size + 1 + 1, 5, none⟩ = false ∧ MsgI bs w (w1.setCell ⟨w.heap.size + 1 + 1, 5, none⟩ v') j (k + 1) s' v' := by
  have hb : ∀ g, v.ownBlock = some g → w.heap.size + 3 ≤ g := fun g hg => (h.row.lt g hg).1
  have hs := h.size
  have eR : w1.heap[w.heap.size]? = _ := (hg.block _ (by omega) (fun e => by have := hb _ e.symm; omega)).trans h.R
  have eP : w1.heap[w.heap.size + 1]? = _ := (hg.block _ (by omega) (fun e => by have := hb _ e.symm; omega)).trans h.P
  have eM : w1.heap[w.heap.size + 1 + 1]? = _ := (hg.block _ (by omega) (fun e => by have := hb _ e.symm; omega)).trans h.M
  refine ⟨cells_at eM 5, unfrozen eM 5, ⟨by rw [heap_setCell_ne _ _ _ _ _ (by omega)]; exact eR, by rw [heap_setCell_ne _ _ _ _ _ (by omega)]; exact eP, heap_setCell_eq eM, ?_, h.rest, ?_⟩⟩
  · rw [keysOf_succ]
    exact ownsRow_setCell_below ho (by simp) _
  · refine Below.setCell (h.below.grown hg (by omega) (fun g e => by have := hb g e; omega)) (by simp; omega) _
end

theorem keyCells_length (l : List K) : (keyCells l).length = 3 * l.length := by
  induction l with
  | nil => rfl
  | cons a l ih => simp [keyCells] at ih ⊢; omega
theorem keyCells_at (l : List K) : ∀ (i : Nat) (k : K), l[i]? = some k → (keyCells l)[i * 3]? = some (.int .i64 k.id) ∧ (keyCells l)[i * 3 + 1]? = some (.int .i64 k.inc) ∧ (keyCells l)[i * 3 + 2]? = some (.int .i64 k.st) := by
  induction l with
  | nil => intro i k h; simp at h
  | cons a l ih =>
    intro i k h
    cases i with
    | zero => simp at h; subst h; simp [keyCells]
    | succ i =>
      have := ih i k (by simpa using h)
      have e : keyCells (a :: l) = [.int .i64 a.id, .int .i64 a.inc, .int .i64 a.st] ++ keyCells l := rfl
      rw [e]
      have e1 : (i + 1) * 3 = 3 + i * 3 := by omega
      have e2 : (i + 1) * 3 + 1 = 3 + (i * 3 + 1) := by omega
      have e3 : (i + 1) * 3 + 2 = 3 + (i * 3 + 2) := by omega
      clear ih h
      rw [e2, e3, e1]
      rw [List.getElem?_append_right (by simp), List.getElem?_append_right (by simp), List.getElem?_append_right (by simp)]
      simpa [Nat.add_assoc] using this
theorem keysAt_row {w : World} {B t n cap : Nat} {a : Option Addr} {l : List K} (h : w.ownsRow B t 3 (.slice a n cap) n (keyCells l)) : l.length = n ∧ KeysAt w a l := by
  have hl : l.length = n := by have := h.1; rw [keyCells_length] at this; omega
  refine ⟨hl, fun i k hk => ?_⟩
  have hi : i < l.length := by
    rcases Nat.lt_or_ge i l.length with h' | h'
    · exact h'
    · rw [List.getElem?_eq_none h'] at hk; cases hk
  rcases h.2 with ⟨e, e'⟩ | ⟨g, cap', cur, e, hB, hg, _⟩
  · omega
  · simp only [Value.slice.injEq] at e
    obtain ⟨rfl, _, rfl⟩ := e
    obtain ⟨k0, k1, k2⟩ := keyCells_at l i k hk
    refine ⟨g, 0, rfl, heap_lt hg, ?_, ?_, ?_⟩
    · rw [Nat.zero_add, h.cellAt _ (by omega)]; exact k0
    · rw [Nat.zero_add, h.cellAt _ (by omega)]; exact k1
    · rw [Nat.zero_add, h.cellAt _ (by omega)]; exact k2

/-- What wire.Message leaves. -/
def DecPost (w : World) (bs : List UInt8) (e : Ending) (w' : World) : Prop :=
  Below w.heap.size w w' ∧
  ((decodeM bs = none ∧ e = .returned (.tuple #[noMsg, .iface 67 (.int .i64 2)])) ∨
   (decodeM bs = some (rawMsg bs) ∧ ∃ v, e = .returned (.tuple #[(rawMsg bs).agg v, .nilIface]) ∧ w'.ownsRow w.heap.size 31 3 v (rawMsg bs).ups.length (keyCells (rawMsg bs).ups)))

set_option maxRecDepth 100000 in
set_option maxHeartbeats 1000000 in
theorem message_sized (s : ByteArray) (w : World) (h : s.size = 12 + 6 * (s.data.toList.getD 11 0).toNat) :
    Calls Tryz.prog 23 #[.string s] w (DecPost w s.data.toList) := by
  have h11 : 11 < s.size := by omega
  have hb : (s[11].toNat : Int) < 256 := by have := s[11].toNat_lt; omega
  have ht : ((s.size : Int) != ((12 : Int) + (6 : Int) * (s[11].toNat : Int))) = false := by
    rw [byte11 s h11] at h
    rw [bne_eq_false_iff_eq]; omega
  have hn : fieldN s.data.toList 11 1 = s[11].toNat := by
    rw [fieldN, List.drop_eq_getElem_cons (by simpa using h11)]
    simp [numL]; rfl
  have hsz : s.data.toList.length = 12 + 6 * s[11].toNat := by rw [byte11 s h11] at h; simpa using h
  have hsz1 : s.data.toList.length ≤ 100000 := by have := s[11].toNat_lt; omega
  have hsz2 : 12 ≤ s.data.toList.length := by omega
  have hr0 : Rest s.data.toList 0 s := rfl
  have hnb := byte11 s h11
  have hsB : sizedB s.data.toList = true := by
    have : s.data.toList.length = s.size := by simp
    unfold sizedB; rw [this]; simp only [Bool.and_eq_true, Bool.not_eq_true', decide_eq_false_iff_not, decide_eq_true_eq]; omega
  obtain ⟨bs, hbs⟩ : ∃ bs, s.data.toList = bs := ⟨_, rfl⟩
  rw [hbs] at hnb hsB hn hsz hsz1 hsz2 hr0 ⊢
  have HSB := Lib.hid hsB
  clear hsB
  clear hbs
  have hns : 12 ≤ s.size := by omega
  clear h
  have HNB := Lib.hid hnb
  clear hnb
  have HR0 := Lib.hid hr0
  have HN := Lib.hid hn
  have HS := Lib.hid hsz
  clear hr0 hn hsz
  go_enter Tryz.func23, Tryz.ntmps23
  go_wp2_with fail
  refine (take_at bs 0 (w.heap.size + 1) 1 s 1 _ ?_ ?_ HR0.out rfl (by omega) (by omega) hsz1).mono ?_
  · go_simp
  · go_simp
  rintro e w' ⟨s1, rfl, hr1, rfl⟩
  have HR1 := Lib.hid hr1
  clear hr1
  go_wp2_with fail
  refine (take_at bs 1 (w.heap.size + 1) 1 s1 1 _ ?_ ?_ HR1.out rfl (by omega) (by omega) hsz1).mono ?_
  · go_simp
  · go_simp
  rintro e w' ⟨s2, rfl, hr2, rfl⟩
  have HR2 := Lib.hid hr2
  clear hr2
  go_wp2_with fail
  refine (take_at bs 2 (w.heap.size + 1) 4 s2 4 _ ?_ ?_ HR2.out rfl (by omega) (by omega) hsz1).mono ?_
  · go_simp
  · go_simp
  rintro e w' ⟨s3, rfl, hr3, rfl⟩
  have HR3 := Lib.hid hr3
  clear hr3
  go_wp2_with fail
  refine (take_at bs 6 (w.heap.size + 1) 4 s3 4 _ ?_ ?_ HR3.out rfl (by omega) (by omega) hsz1).mono ?_
  · go_simp
  · go_simp
  rintro e w' ⟨s4, rfl, hr4, rfl⟩
  have HR4 := Lib.hid hr4
  clear hr4
  go_wp2_with fail
  refine (take_at bs 10 (w.heap.size + 1) 1 s4 1 _ ?_ ?_ HR4.out rfl (by omega) (by omega) hsz1).mono ?_
  · go_simp
  · go_simp
  rintro e w' ⟨s5, rfl, hr5, rfl⟩
  have HR5 := Lib.hid hr5
  clear hr5
  go_wp2_with fail
  refine (take_at bs 11 (w.heap.size + 1) 1 s5 1 _ ?_ ?_ HR5.out rfl (by omega) (by omega) hsz1).mono ?_
  · go_simp
  · go_simp
  rintro e w' ⟨s6, rfl, hr6, rfl⟩
  rw [HN.out]
  have HR6 := Lib.hid hr6
  clear hr6
  go_wp2_with fail
  obtain ⟨n, hnn⟩ : ∃ n, s[11].toNat = n := ⟨_, rfl⟩
  rw [hnn] at hb ⊢
  have HNN := Lib.hid hnn
  have HS : Hid (bs.length = 12 + 6 * n) := by rw [← hnn]; exact HS.out
  have HNB : Hid ((bs.getD 11 0).toNat = n) := by rw [← hnn]; exact congrArg UInt8.toNat HNB.out
  clear hnn HR0 HR1 HR2 HR3 HR4 HR5
  go_loopw [33] (fun i wr => ∃ (k : Nat) (s' : ByteArray) (v : Value), k ≤ n ∧ i = .int .i64 k ∧ MsgI bs w wr (12 + 6 * k) k s' v) (fun i _ => n - (intOf i).toNat)
  case atStart => exact ⟨0, s6, _, Nat.zero_le _, rfl, MsgI.start HR6.out⟩
  case round =>
    obtain ⟨k, s', v, hkn, rfl, hI⟩ := hrel
    by_cases hlt : k < n
    · have hlen : 12 + 6 * k + 6 ≤ bs.length := by have := HS.out; omega
      have hsz := hI.size
      have hlt0 : ∀ g, v.ownBlock = some g → g < wr.heap.size := fun g hg => (hI.row.lt g hg).2
      have HI := Lib.hid hI
      have HL := Lib.hid hlt0
      clear hI hlt0
      go_wp2_with fail
      refine (take_ab bs (12 + 6 * k) (w.heap.size + 1) 1 s' 1 _ HI.out.P HI.out.rest rfl (by omega) (by omega) hsz1).mono ?_
      rintro e w7 ⟨s7, rfl, hr7, hp7, hc7⟩
      have hs7 := hc7.size
      have HI7 := Lib.hid (HI.out.took hp7 hc7 hr7)
      clear hp7 hc7 hr7
      go_wp2_with fail
      refine (take_ab bs (12 + 6 * k + 1) (w.heap.size + 1) 4 s7 4 _ (HI7.out.alloc _).P HI7.out.rest rfl (by omega) (by omega) hsz1).mono ?_
      rintro e w8 ⟨s8, rfl, hr8, hp8, hc8⟩
      have hs8 := hc8.size
      rw [World.size_alloc] at hs8
      have hu8 := cells_at (hc8.kept w7.heap.size _ (heap_alloc_eq _ _) (by omega))
      have hf8 := unfrozen (hc8.kept w7.heap.size _ (heap_alloc_eq _ _) (by omega))
      have HU8 := Lib.hid (hc8.kept w7.heap.size _ (heap_alloc_eq _ _) (by omega))
      have HI8 := Lib.hid ((HI7.out.alloc _).took hp8 hc8 hr8)
      clear hp8 hc8 hr8
      go_wp2_with fail
      have HI9a := Lib.hid (HI8.out.setCell w7.heap.size 1 (.int .i64 (fieldN bs (12 + 6 * k + 1) 4)) (by omega) (fun g hg => by have := HL.out g hg; omega))
      have HU9a := Lib.hid (heap_setCell_eq (i := 1) (v := .int .i64 (fieldN bs (12 + 6 * k + 1) 4)) HU8.out)
      refine (take_ab bs (12 + 6 * k + 5) (w.heap.size + 1) 1 s8 1 _ HI9a.out.P HI8.out.rest rfl (by omega) (by omega) hsz1).mono ?_
      rintro e w9 ⟨s9, rfl, hr9, hp9, hc9⟩
      have hs9 := hc9.size
      rw [World.size_setCell] at hs9
      have hu9 := hc9.kept w7.heap.size _ HU9a.out (by omega)
      simp only [List.setIfInBounds_toArray, List.set_cons_succ, List.set_cons_zero] at hu9
      have HU9 := Lib.hid hu9
      have hcu9 := cells_at hu9
      have hf9 := unfrozen hu9
      have HI9 := Lib.hid (HI9a.out.took hp9 hc9 hr9)
      have hM9 := cells_at HI9.out.M 5
      simp only [List.getElem?_toArray, List.getElem?_cons_succ, List.getElem?_cons_zero] at hM9
      have HW := Lib.hid ((HI9.out.setCell w7.heap.size 2 (.int .i64 (fieldN bs (12 + 6 * k + 5) 1)) (by omega) (fun g hg => by have := HL.out g hg; omega)).alloc
        (.cells #[.int .i64 (fieldN bs (12 + 6 * k) 1), .int .i64 (fieldN bs (12 + 6 * k + 1) 4), .int .i64 (fieldN bs (12 + 6 * k + 5) 1)] 31))
      have HN := Lib.hid (cells_new (w9.setCell ⟨w7.heap.size, 2, none⟩ (.int .i64 (fieldN bs (12 + 6 * k + 5) 1))) [.int .i64 (fieldN bs (12 + 6 * k) 1), .int .i64 (fieldN bs (12 + 6 * k + 1) 4), .int .i64 (fieldN bs (12 + 6 * k + 5) 1)] 31 (n := w9.heap.size) (by simp))
      have k3 : k + 1 ≤ maxLen := by unfold maxLen; omega
      have K3 := Lib.hid k3
      obtain ⟨i0, hi, hz0, hz1, hz2⟩ := info_parts info_key
      clear hp9 hc9 hr9 hu9 hu8 hf8 k3
      go_wp2_with (at_builtin; refine wpList_append_own _ rfl _ _ 27 rfl (w.heap.size + 3) 31 i0 _ 3 24 Tryz.underlying27 hi hz0 hz1 hz2 rfl (by decide) v k _ rfl HW.out.row ⟨w9.heap.size, 0, none⟩ 1 1 _ rfl rfl HN.out (by simp [Value.oneCell']) K3.out (by omega) (by have := HW.out.size; omega) ?_)
      intro v' w1 hown1 hgrow1 _
      obtain ⟨hM1, hf1, hI1⟩ := HW.out.appended hgrow1 hown1
      obtain ⟨ad', cp', rfl⟩ := ownsRow_sl hown1
      have HI1 := Lib.hid hI1
      clear hI1 hown1 hgrow1
      go_wp2
      go_roundw
      case rel => exact ⟨k + 1, s9, _, by omega, by go_num, HI1.out⟩
      case measure => simp [intOf]; omega
    · have hk : k = n := by omega
      subst hk
      have hI' := hI
      have hM := cells_at hI.M
      obtain ⟨a, cap, rfl⟩ := ownsRow_sl hI.row
      obtain ⟨hlen, hka⟩ := keysAt_row hI.row
      have hR := heap_lt hI.R
      have hsz := hI.size
      have HI := Lib.hid hI
      have HKA := Lib.hid hka
      have HLE := Lib.hid hlen
      have hrow := own_below (B' := w.heap.size) hI.row (by omega)
      have HROW := Lib.hid hrow
      clear hI hI' hka hlen hrow
      have hm : rawMsg bs = ⟨fieldN bs 0 1, fieldN bs 1 1, fieldN bs 2 4, fieldN bs 6 4, fieldN bs 10 1, keysOf bs k⟩ := by rw [rawMsg, HNB.out]
      have HM := Lib.hid hm
      clear hm
      go_wp2_with fail
      refine (whole_at ⟨fieldN bs 0 1, fieldN bs 1 1, fieldN bs 2 4, fieldN bs 6 4, fieldN bs 10 1, keysOf bs k⟩ a k cap _ HLE.out (by omega) HKA.out).mono ?_
      rintro e w2 ⟨rfl, hb2⟩
      rw [← HM.out]
      have hR2 : w2.heap[w.heap.size]? = _ := (hb2.block _ hR).trans HI.out.R
      have hM2 : w2.heap[w.heap.size + 1 + 1]? = _ := (hb2.block _ hsz).trans HI.out.M
      have hBB : Below w.heap.size w w2 := HI.out.below.trans (hb2.mono (by omega))
      have hRow2 : w2.ownsRow w.heap.size 31 3 (.slice a k cap) k (keyCells (keysOf bs k)) := own_under HROW.out hb2
      have hcR := cells_at hR2
      have hcM := cells_at hM2
      have hfR := unfrozen hR2
      have HR2 := Lib.hid hR2
      have HBB := Lib.hid hBB
      have HRow2 := Lib.hid hRow2
      have hsz2 := hb2.size
      clear hR2 hM2 hBB hRow2 hb2 hR
      cases hw : wholeB (rawMsg bs)
      · have HD : Hid (decodeM bs = none) := by unfold decodeM; rw [if_neg (by rw [hw]; simp)]; trivial
        have HW := Lib.hid hw
        clear hw
        go_wp2
        refine six_set (R := bodyPost _ _ _ _ _) HR2.out _ _ _ _ _ _ (fun W hW hC => ?_)
        have hc := cells_at hW
        refine bodyPost_ret (v := .tuple #[noMsg, .iface 67 (.int .i64 2)]) (by simp [results, Tryz.results23, go_sem, noMsg, hc]) rfl ⟨?_, .inl ⟨HD.out, rfl⟩⟩
        exact HBB.out.trans (hC.below (by omega) (fun k o e => by omega))
      · have HD : Hid (decodeM bs = some (rawMsg bs)) := by unfold decodeM; rw [if_pos ⟨HSB.out, hw⟩]; trivial
        have HW := Lib.hid hw
        clear hw
        go_wp2
        refine six_set (R := bodyPost _ _ _ _ _) HR2.out _ _ _ _ _ _ (fun W hW hC => ?_)
        have hc := cells_at hW
        have hm := HM.out
        refine bodyPost_ret (v := .tuple #[(rawMsg bs).agg (.slice a k cap), .nilIface]) (by simp [results, Tryz.results23, go_sem, M.agg, hm, hc]) rfl ⟨?_, .inr ⟨HD.out, .slice a k cap, rfl, ?_⟩⟩
        · exact HBB.out.trans (hC.below (by omega) (fun k o e => by omega))
        · rw [hm]
          have := own_chg HRow2.out hC (fun g o hg e => by have := (HI.out.row.lt g hg).1; omega)
          have e : (keysOf bs k).length = k := HLE.out
          show W.ownsRow _ _ _ _ (keysOf bs k).length _
          rw [e]
          exact this

/-- wire.Message reads a message, or says that there is none. -/
theorem message_any (s : ByteArray) (w : World) (hm : s.size ≤ maxLen) : Calls Tryz.prog 23 #[.string s] w (DecPost w s.data.toList) := by
  have hl : s.data.toList.length = s.size := by simp
  by_cases h : s.size < 12
  · refine (message_short s w h).mono fun e w' ⟨he, hb⟩ => ⟨hb, .inl ⟨?_, he⟩⟩
    unfold decodeM
    rw [if_neg (by unfold sizedB; rw [hl]; simp [h])]
  · by_cases h' : s.size = 12 + 6 * (s.data.toList.getD 11 0).toNat
    · exact message_sized s w h'
    · refine (message_odd s w h h' hm).mono fun e w' ⟨he, hb⟩ => ⟨hb, .inl ⟨?_, he⟩⟩
      unfold decodeM
      rw [if_neg (by unfold sizedB; rw [hl]; simp only [Bool.and_eq_true, decide_eq_true_eq]; omega)]
end Go.Proofs.YtfngdplkcppabaaGreat
namespace Go.Proofs.YtfngdplkcppabaaGreat
open Go.RowKit

def fitsI (n : Int) : Prop := -9223372036854775808 ≤ n ∧ n ≤ 9223372036854775807
theorem wf_of_fits {n : Int} (h : fitsI n) : (Lit.int .i64 n).wf = true := by
  simpa [fitsI, Lit.wf, IntKind.min, IntKind.max, IntKind.signed, IntKind.bits] using h
/-- An update as it stands in the map. -/
def Upd.v (u : Upd) : Value := .agg #[.int .i64 u.k.id, .int .i64 u.k.inc, .int .i64 u.k.st, .int .i64 u.sent]
def qPairs (l : List Upd) : List (Int × Value) := l.map (fun u => (u.k.id, u.v))
theorem qPairs_len (l : List Upd) : (qPairs l).length = l.length := by simp [qPairs]
theorem qPairs_put (l : List Upd) (k : K) : (qPairs l).filter (fun p => p.1 != k.id) ++ [(k.id, (⟨k, 0⟩ : Upd).v)] = qPairs (l.filter (fun u => u.k.id != k.id) ++ [⟨k, 0⟩]) := by
  simp only [qPairs, List.map_append, List.map_cons, List.map_nil, List.filter_map]
  rfl

set_option maxRecDepth 100000 in
set_option maxHeartbeats 1000000 in
theorem nput_any (bq bm : Nat) (c0 : Value) (l : List Upd) (k : K) (w : World) (hq : w.heap[bq]? = some (.cells #[c0, .map (some bm)] 106 (0, 0))) (hm : MapAt Tryz.prog 3 w bm (qPairs l)) (hl : l.length < 1000000) (hk : fitsI k.id) :
    Calls Tryz.prog 62 #[.pointer (some ⟨bq, 0, none⟩), .agg #[.int .i64 k.id, .int .i64 k.inc, .int .i64 k.st]] w fun e w' =>
      e = .returned (.tuple #[]) ∧ MapAt Tryz.prog 3 w' bm (qPairs (l.filter (fun u => u.k.id != k.id) ++ [⟨k, 0⟩])) ∧ Chg (fun x _ => x = bm) w w' := by
  obtain ⟨kid, kinc, kst⟩ := k
  simp only at hk ⊢
  have hc := cells_at hq 1
  simp only [List.getElem?_toArray, List.getElem?_cons_succ, List.getElem?_cons_zero] at hc
  have hbq := heap_lt hq
  obtain ⟨w1, hw1⟩ : ∃ w1, w.alloc (.cells #[.int .i64 kid, .int .i64 kinc, .int .i64 kst] 31) = w1 := ⟨_, rfl⟩
  have hm1 : MapAt Tryz.prog 3 w1.drew bm (qPairs l) := by rw [← hw1]; exact hm.heap (Below.heap_alloc _ _ _ hm.lt)
  obtain ⟨w2, hr, hm2, hg2, hs2⟩ := hm1.store Tryz.underlying3 Tryz.underlying104 (by rw [qPairs_len]; exact hl) kid (wf_of_fits hk) (.agg #[.int .i64 kid, .int .i64 kinc, .int .i64 kst, .int .i64 0])
  have hc1 : w1.cell? ⟨bq, 1, none⟩ = some (.map (some bm)) := by rw [← hw1, World.cell?_alloc_lt _ _ _ hbq]; exact hc
  have hx1 : w1.heap[w.heap.size]? = some (.cells #[.int .i64 kid, .int .i64 kinc, .int .i64 kst] 31 (0, 0)) := by rw [← hw1]; exact heap_alloc_eq w _
  have d0 := cells_at hx1 0
  have d1 := cells_at hx1 1
  have d2 := cells_at hx1 2
  simp only [List.getElem?_toArray, List.getElem?_cons_succ, List.getElem?_cons_zero] at d0 d1 d2
  have hC : Chg (fun x _ => x = bm) w w2 := ((Chg.refl _ w).alloc (.cells #[.int .i64 kid, .int .i64 kinc, .int .i64 kst] 31)).trans (by rw [hw1]; exact ((Chg.refl _ w1).drew).grown hg2 (fun k o e _ => by cases e; rfl))
  have HM2 := Lib.hid hm2
  have HC := Lib.hid hC
  have HW1 := Lib.hid hw1
  clear hm hq hm1 hm2 hg2 hx1 hC hw1 hc
  go_enter Tryz.func62, Tryz.ntmps62
  go_wp2_with fail
  rw [HW1.out]
  go_region
  all_goals
    go_wp2
    go_end0
    have e := qPairs_put l ⟨kid, kinc, kst⟩
    exact ⟨rfl, e ▸ HM2.out, HC.out⟩
end Go.Proofs.YtfngdplkcppabaaGreat
namespace Go.Proofs.YtfngdplkcppabaaGreat
open Go.RowKit

/-- Where a node's parts lie. -/
structure Ad where
  b : Nat          -- the node
  bo : Nat         -- the table's map
  bq : Nat         -- the queue
  bm : Nat         -- the queue's map
  bc : Nat         -- the channel
  br : Nat         -- the relays' map
  mem : Int → Nat  -- each member's block
  pa : Option Addr -- the pass
  pc : Nat
  pb : Nat         -- the probe's block
  w1 : Nat         -- the draws' list, its box
  w2 : Nat         -- how many were drawn, its box
  da : Option Addr -- the draws' list
  dc : Nat
def K.v (k : K) : Value := .agg #[.int .i64 k.id, .int .i64 k.inc, .int .i64 k.st]
def drawV (a : Ad) : Value := .func (.func 58) #[] #[.pointer (some ⟨a.w1, 0, none⟩), .pointer (some ⟨a.w2, 0, none⟩)]
def boundV (b : Nat) (g : Nat) : Value := .func (.func g) #[.pointer (some ⟨b, 0, none⟩)] #[]
def prbV (a : Ad) : Option Prb → Value
  | none => .pointer none
  | some _ => .pointer (some ⟨a.pb, 0, none⟩)
def mPairs (a : Ad) (l : List Mem) : List (Int × Value) := l.map (fun m => (m.k.id, .pointer (some ⟨a.mem m.k.id, 0, none⟩)))
def Rel.v (r : Rel) : Value := .agg #[.int .i64 r.tgt, .int .i64 r.orig, .int .i64 r.oseq, .int .i64 r.ends]
def rPairs (l : List Rel) : List (Int × Value) := l.map (fun r => (r.seq, r.v))
/-- The node's cells. -/
def nodeF (a : Ad) (ov : Value) (x : Nd) : Nat → Value
  | 0 => .int .i64 x.c.self
  | 1 => .int .i64 x.c.period
  | 2 => .int .i64 x.c.wait
  | 3 => .int .i64 x.c.susp
  | 4 => .int .i64 x.c.prox
  | 5 => .int .i64 x.c.sends
  | 6 => drawV a
  | 7 => .int .i64 x.self.id
  | 8 => .int .i64 x.self.inc
  | 9 => .int .i64 x.self.st
  | 10 => .map (some a.bo)
  | 11 => .pointer (some ⟨a.bq, 0, none⟩)
  | 12 => .chan (some a.bc)
  | 13 => .int .i64 x.clock
  | 14 => .int .i64 x.seq
  | 15 => .slice a.pa x.pass.length a.pc
  | 16 => prbV a x.probe
  | 17 => .map (some a.br)
  | 18 => .int .i64 x.dropped
  | 19 => .int .i64 x.lost
  | 20 => ov
  | 21 => .nilFunc
  | 22 => boundV a.b 69
  | 23 => boundV a.b 70
  | 24 => boundV a.b 71
  | 25 => boundV a.b 72
  | _ => .func (.func 73) #[] #[]
abbrev NB (w : World) (b : Nat) (f : Nat → Value) : Prop := SB 79 27 w b f
/-- A member in memory. -/
def memCells (m : Mem) : Array Value := #[.int .i64 m.k.id, .int .i64 m.k.inc, .int .i64 m.k.st, .int .i64 m.due]
def prbCells (p : Prb) : Array Value := #[.int .i64 p.tgt, .int .i64 p.seq, .int .i64 p.start, .bool p.acked]
/-- Numbers in a row that nothing else writes. -/
def NumsAt (w : World) (a : Option Addr) (n c : Nat) (l : List Int) : Prop :=
  l.length = n ∧ n ≤ c ∧ ∀ p, a = some p → ∃ cur : Array Value, w.heap[p.block]? = some (.cells cur 3 (0, 0)) ∧ p.spot = none ∧ p.off + c ≤ cur.size ∧ ∀ (i : Nat) v, l[i]? = some v → cur[p.off + i]? = some (.int .i64 v)
structure NodeAt (w : World) (a : Ad) (ov : Value) (x : Nd) : Prop where
  blk : NB w a.b (nodeF a ov x)
  others : MapAt Tryz.prog 3 w a.bo (mPairs a x.others)
  mems : ∀ m ∈ x.others, w.heap[a.mem m.k.id]? = some (.cells (memCells m) 93 (0, 0))
  minj : ∀ m ∈ x.others, ∀ m' ∈ x.others, a.mem m.k.id = a.mem m'.k.id → m.k.id = m'.k.id
  queue : w.heap[a.bq]? = some (.cells #[.int .i64 x.c.sends, .map (some a.bm)] 106 (0, 0))
  news : MapAt Tryz.prog 3 w a.bm (qPairs x.queue)
  chan : ∃ s r, w.heap[a.bc]? = some (.chan 8 (x.events.map K.v).toArray false s r false)
  pass : NumsAt w a.pa x.pass.length a.pc x.pass
  pass0 : a.pa = none → x.pass = [] ∧ a.pc = 0
  prb : ∀ p, x.probe = some p → w.heap[a.pb]? = some (.cells (prbCells p) 89 (0, 0))
  relays : MapAt Tryz.prog 3 w a.br (rPairs x.relays)
  box1 : w.heap[a.w1]? = some (.cells #[.slice a.da x.ds.length a.dc] 22 (0, 0))
  box2 : w.heap[a.w2]? = some (.cells #[.int .i64 (x.at_ : Int)] 3 (0, 0))
  ds : NumsAt w a.da x.ds.length a.dc x.ds
  ds0 : a.da = none → x.ds = [] ∧ a.dc = 0
  dfit : ∀ v ∈ x.ds, fitsI v
  ne1 : a.bo ≠ a.bm
  ne2 : a.bm ≠ a.br
  ne3 : a.bo ≠ a.br
  ne4 : (Value.slice a.pa x.pass.length a.pc).ownBlock ≠ some a.w2
  ne5 : (Value.slice a.da x.ds.length a.dc).ownBlock ≠ some a.w2
  ne6 : ∀ k, (Value.slice a.pa x.pass.length a.pc).ownBlock = some k → (Value.slice a.da x.ds.length a.dc).ownBlock ≠ some k
/-- The blocks that are the node's own. -/
def Owns (a : Ad) (x : Nd) (k : Nat) : Prop :=
  k = a.b ∨ k = a.bo ∨ k = a.bq ∨ k = a.bm ∨ k = a.bc ∨ k = a.br ∨ (∃ m ∈ x.others, k = a.mem m.k.id) ∨ (Value.slice a.pa x.pass.length a.pc).ownBlock = some k ∨ (x.probe.isSome = true ∧ k = a.pb) ∨ k = a.w1 ∨ k = a.w2 ∨ (Value.slice a.da x.ds.length a.dc).ownBlock = some k
theorem NumsAt.heap {w w' : World} {a : Option Addr} {n c : Nat} {l : List Int} (h : NumsAt w a n c l) (e : ∀ k, (Value.slice a n c).ownBlock = some k → w'.heap[k]? = w.heap[k]?) : NumsAt w' a n c l := by
  refine ⟨h.1, h.2.1, fun p hp => ?_⟩
  obtain ⟨cur, hg, r⟩ := h.2.2 p hp
  exact ⟨cur, (e p.block (by rw [hp]; rfl)).trans hg, r⟩
/-- Whatever leaves the node's own blocks leaves the node. -/
theorem NodeAt.keep {w w' : World} {a : Ad} {ov : Value} {x : Nd} (h : NodeAt w a ov x) (e : ∀ k, Owns a x k → w'.heap[k]? = w.heap[k]?) : NodeAt w' a ov x :=
  { h with
    blk := h.blk.heap (e _ (.inl rfl))
    others := h.others.heap (e _ (.inr (.inl rfl)))
    mems := fun m hm => (e _ (.inr (.inr (.inr (.inr (.inr (.inr (.inl ⟨m, hm, rfl⟩)))))))).trans (h.mems m hm)
    queue := (e _ (.inr (.inr (.inl rfl)))).trans h.queue
    news := h.news.heap (e _ (.inr (.inr (.inr (.inl rfl)))))
    chan := by obtain ⟨s, r, hc⟩ := h.chan; exact ⟨s, r, (e _ (.inr (.inr (.inr (.inr (.inl rfl)))))).trans hc⟩
    pass := h.pass.heap (fun k hk => e k (.inr (.inr (.inr (.inr (.inr (.inr (.inr (.inl hk)))))))))
    prb := fun p hp => (e _ (.inr (.inr (.inr (.inr (.inr (.inr (.inr (.inr (.inl ⟨by rw [hp]; rfl, rfl⟩)))))))))).trans (h.prb p hp)
    relays := h.relays.heap (e _ (.inr (.inr (.inr (.inr (.inr (.inl rfl)))))))
    box1 := (e _ (.inr (.inr (.inr (.inr (.inr (.inr (.inr (.inr (.inr (.inl rfl))))))))))).trans h.box1
    box2 := (e _ (.inr (.inr (.inr (.inr (.inr (.inr (.inr (.inr (.inr (.inr (.inl rfl)))))))))))).trans h.box2
    ds := h.ds.heap (fun k hk => e k (.inr (.inr (.inr (.inr (.inr (.inr (.inr (.inr (.inr (.inr (.inr hk)))))))))))) }
theorem NodeAt.owns_lt {w : World} {a : Ad} {ov : Value} {x : Nd} (h : NodeAt w a ov x) {k : Nat} (hk : Owns a x k) : k < w.heap.size := by
  rcases hk with rfl | rfl | rfl | rfl | rfl | rfl | ⟨m, hm, rfl⟩ | hk | ⟨hp, rfl⟩ | rfl | rfl | hk
  · exact h.blk.lt
  · exact h.others.lt
  · exact heap_lt h.queue
  · exact h.news.lt
  · obtain ⟨s, r, hc⟩ := h.chan; exact heap_lt hc
  · exact h.relays.lt
  · exact heap_lt (h.mems m hm)
  · cases hpa : a.pa with
    | none => rw [hpa] at hk; simp [Value.ownBlock] at hk
    | some p =>
      rw [hpa] at hk
      simp only [Value.ownBlock, Option.some.injEq] at hk
      obtain ⟨cur, hg, _⟩ := h.pass.2.2 p hpa
      rw [← hk]; exact heap_lt hg
  · obtain ⟨p, hp⟩ := Option.isSome_iff_exists.1 hp
    exact heap_lt (h.prb p hp)
  · exact heap_lt h.box1
  · exact heap_lt h.box2
  · cases hpa : a.da with
    | none => rw [hpa] at hk; simp [Value.ownBlock] at hk
    | some p =>
      rw [hpa] at hk
      simp only [Value.ownBlock, Option.some.injEq] at hk
      obtain ⟨cur, hg, _⟩ := h.ds.2.2 p hpa
      rw [← hk]; exact heap_lt hg
theorem NodeAt.below {w w' : World} {a : Ad} {ov : Value} {x : Nd} (h : NodeAt w a ov x) (hb : Below w.heap.size w w') : NodeAt w' a ov x :=
  h.keep (fun k hk => hb.block k (h.owns_lt hk))
end Go.Proofs.YtfngdplkcppabaaGreat
namespace Go.Proofs.YtfngdplkcppabaaGreat
open Go.RowKit Go.Conc

def WpN (P : Program) (c : Code) (Q : Exit → Act → World → Prop) (a : Act) (w : World) : Prop :=
  ∀ (b : Frame) (k : List Item) (cs : List Frame), b.kind = .normal → ∃ e a' w', Q e a' w' ∧ Arrives P (lone (b.at a (.code c :: k)) cs w) b k cs e a' w'
section
variable {P : Program} {Q : Exit → Act → World → Prop} {a : Act} {w : World}
theorem wpN_of_wp {c : Code} (h : c.wp P Q a w) : WpN P c Q a w := fun b k cs _ => h b k cs
theorem wpN_seq {x y : Code} (h : WpN P x (Exit.then (WpN P y Q) Q) a w) : WpN P (Code.seq x y) Q a w := by
  intro b k cs hk
  obtain ⟨e, a₁, w₁, hq, harr⟩ := h b (.code y :: k) cs hk
  cases e with
  | normal =>
    obtain ⟨e₂, a₂, w₂, hq₂, harr₂⟩ := hq b k cs hk
    exact ⟨e₂, a₂, w₂, hq₂, .of_steps (.head step_seq harr) harr₂⟩
  | exit id => exact ⟨_, a₁, w₁, hq, .of_steps (.one step_seq) (.pass (x := .code y) rfl (fun _ _ => .inl (by simp)) harr)⟩
  | goto l => exact ⟨_, a₁, w₁, hq, .of_steps (.one step_seq) (.pass (x := .code y) rfl (fun _ _ => .inl (by simp)) harr)⟩
  | ret => exact ⟨_, a₁, w₁, hq, .of_steps (.one step_seq) (.pass (x := .code y) rfl (fun _ _ => .inl (by simp)) harr)⟩
  | panic ch => exact ⟨_, a₁, w₁, hq, .of_steps (.one step_seq) (.pass (x := .code y) rfl (fun _ _ => .inl (by simp)) harr)⟩
  | outgrown => exact ⟨_, a₁, w₁, hq, .of_steps (.one step_seq) (.pass (x := .code y) rfl (fun _ _ => .inl (by simp)) harr)⟩
/-- The first part by the kit's walk. -/
theorem wpN_first {x y : Code} (h : ∀ K : Act → World → Prop, (∀ a w, WpN P y Q a w → K a w) → x.wp P (Exit.then K Q) a w) : WpN P (Code.seq x y) Q a w :=
  wpN_seq (wpN_of_wp (h _ fun _ _ h => h))
theorem calls_of_wpN {f : FuncId} {fn : Func} {c : Code} {args : Array Value} {R : Ending → World → Prop}
    (hf : P.funcs[f]? = some fn) (hb : fn.body = some c)
    (h : WpN P c (bodyPost P fn R) { tmps := args ++ Array.replicate (fn.ntmps - args.size) undef, defers := [] } w) : Calls P f args w R := by
  intro cs
  let b : Frame := { (default : Frame) with fn := f, kind := .normal }
  have henter : Frame.enter P f args .normal = b.at { tmps := args ++ Array.replicate (fn.ntmps - args.size) undef, defers := [] } [.code c] := by
    simp [Frame.enter, Frame.at, hf, hb, b]
  obtain ⟨e, a', w', hq, harr⟩ := h b [] cs rfl
  rw [← henter] at harr
  cases e with
  | normal =>
    obtain ⟨hd, v, hr, hR⟩ := hq
    exact ⟨.returned v, w', _, hR, Steps.trans harr (.one step_end), rfl, rfl, hd, rfl, fn, hf, hr⟩
  | ret =>
    obtain ⟨hd, v, hr, hR⟩ := hq
    obtain ⟨todo, hs⟩ := harr
    exact ⟨.returned v, w', _, hR, hs, rfl, rfl, hd, rfl, fn, hf, hr⟩
  | panic chain =>
    obtain ⟨hd, hR⟩ := hq
    obtain ⟨todo, hs⟩ := harr
    exact ⟨.panicked chain, w', _, hR, hs, rfl, rfl, hd, fn, hf⟩
  | exit id => exact hq.elim
  | goto l => exact hq.elim
  | outgrown => exact ⟨.outgrown, w', b, hq, harr.resolve_left (by simp [b]), rfl, trivial⟩
/-- A region whose first operation is one step of the machine's. -/
theorem wpN_step_first {id : Nat} {o o1 o2 : Oper} {v : Value} {w' : World}
    (hstep : ∀ (b : Frame) (k : List Item) (cs : List Frame), b.kind = .normal → step P (lone (b.at a (.inRegion #[o, o1, o2] [0, 1, 2] :: k)) cs w) = .next (lone (b.at (a.put o.dst v) (.inRegion #[o, o1, o2] [1, 2] :: k)) cs w'))
    (h : wpList P #[o, o1, o2] Q [o1, o2] (a.put o.dst v) w') : WpN P (.region id #[o, o1, o2] false) Q a w := by
  intro b k cs hk
  have e : wpOps P #[o, o1, o2] Q [1, 2] = wpList P #[o, o1, o2] Q [o1, o2] := wpOps_eq_wpList [o1, o2] 1 (fun j => by rcases j with _ | _ | j <;> simp <;> omega)
  rw [← e] at h
  obtain ⟨ex, a', w'', hq, harr⟩ := wp_ops [1, 2] _ w' h b k cs
  exact ⟨ex, a', w'', hq, .of_steps (.head step_region (.one (hstep b k cs hk))) harr⟩
/-- 'select { case ch <- v: .. default: .. }', the channel has room. -/
theorem wpN_send_room {id : Nat} {o o1 o2 : Oper} (cop sop : Operand) (T : TypeId) (c cap s r : Nat) (buf : Array Value) (v z : Value)
    (hop : o.op = Op.select #[{ chan := cop, send := some sop, elem := T }] false) (hg : o.guard = none) (hc : a.eval cop = .chan (some c)) (hv : a.eval sop = v) (hz : ∀ w, (zeroValue T).run P w = .ok z w)
    (hw : w.heap[c]? = some (.chan cap buf false s r false)) (hroom : buf.size < cap)
    (h : wpList P #[o, o1, o2] Q [o1, o2] (a.put o.dst (.tuple #[goInt 0, .bool false])) (w.setChan c cap (buf.push v) false (s + 1) r false)) :
    WpN P (.region id #[o, o1, o2] false) Q a w := by
  refine wpN_step_first (fun b k cs hk => ?_) h
  rw [lone_eq_solo, step_lone_select_send_room (stepG_comm (o := o) (cases := #[scase c v z]) (blocking := false) (shape := .select) (w' := w) rfl (by simp [Region.wanted, hg]) (by rw [hk]; decide) (by
    simp [execOp, hop, hc, hv, hz, scase])) hw hroom, Frame.finish_at]
  rfl
/-- .. it has none. -/
theorem wpN_send_full {id : Nat} {o o1 o2 : Oper} (cop sop : Operand) (T : TypeId) (c cap s r : Nat) (buf : Array Value) (v z : Value)
    (hop : o.op = Op.select #[{ chan := cop, send := some sop, elem := T }] false) (hg : o.guard = none) (hc : a.eval cop = .chan (some c)) (hv : a.eval sop = v) (hz : ∀ w, (zeroValue T).run P w = .ok z w)
    (hw : w.heap[c]? = some (.chan cap buf false s r false)) (hfull : cap ≤ buf.size)
    (h : wpList P #[o, o1, o2] Q [o1, o2] (a.put o.dst (.tuple #[goInt (-1), .bool false])) w) :
    WpN P (.region id #[o, o1, o2] false) Q a w := by
  refine wpN_step_first (fun b k cs hk => ?_) h
  rw [lone_eq_solo, step_lone_select_send_full (stepG_comm (o := o) (cases := #[scase c v z]) (blocking := false) (shape := .select) (w' := w) rfl (by simp [Region.wanted, hg]) (by rw [hk]; decide) (by
    simp [execOp, hop, hc, hv, hz, scase])) hw hfull, Frame.finish_at]
  rfl
end
end Go.Proofs.YtfngdplkcppabaaGreat
