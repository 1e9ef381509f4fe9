/-
  gossipref: id, inc, Message.Whole.
-/
import Derived.Test.YtfngdplkcppabaaGreatDoorPlainW
namespace Go.Proofs.YtfngdplkcppabaaGreatDoor
open Go.RowKit

theorem rid_any (n : Int) (w : World) :
    Calls Tryz.prog 47 #[.int .i64 n] w fun e w' => e = .returned (.bool (withinB n 1 250)) ∧ w = w' := by
  by_cases h1 : 1 ≤ n
  · by_cases h2 : n ≤ 250
    all_goals
      go_enter Tryz.func47, Tryz.ntmps47
      go_wp2
      go_ret
      exact ⟨by simp [withinB, *]; try omega, rfl⟩
  · go_enter Tryz.func47, Tryz.ntmps47
    go_wp2
    go_ret
    exact ⟨by simp [withinB]; omega, rfl⟩
theorem rinc_any (n : Int) (w : World) :
    Calls Tryz.prog 48 #[.int .i64 n] w fun e w' => e = .returned (.bool (withinB n 1 1073741824)) ∧ w = w' := by
  by_cases h1 : 1 ≤ n
  · by_cases h2 : n ≤ 1073741824
    all_goals
      go_enter Tryz.func48, Tryz.ntmps48
      go_wp2
      go_ret
      exact ⟨by simp [withinB, *]; try omega, rfl⟩
  · go_enter Tryz.func48, Tryz.ntmps48
    go_wp2
    go_ret
    exact ⟨by simp [withinB]; omega, rfl⟩

theorem room_of {k : Int} (h1 : 1 ≤ k) (h2 : k ≤ 5) : roomI k = if k < 4 then 4 else 8 := by
  rcases (show k = 1 ∨ k = 2 ∨ k = 3 ∨ k = 4 ∨ k = 5 by omega) with rfl | rfl | rfl | rfl | rfl <;> rfl
theorem rseven (kind seq : Int) (f i : Bool) : kind < 1 ∨ (1 ≤ kind ∧ 5 < kind) ∨ (1 ≤ kind ∧ kind ≤ 5 ∧ f = false) ∨ (1 ≤ kind ∧ kind ≤ 5 ∧ f = true ∧ i = false) ∨ (1 ≤ kind ∧ kind ≤ 5 ∧ f = true ∧ i = true ∧ seq < 0) ∨
    (1 ≤ kind ∧ kind ≤ 5 ∧ f = true ∧ i = true ∧ 0 ≤ seq ∧ 4294967295 < seq) ∨ (1 ≤ kind ∧ kind ≤ 5 ∧ f = true ∧ i = true ∧ 0 ≤ seq ∧ seq ≤ 4294967295) := by
  cases f <;> cases i <;> simp <;> omega

set_option maxHeartbeats 1000000 in
theorem rwhole_no (kind frm inc seq tgt : Int) (l : List K) (a : Option Addr) (cap : Nat) (w : World)
    (hno : ¬ (1 ≤ kind ∧ kind ≤ 5 ∧ withinB frm 1 250 = true ∧ withinB inc 1 1073741824 = true ∧ 0 ≤ seq ∧ seq ≤ 4294967295)) :
    Calls Tryz.prog 25 #[.agg #[.int .i64 kind, .int .i64 frm, .int .i64 inc, .int .i64 seq, .int .i64 tgt, .slice a l.length cap]] w fun e w' =>
      e = .returned (.bool false) ∧ Below w.heap.size w w' := by
  rcases rseven kind seq (withinB frm 1 250) (withinB inc 1 1073741824) with h1 | ⟨h1, h2⟩ | ⟨h1, h2, h3⟩ | ⟨h1, h2, h3, h4⟩ | ⟨h1, h2, h3, h4, h5⟩ | ⟨h1, h2, h3, h4, h5, h6⟩ | h
  case inr.inr.inr.inr.inr.inr => exact absurd h hno
  all_goals
    clear hno
    go_enter Tryz.func25, Tryz.ntmps25
    go_wp2_with (first | (go_at_call 47; refine (rid_any _ _).mono ?_; rintro e w' ⟨rfl, rfl⟩) | (go_at_call 48; refine (rinc_any _ _).mono ?_; rintro e w' ⟨rfl, rfl⟩))
    go_ret
    exact ⟨rfl, (Below.refl _ _).alloc (Nat.le_refl _) _⟩

set_option maxHeartbeats 1000000 in
theorem rwhole_mid (kind frm inc seq tgt : Int) (l : List K) (a : Option Addr) (cap : Nat) (w : World) (hl : l.length ≤ 9223372036854775807)
    (h1 : 1 ≤ kind) (h2 : kind ≤ 5) (h3 : withinB frm 1 250 = true) (h4 : withinB inc 1 1073741824 = true) (h5 : 0 ≤ seq) (h6 : seq ≤ 4294967295)
    (hno : ¬ (tgtB kind tgt = true ∧ ¬ roomI kind < (l.length : Int))) :
    Calls Tryz.prog 25 #[.agg #[.int .i64 kind, .int .i64 frm, .int .i64 inc, .int .i64 seq, .int .i64 tgt, .slice a l.length cap]] w fun e w' =>
      e = .returned (.bool false) ∧ Below w.heap.size w w' := by
  rcases (show kind = 4 ∨ kind = 5 ∨ kind < 4 by omega) with hk | hk | hk
  all_goals
    obtain ⟨r, hr, hr'⟩ : ∃ r, roomI kind = r ∧ r = if kind < 4 then 4 else 8 := ⟨_, rfl, room_of h1 h2⟩
    first | rw [if_pos (by omega)] at hr' | rw [if_neg (by omega)] at hr'
    subst hr'
    rw [tgtB_eq hr, hr] at hno
    simp only [Int.reduceEq, if_true, if_false] at hno
  · by_cases ht : tgt = 0
    · have hn : (8 : Int) < l.length := by simp [ht] at hno; omega
      clear hno hr
      subst hk
      go_enter Tryz.func25, Tryz.ntmps25
      go_wp2_with (first | (go_at_call 47; refine (rid_any _ _).mono ?_; rintro e w' ⟨rfl, rfl⟩) | (go_at_call 48; refine (rinc_any _ _).mono ?_; rintro e w' ⟨rfl, rfl⟩))
      go_ret
      exact ⟨rfl, (Below.refl _ _).alloc (Nat.le_refl _) _⟩
    · have hb : (tgt == 0) = false := by simp [ht]
      clear hno hr
      subst hk
      go_enter Tryz.func25, Tryz.ntmps25
      go_wp2_with (first | (go_at_call 47; refine (rid_any _ _).mono ?_; rintro e w' ⟨rfl, rfl⟩) | (go_at_call 48; refine (rinc_any _ _).mono ?_; rintro e w' ⟨rfl, rfl⟩))
      go_ret
      exact ⟨rfl, (Below.refl _ _).alloc (Nat.le_refl _) _⟩
  · by_cases ht : tgt = 0
    · have hn : (8 : Int) < l.length := by simp [ht] at hno; omega
      clear hno hr
      subst hk
      go_enter Tryz.func25, Tryz.ntmps25
      go_wp2_with (first | (go_at_call 47; refine (rid_any _ _).mono ?_; rintro e w' ⟨rfl, rfl⟩) | (go_at_call 48; refine (rinc_any _ _).mono ?_; rintro e w' ⟨rfl, rfl⟩))
      go_ret
      exact ⟨rfl, (Below.refl _ _).alloc (Nat.le_refl _) _⟩
    · have hb : (tgt == 0) = false := by simp [ht]
      clear hno hr
      subst hk
      go_enter Tryz.func25, Tryz.ntmps25
      go_wp2_with (first | (go_at_call 47; refine (rid_any _ _).mono ?_; rintro e w' ⟨rfl, rfl⟩) | (go_at_call 48; refine (rinc_any _ _).mono ?_; rintro e w' ⟨rfl, rfl⟩))
      go_ret
      exact ⟨rfl, (Below.refl _ _).alloc (Nat.le_refl _) _⟩
  · have k4 : (kind == 4) = false := by rw [beq_eq_false_iff_ne]; omega
    have k5 : (kind == 5) = false := by rw [beq_eq_false_iff_ne]; omega
    cases ht : withinB tgt 1 250
    · clear hno hr
      go_enter Tryz.func25, Tryz.ntmps25
      go_wp2_with (first | (go_at_call 47; refine (rid_any _ _).mono ?_; rintro e w' ⟨rfl, rfl⟩) | (go_at_call 48; refine (rinc_any _ _).mono ?_; rintro e w' ⟨rfl, rfl⟩))
      go_ret
      exact ⟨rfl, (Below.refl _ _).alloc (Nat.le_refl _) _⟩
    · have hn : (4 : Int) < l.length := by simp [ht] at hno; omega
      clear hno hr
      go_enter Tryz.func25, Tryz.ntmps25
      go_wp2_with (first | (go_at_call 47; refine (rid_any _ _).mono ?_; rintro e w' ⟨rfl, rfl⟩) | (go_at_call 48; refine (rinc_any _ _).mono ?_; rintro e w' ⟨rfl, rfl⟩))
      go_ret
      exact ⟨rfl, (Below.refl _ _).alloc (Nat.le_refl _) _⟩

set_option maxHeartbeats 2000000 in
theorem rwhole_yes (kind frm inc seq tgt : Int) (l : List K) (a : Option Addr) (cap : Nat) (w : World) (hl : l.length ≤ 9223372036854775807) (hk : KeysAt w a l)
    (h1 : 1 ≤ kind) (h2 : kind ≤ 5) (h3 : withinB frm 1 250 = true) (h4 : withinB inc 1 1073741824 = true) (h5 : 0 ≤ seq) (h6 : seq ≤ 4294967295)
    (ht : tgtB kind tgt = true) (hn : ¬ roomI kind < (l.length : Int)) :
    Calls Tryz.prog 25 #[.agg #[.int .i64 kind, .int .i64 frm, .int .i64 inc, .int .i64 seq, .int .i64 tgt, .slice a l.length cap]] w fun e w' =>
      e = .returned (.bool (l.all keyB)) ∧ Below w.heap.size w w' := by
  have HK := Lib.hid hk
  clear hk
  rcases (show kind = 4 ∨ kind = 5 ∨ kind < 4 by omega) with hk | hk | hk
  all_goals
    obtain ⟨r, hr, hr'⟩ : ∃ r, roomI kind = r ∧ r = if kind < 4 then 4 else 8 := ⟨_, rfl, room_of h1 h2⟩
    first | rw [if_pos (by omega)] at hr' | rw [if_neg (by omega)] at hr'
    subst hr'
    rw [tgtB_eq hr] at ht
    rw [hr] at hn
    simp only [Int.reduceEq, if_true, if_false] at ht
    have k4 : (kind == 4) = decide (kind = 4) := rfl
    have k5 : (kind == 5) = decide (kind = 5) := rfl
    first | rw [decide_eq_true (by omega)] at k4 | rw [decide_eq_false (by omega)] at k4
    first | rw [decide_eq_true (by omega)] at k5 | rw [decide_eq_false (by omega)] at k5
    clear hr
    go_enter Tryz.func25, Tryz.ntmps25
    go_wp2_with (first | (go_at_call 47; refine (rid_any _ _).mono ?_; rintro e w' ⟨rfl, rfl⟩) | (go_at_call 48; refine (rinc_any _ _).mono ?_; rintro e w' ⟨rfl, rfl⟩))
    go_loopw [7] (fun i wr => ∃ k : Nat, k ≤ l.length ∧ i = .int .i64 k ∧ (l.take k).all keyB = true ∧ Below w.heap.size w wr ∧ wr.heap[w.heap.size]? = some (.cells #[.int .i64 kind, .int .i64 frm, .int .i64 inc, .int .i64 seq, .int .i64 tgt, .slice a l.length cap] 33 (0, 0))) (fun i _ => l.length - (intOf i).toNat)
    case atStart => exact ⟨0, Nat.zero_le _, rfl, rfl, (Below.refl _ _).alloc (Nat.le_refl _) _, by first | exact heap_alloc_eq _ _ | (rw [hk]; exact heap_alloc_eq _ _)⟩
    case round =>
      obtain ⟨k, hkl, rfl, hall, hb, hbx⟩ := hrel
      have hcx := cells_at hbx
      have HA := Lib.hid hall
      have HX := Lib.hid hbx
      clear hall hbx
      by_cases hlt : k < l.length
      · obtain ⟨b, off, rfl, hbl, c0, c1, c2⟩ := HK.out k l[k] (List.getElem?_eq_getElem hlt)
        have hsz := hb.size
        have hsx := heap_lt HX.out
        rw [← hb.cell hbl] at c0 c1 c2
        go_wp2_with (first | (go_at_call 47; refine (rid_any _ _).mono ?_; rintro e w' ⟨rfl, rfl⟩) | (go_at_call 48; refine (rinc_any _ _).mono ?_; rintro e w' ⟨rfl, rfl⟩))
        case roundEnd =>
          have hkk : keyB l[k] = true := by first | (simp_all [keyB]; done) | (simp_all [keyB, withinB]; done) | (simp_all [keyB, withinB]; omega)
          refine ⟨⟨k + 1, by omega, by go_num, by rw [all_take_succ hlt, HA.out, hkk]; rfl, hb.alloc (by omega) _, heap_old _ HX.out⟩, by simp [intOf]; omega⟩
        all_goals
          have hkk : keyB l[k] = false := by first | (simp_all [keyB]; done) | (simp_all [keyB, withinB]; done) | (simp_all [keyB, withinB]; omega)
          go_ret
          exact ⟨by rw [all_keyB_false hlt hkk]; rfl, hb.alloc hsz _⟩
      · have hk' : k = l.length := by omega
        go_wp2
        go_ret
        exact ⟨by have := HA.out; rw [hk', List.take_length] at this; rw [this]; rfl, hb⟩

theorem rwhole_at (m : M) (a : Option Addr) (n cap : Nat) (w : World) (hn : m.ups.length = n) (hl : n ≤ 9223372036854775807) (hk : KeysAt w a m.ups) :
    Calls Tryz.prog 25 #[.agg #[.int .i64 m.kind, .int .i64 m.frm, .int .i64 m.inc, .int .i64 m.seq, .int .i64 m.tgt, .slice a n cap]] w fun e w' =>
      e = .returned (.bool (wholeB m)) ∧ Below w.heap.size w w' := by
  subst hn
  obtain ⟨kind, frm, inc, seq, tgt, l⟩ := m
  have hw : wholeB ⟨kind, frm, inc, seq, tgt, l⟩ = (tgtB kind tgt && !decide ((l.length : Int) > roomI kind) && withinB frm 1 250 && withinB inc 1 1073741824 && withinB seq 0 4294967295 && l.all keyB) := rfl
  by_cases h : 1 ≤ kind ∧ kind ≤ 5 ∧ withinB frm 1 250 = true ∧ withinB inc 1 1073741824 = true ∧ 0 ≤ seq ∧ seq ≤ 4294967295
  · obtain ⟨h1, h2, h3, h4, h5, h6⟩ := h
    have hs : withinB seq 0 4294967295 = true := withinB_iff.2 ⟨h5, h6⟩
    by_cases h' : tgtB kind tgt = true ∧ ¬ roomI kind < (l.length : Int)
    · have e : wholeB ⟨kind, frm, inc, seq, tgt, l⟩ = l.all keyB := by
        have hd : decide ((l.length : Int) > roomI kind) = false := decide_eq_false (by simpa using h'.2)
        rw [hw, h'.1, hd, h3, h4, hs]; simp
      rw [e]
      exact rwhole_yes kind frm inc seq tgt l a cap w hl hk h1 h2 h3 h4 h5 h6 h'.1 h'.2
    · have e : wholeB ⟨kind, frm, inc, seq, tgt, l⟩ = false := by
        rw [hw]
        by_cases ht : tgtB kind tgt = true
        · have hd : decide ((l.length : Int) > roomI kind) = true := decide_eq_true (by
            have := fun q => h' ⟨ht, q⟩
            simpa using Classical.not_not.1 this)
          rw [hd]; simp
        · rw [Bool.eq_false_iff.2 ht]; simp
      rw [e]
      exact rwhole_mid kind frm inc seq tgt l a cap w hl h1 h2 h3 h4 h5 h6 h'
  · have e : wholeB ⟨kind, frm, inc, seq, tgt, l⟩ = false := by
      cases hx : wholeB ⟨kind, frm, inc, seq, tgt, l⟩
      · rfl
      · rw [hw] at hx
        simp only [Bool.and_eq_true, Bool.not_eq_true', decide_eq_false_iff_not] at hx
        obtain ⟨⟨⟨⟨⟨_, x2⟩, x3⟩, x4⟩, x5⟩, _⟩ := hx
        have := withinB_iff.1 x5
        refine absurd ⟨?_, ?_, x3, x4, this.1, this.2⟩ h
        · unfold roomI at x2
          split at x2
          · omega
          · split at x2 <;> omega
        · unfold roomI at x2
          split at x2
          · omega
          · split at x2 <;> omega
    rw [e]
    exact rwhole_no kind frm inc seq tgt l a cap w h
end Go.Proofs.YtfngdplkcppabaaGreatDoor
