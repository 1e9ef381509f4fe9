/-
  wire.Whole says whether a message is one.
-/
import Derived.Test.YtfngdplkcppabaaGreatDoorPlainA
namespace Go.Proofs.YtfngdplkcppabaaGreatDoor
open Go.RowKit

theorem roomI_cases (k : Int) : roomI k = 4 ∨ roomI k = 8 ∨ roomI k = -1 := by
  unfold roomI; split
  · exact .inl rfl
  · split
    · exact .inr (.inl rfl)
    · exact .inr (.inr rfl)

theorem wholeB_false {m : M} (h : tgtB m.kind m.tgt = false ∨ (m.ups.length : Int) > roomI m.kind ∨ withinB m.frm 1 250 = false ∨ withinB m.inc 1 1073741824 = false ∨ withinB m.seq 0 4294967295 = false ∨ m.ups.all keyB = false) : wholeB m = false := by
  unfold wholeB
  rcases h with h | h | h | h | h | h <;> simp [h]
theorem wholeB_true {m : M} (h1 : tgtB m.kind m.tgt = true) (h2 : ¬ (m.ups.length : Int) > roomI m.kind) (h3 : withinB m.frm 1 250 = true) (h4 : withinB m.inc 1 1073741824 = true) (h5 : withinB m.seq 0 4294967295 = true) (h6 : m.ups.all keyB = true) : wholeB m = true := by
  unfold wholeB
  simp only [h1, h3, h4, h5, h6, h2]; simp

/-- The ways through the head's tests. -/
theorem six (t f i s : Bool) (n r : Int) : t = false ∨ (t = true ∧ r < n) ∨ (t = true ∧ ¬ r < n ∧ f = false) ∨ (t = true ∧ ¬ r < n ∧ f = true ∧ i = false) ∨ (t = true ∧ ¬ r < n ∧ f = true ∧ i = true ∧ s = false) ∨ (t = true ∧ ¬ r < n ∧ f = true ∧ i = true ∧ s = true) := by
  by_cases h : r < n <;> cases t <;> cases f <;> cases i <;> cases s <;> simp [h]

theorem all_take_succ {l : List K} {k : Nat} (h : k < l.length) : (l.take (k + 1)).all keyB = ((l.take k).all keyB && keyB l[k]) := by
  rw [List.take_succ_eq_append_getElem h, List.all_append]; simp

theorem all_keyB_false {l : List K} {k : Nat} (h : k < l.length) (hk : keyB l[k] = false) : l.all keyB = false := by
  rw [List.all_eq_false]; exact ⟨l[k], List.getElem_mem h, by simp [hk]⟩
theorem tgtB_eq {kind tgt r : Int} (h : roomI kind = r) : tgtB kind tgt = if r = 8 then (tgt == 0) else withinB tgt 1 250 := by
  rw [tgtB, h]

set_option maxHeartbeats 1000000 in
/-- Where the head's tests fail: false. -/
theorem whole_no (kind frm inc seq tgt : Int) (l : List K) (a : Option Addr) (cap : Nat) (w : World) (hl : l.length ≤ 9223372036854775807)
    (hno : tgtB kind tgt = false ∨ roomI kind < (l.length : Int) ∨ withinB frm 1 250 = false ∨ withinB inc 1 1073741824 = false ∨ withinB seq 0 4294967295 = false) :
    Calls Tryz.prog 45 #[.agg #[.int .i64 kind, .int .i64 frm, .int .i64 inc, .int .i64 seq, .int .i64 tgt, .slice a l.length cap]] w fun e w' =>
      e = .returned (.bool false) ∧ Below w.heap.size w w' := by
  have h6 := six (tgtB kind tgt) (withinB frm 1 250) (withinB inc 1 1073741824) (withinB seq 0 4294967295) l.length (roomI kind)
  rcases roomI_cases kind with hr | hr | hr
  all_goals
    rw [tgtB_eq hr, hr] at h6 hno
    simp only [Int.reduceEq, if_true, if_false] at h6 hno
    rcases h6 with h1 | ⟨h1, h2⟩ | ⟨h1, h2, h3⟩ | ⟨h1, h2, h3, h4⟩ | ⟨h1, h2, h3, h4, h5⟩ | ⟨h1, h2, h3, h4, h5⟩
  all_goals try (exfalso; rcases hno with h | h | h | h | h <;> first | omega | (simp_all; done))
  all_goals
    clear hno
    go_enter Tryz.func45, Tryz.ntmps45
    go_wp2_with (first | (go_at_call 77; refine (within_any _ _ _ _).mono ?_; rintro e w' ⟨rfl, rfl⟩) | (go_at_call 76; refine (room_any _ _).mono ?_; rintro e w' ⟨rfl, rfl⟩))
    go_ret
    exact ⟨rfl, (Below.refl _ _).alloc (Nat.le_refl _) _⟩

set_option maxHeartbeats 1000000 in
/-- Where the head's tests hold: whether each update is a key. -/
theorem whole_yes (kind frm inc seq tgt : Int) (l : List K) (a : Option Addr) (cap : Nat) (w : World) (hl : l.length ≤ 9223372036854775807) (hk : KeysAt w a l)
    (h1 : tgtB kind tgt = true) (h2 : ¬ roomI kind < (l.length : Int)) (h3 : withinB frm 1 250 = true) (h4 : withinB inc 1 1073741824 = true) (h5 : withinB seq 0 4294967295 = true) :
    Calls Tryz.prog 45 #[.agg #[.int .i64 kind, .int .i64 frm, .int .i64 inc, .int .i64 seq, .int .i64 tgt, .slice a l.length cap]] w fun e w' =>
      e = .returned (.bool (l.all keyB)) ∧ Below w.heap.size w w' := by
  have HK := Lib.hid hk
  clear hk
  rcases roomI_cases kind with hr | hr | hr
  case inr.inr => omega
  all_goals
    rw [tgtB_eq hr] at h1
    rw [hr] at h2
    simp only [Int.reduceEq, if_true, if_false] at h1
    go_enter Tryz.func45, Tryz.ntmps45
    go_wp2_with (first | (go_at_call 77; refine (within_any _ _ _ _).mono ?_; rintro e w' ⟨rfl, rfl⟩) | (go_at_call 76; refine (room_any _ _).mono ?_; rintro e w' ⟨rfl, rfl⟩))
    go_loopw [48] (fun i wr => ∃ k : Nat, k ≤ l.length ∧ i = .int .i64 k ∧ (l.take k).all keyB = true ∧ Below w.heap.size w wr) (fun i _ => l.length - (intOf i).toNat)
    case atStart => exact ⟨0, Nat.zero_le _, rfl, rfl, (Below.refl _ _).alloc (Nat.le_refl _) _⟩
    case round =>
      obtain ⟨k, hkl, rfl, hall, hb⟩ := hrel
      have HA := Lib.hid hall
      clear hall
      by_cases hlt : k < l.length
      · obtain ⟨b, off, rfl, hbl, c0, c1, c2⟩ := HK.out k l[k] (List.getElem?_eq_getElem hlt)
        have hsz := hb.size
        rw [← hb.cell hbl] at c0 c1 c2
        go_wp2_with (first | (go_at_call 77; refine (within_any _ _ _ _).mono ?_; rintro e w' ⟨rfl, rfl⟩))
        case roundEnd =>
          have hkk : keyB l[k] = true := by simp_all [keyB]
          refine ⟨⟨k + 1, by omega, by go_num, by rw [all_take_succ hlt, HA.out, hkk]; rfl, hb.alloc hsz _⟩, by simp [intOf]; omega⟩
        all_goals
          have hkk : keyB l[k] = false := by simp_all [keyB]
          go_ret
          exact ⟨by rw [all_keyB_false hlt hkk]; rfl, hb.alloc hsz _⟩
      · have hk' : k = l.length := by omega
        go_wp2
        go_ret
        exact ⟨by have := HA.out; rw [hk', List.take_length] at this; rw [this]; rfl, hb⟩

/-- wire.Whole. -/
theorem whole_any (kind frm inc seq tgt : Int) (l : List K) (a : Option Addr) (cap : Nat) (w : World) (hl : l.length ≤ 9223372036854775807) (hk : KeysAt w a l) :
    Calls Tryz.prog 45 #[.agg #[.int .i64 kind, .int .i64 frm, .int .i64 inc, .int .i64 seq, .int .i64 tgt, .slice a l.length cap]] w fun e w' =>
      e = .returned (.bool (wholeB ⟨kind, frm, inc, seq, tgt, l⟩)) ∧ Below w.heap.size w w' := by
  by_cases hy : tgtB kind tgt = true ∧ ¬ roomI kind < (l.length : Int) ∧ withinB frm 1 250 = true ∧ withinB inc 1 1073741824 = true ∧ withinB seq 0 4294967295 = true
  · obtain ⟨h1, h2, h3, h4, h5⟩ := hy
    have e : wholeB ⟨kind, frm, inc, seq, tgt, l⟩ = l.all keyB := by
      cases h : l.all keyB
      · exact wholeB_false (.inr (.inr (.inr (.inr (.inr h)))))
      · exact wholeB_true h1 (by simpa using h2) h3 h4 h5 h
    rw [e]
    exact whole_yes kind frm inc seq tgt l a cap w hl hk h1 h2 h3 h4 h5
  · have hno : tgtB kind tgt = false ∨ roomI kind < (l.length : Int) ∨ withinB frm 1 250 = false ∨ withinB inc 1 1073741824 = false ∨ withinB seq 0 4294967295 = false := by
      rcases six (tgtB kind tgt) (withinB frm 1 250) (withinB inc 1 1073741824) (withinB seq 0 4294967295) l.length (roomI kind) with h | ⟨_, h⟩ | ⟨_, _, h⟩ | ⟨_, _, _, h⟩ | ⟨_, _, _, _, h⟩ | h
      · exact .inl h
      · exact .inr (.inl h)
      · exact .inr (.inr (.inl h))
      · exact .inr (.inr (.inr (.inl h)))
      · exact .inr (.inr (.inr (.inr h)))
      · exact absurd h hy
    rw [wholeB_false (m := ⟨kind, frm, inc, seq, tgt, l⟩) (by
      rcases hno with h | h | h | h | h
      · exact .inl h
      · exact .inr (.inl h)
      · exact .inr (.inr (.inl h))
      · exact .inr (.inr (.inr (.inl h)))
      · exact .inr (.inr (.inr (.inr (.inl h)))))]
    exact whole_no kind frm inc seq tgt l a cap w hl hno
theorem whole_at (m : M) (a : Option Addr) (n cap : Nat) (w : World) (hn : m.ups.length = n) (hl : n ≤ 9223372036854775807) (hk : KeysAt w a m.ups) :
    Calls Tryz.prog 45 #[.agg #[.int .i64 m.kind, .int .i64 m.frm, .int .i64 m.inc, .int .i64 m.seq, .int .i64 m.tgt, .slice a n cap]] w fun e w' =>
      e = .returned (.bool (wholeB m)) ∧ Below w.heap.size w w' := by
  subst hn
  exact whole_any m.kind m.frm m.inc m.seq m.tgt m.ups a cap w hl hk
end Go.Proofs.YtfngdplkcppabaaGreatDoor
