/-
  The plain law of the wire: a whole message's bytes read back to it, and what reads as a message is its bytes. No program in sight.
-/
import Derived.Test.YtfngdplkcppabaaGreatDoorMessage
namespace Go.Proofs.YtfngdplkcppabaaGreatDoor
open Go.RowKit

def toU8 (n : Int) : UInt8 := UInt8.ofNat n.toNat
theorem toU8_nat (b : UInt8) : toU8 (b.toNat : Int) = b := by simp [toU8]
theorem nat_toU8 (n : Int) (h0 : 0 ≤ n) (h1 : n < 256) : ((toU8 n).toNat : Int) = n := by
  simp only [toU8, UInt8.toNat_ofNat']
  omega
theorem strOfNums_list (xs : List Int) : (strOfNums xs).data.toList = xs.map toU8 := rfl

theorem num1 (a : UInt8) : numL [a] = a.toNat := by simp [numL]
theorem num4 (a b c d : UInt8) : numL [a, b, c, d] = ((a.toNat * 256 + b.toNat) * 256 + c.toNat) * 256 + d.toNat := by simp [numL]
theorem be1 (n : Int) : be 1 n = [n % 256] := by simp [be]
theorem be4 (n : Int) : be 4 n = [n / 16777216 % 256, n / 65536 % 256, n / 256 % 256, n % 256] := by simp [be]
theorem be1_num (a : UInt8) : be 1 (numL [a]) = [(a.toNat : Int)] := by
  have := a.toNat_lt
  rw [num1, be1]
  congr 1
  omega
theorem be4_num (a b c d : UInt8) : be 4 (numL [a, b, c, d]) = [(a.toNat : Int), (b.toNat : Int), (c.toNat : Int), (d.toNat : Int)] := by
  have := a.toNat_lt
  have := b.toNat_lt
  have := c.toNat_lt
  have := d.toNat_lt
  rw [num4, be4]
  simp only [List.cons.injEq, and_true]
  omega
theorem num_be1 (n : Int) (h0 : 0 ≤ n) (h1 : n < 256) : numL ((be 1 n).map toU8) = n := by
  rw [be1, List.map_singleton, num1, nat_toU8 _ (by omega) (by omega)]
  omega
theorem num_be4 (n : Int) (h0 : 0 ≤ n) (h1 : n < 4294967296) : numL ((be 4 n).map toU8) = n := by
  rw [be4]
  simp only [List.map_cons, List.map_nil]
  rw [num4, nat_toU8 _ (by omega) (by omega), nat_toU8 _ (by omega) (by omega), nat_toU8 _ (by omega) (by omega), nat_toU8 _ (by omega) (by omega)]
  omega

theorem take1_at {bs : List UInt8} {k : Nat} (h : k < bs.length) : (bs.drop k).take 1 = [bs[k]] := by
  rw [List.drop_eq_getElem_cons h]; rfl
theorem take4_at {bs : List UInt8} {k : Nat} (h : k + 3 < bs.length) : (bs.drop k).take 4 = [bs[k], bs[k + 1], bs[k + 2], bs[k + 3]] := by
  rw [List.drop_eq_getElem_cons (by omega), List.drop_eq_getElem_cons (by omega), List.drop_eq_getElem_cons (by omega), List.drop_eq_getElem_cons (by omega)]; rfl
theorem be_field1 {bs : List UInt8} {k : Nat} (h : k < bs.length) : (be 1 (fieldN bs k 1)).map toU8 = (bs.drop k).take 1 := by
  rw [fieldN, take1_at h, be1_num]; simp [toU8_nat]
theorem be_field4 {bs : List UInt8} {k : Nat} (h : k + 3 < bs.length) : (be 4 (fieldN bs k 4)).map toU8 = (bs.drop k).take 4 := by
  rw [fieldN, take4_at h, be4_num]; simp [toU8_nat]
theorem glue (bs : List UInt8) (k a b : Nat) : (bs.drop k).take a ++ (bs.drop (k + a)).take b = (bs.drop k).take (a + b) := by
  rw [List.take_add, List.drop_drop]
theorem keyBytes_of {bs : List UInt8} {o : Nat} (h : o + 5 < bs.length) : (keyBytes (keyOf bs o)).map toU8 = (bs.drop o).take 6 := by
  unfold keyBytes keyOf
  rw [List.map_append, List.map_append, be_field1 (by omega), be_field4 (by omega), be_field1 (by omega), glue, glue]
theorem keysBytes_of {bs : List UInt8} (n : Nat) (h : 12 + 6 * n ≤ bs.length) : ((keysOf bs n).flatMap keyBytes).map toU8 = (bs.drop 12).take (6 * n) := by
  induction n with
  | zero => simp [keysOf]
  | succ n ih =>
    have e : keysOf bs (n + 1) = keysOf bs n ++ [keyOf bs (12 + 6 * n)] := by simp [keysOf, List.range_succ]
    rw [e, List.flatMap_append, List.map_append, ih (by omega), List.flatMap_singleton, keyBytes_of (by omega), glue]
    rfl
theorem keysOf_length (bs : List UInt8) (n : Nat) : (keysOf bs n).length = n := by simp [keysOf]

/-- What reads as a message is its bytes. -/
theorem forth_plain {bs : List UInt8} (h : sizedB bs = true) : (msgBytes (rawMsg bs)).map toU8 = bs := by
  unfold sizedB at h
  simp only [Bool.and_eq_true, Bool.not_eq_true', decide_eq_false_iff_not, decide_eq_true_eq] at h
  obtain ⟨h1, h2⟩ := h
  have h11 : 11 < bs.length := by omega
  have hn : ((rawMsg bs).ups.length : Int) = fieldN bs 11 1 := by
    show ((keysOf bs (bs.getD 11 0).toNat).length : Int) = _
    rw [keysOf_length, fieldN, take1_at h11, num1]
    simp [List.getD, h11]
  unfold msgBytes headBytes
  rw [hn]
  show ((be 1 (fieldN bs 0 1) ++ be 1 (fieldN bs 1 1) ++ (be 4 (fieldN bs 2 4) ++ be 4 (fieldN bs 6 4)) ++ (be 1 (fieldN bs 10 1) ++ be 1 (fieldN bs 11 1)) ++ (keysOf bs (bs.getD 11 0).toNat).flatMap keyBytes)).map toU8 = bs
  simp only [List.map_append]
  rw [be_field1 (by omega), be_field1 (by omega), be_field4 (by omega), be_field4 (by omega), be_field1 (by omega), be_field1 (by omega), keysBytes_of _ (by omega)]
  have e1 := glue bs 0 1 1
  have e2 := glue bs 2 4 4
  have e3 := glue bs 10 1 1
  have e4 := glue bs 0 2 8
  have e5 := glue bs 0 10 2
  have e6 := glue bs 0 12 (6 * (bs.getD 11 0).toNat)
  simp only [Nat.zero_add, Nat.reduceAdd] at e1 e2 e3 e4 e5 e6
  rw [e1, e2, e3, e4, e5, e6, ← h2, List.drop_zero, List.take_length]

theorem withinB_iff {n lo hi : Int} : withinB n lo hi = true ↔ lo ≤ n ∧ n ≤ hi := by simp [withinB]
theorem keyB_iff {k : K} : keyB k = true ↔ (1 ≤ k.id ∧ k.id ≤ 250) ∧ (1 ≤ k.inc ∧ k.inc ≤ 1073741824) ∧ (1 ≤ k.st ∧ k.st ≤ 4) := by
  simp only [keyB, Bool.and_eq_true, withinB_iff, and_assoc]
theorem whole_fields {m : M} (h : wholeB m = true) : (1 ≤ m.kind ∧ m.kind ≤ 5) ∧ (1 ≤ m.frm ∧ m.frm ≤ 250) ∧ (1 ≤ m.inc ∧ m.inc ≤ 1073741824) ∧ (0 ≤ m.seq ∧ m.seq ≤ 4294967295) ∧ (0 ≤ m.tgt ∧ m.tgt ≤ 250) ∧ m.ups.length ≤ 8 ∧ ∀ k ∈ m.ups, keyB k = true := by
  have h8 : m.ups.length ≤ 8 ∧ -1 < roomI m.kind := by
    unfold wholeB at h
    simp only [Bool.and_eq_true, Bool.not_eq_true', decide_eq_false_iff_not] at h
    have h2 := h.1.1.1.1.2
    rcases roomI_cases m.kind with hr | hr | hr <;> rw [hr] at h2 ⊢ <;> omega
  have hk : 1 ≤ m.kind ∧ m.kind ≤ 5 := by
    have := h8.2
    unfold roomI at this
    split at this
    · omega
    · split at this <;> omega
  unfold wholeB tgtB at h
  simp only [Bool.and_eq_true, withinB_iff, List.all_eq_true] at h
  obtain ⟨⟨⟨⟨⟨ht, _⟩, h2⟩, h3⟩, h4⟩, h5⟩ := h
  refine ⟨hk, h2, h3, h4, ?_, h8.1, h5⟩
  split at ht
  · have := eq_of_beq ht; omega
  · rw [withinB_iff] at ht; omega

theorem flat_drop (l : List K) (i : Nat) (hi : i ≤ l.length) : (l.flatMap keyBytes).drop (6 * i) = (l.drop i).flatMap keyBytes := by
  induction i generalizing l with
  | zero => simp
  | succ i ih =>
    cases l with
    | nil => simp at hi
    | cons a l =>
      have hl : (keyBytes a).length = 6 := by simp [keyBytes, be]
      rw [List.flatMap_cons, List.drop_succ_cons, ← ih l (by simpa using hi), show 6 * (i + 1) = (keyBytes a).length + 6 * i by omega, ← List.drop_drop, List.drop_left]
theorem head_length (a b c d e f : Int) : (headBytes a b c d e f).length = 12 := by simp [headBytes, be]

theorem field_mid {bs A C : List UInt8} {x : List Int} {k wd : Nat} (h : bs = A ++ x.map toU8 ++ C) (hA : A.length = k) (hx : x.length = wd) : fieldN bs k wd = numL (x.map toU8) := by
  subst h hA hx
  rw [fieldN, List.append_assoc, List.drop_left, List.take_left' (by simp)]

/-- A whole message's bytes read back to it. -/
theorem back_plain {m : M} (h : wholeB m = true) : rawMsg ((msgBytes m).map toU8) = m ∧ sizedB ((msgBytes m).map toU8) = true := by
  obtain ⟨hk, hf, hi, hs, ht, hl, hu⟩ := whole_fields h
  obtain ⟨bs, hbs⟩ : ∃ bs, (msgBytes m).map toU8 = bs := ⟨_, rfl⟩
  rw [hbs]
  have hlen : bs.length = 12 + 6 * m.ups.length := by
    rw [← hbs, List.length_map, msgBytes, List.length_append, head_length, keyBytes_length]
  have split : ∀ (A x C : List Int), msgBytes m = A ++ x ++ C → ∀ k wd, A.length = k → x.length = wd → fieldN bs k wd = numL (x.map toU8) := by
    intro A x C e k wd hA hx
    refine field_mid (A := A.map toU8) (C := C.map toU8) ?_ (by simpa using hA) hx
    rw [← hbs, e, List.map_append, List.map_append]
  have hm : msgBytes m = be 1 m.kind ++ be 1 m.frm ++ (be 4 m.inc ++ be 4 m.seq) ++ (be 1 m.tgt ++ be 1 m.ups.length) ++ m.ups.flatMap keyBytes := rfl
  have f0 : fieldN bs 0 1 = m.kind := by
    rw [split [] (be 1 m.kind) (be 1 m.frm ++ (be 4 m.inc ++ be 4 m.seq) ++ (be 1 m.tgt ++ be 1 m.ups.length) ++ m.ups.flatMap keyBytes) (by rw [hm]; simp) 0 1 rfl (be_length _ _)]
    exact num_be1 _ (by omega) (by omega)
  have f1 : fieldN bs 1 1 = m.frm := by
    rw [split (be 1 m.kind) (be 1 m.frm) ((be 4 m.inc ++ be 4 m.seq) ++ (be 1 m.tgt ++ be 1 m.ups.length) ++ m.ups.flatMap keyBytes) (by rw [hm]; simp) 1 1 (be_length _ _) (be_length _ _)]
    exact num_be1 _ (by omega) (by omega)
  have f2 : fieldN bs 2 4 = m.inc := by
    rw [split (be 1 m.kind ++ be 1 m.frm) (be 4 m.inc) (be 4 m.seq ++ (be 1 m.tgt ++ be 1 m.ups.length) ++ m.ups.flatMap keyBytes) (by rw [hm]; simp) 2 4 (by simp [be_length]) (be_length _ _)]
    exact num_be4 _ (by omega) (by omega)
  have f6 : fieldN bs 6 4 = m.seq := by
    rw [split (be 1 m.kind ++ be 1 m.frm ++ be 4 m.inc) (be 4 m.seq) ((be 1 m.tgt ++ be 1 m.ups.length) ++ m.ups.flatMap keyBytes) (by rw [hm]; simp) 6 4 (by simp [be_length]) (be_length _ _)]
    exact num_be4 _ (by omega) (by omega)
  have f10 : fieldN bs 10 1 = m.tgt := by
    rw [split (be 1 m.kind ++ be 1 m.frm ++ (be 4 m.inc ++ be 4 m.seq)) (be 1 m.tgt) (be 1 m.ups.length ++ m.ups.flatMap keyBytes) (by rw [hm]; simp) 10 1 (by simp [be_length]) (be_length _ _)]
    exact num_be1 _ (by omega) (by omega)
  have f11 : fieldN bs 11 1 = m.ups.length := by
    rw [split (be 1 m.kind ++ be 1 m.frm ++ (be 4 m.inc ++ be 4 m.seq) ++ be 1 m.tgt) (be 1 m.ups.length) (m.ups.flatMap keyBytes) (by rw [hm]; simp) 11 1 (by simp [be_length]) (be_length _ _)]
    exact num_be1 _ (by omega) (by omega)
  have hn : (bs.getD 11 0).toNat = m.ups.length := by
    have h11 : 11 < bs.length := by omega
    rw [fieldN, take1_at h11, num1] at f11
    have e : bs.getD 11 0 = bs[11] := by simp [List.getD, h11]
    rw [e]
    omega
  have hkeys : keysOf bs m.ups.length = m.ups := by
    apply List.ext_getElem
    · exact keysOf_length _ _
    · intro i h1 h2
      have hkb := hu m.ups[i] (List.getElem_mem h2)
      rw [keyB_iff] at hkb
      obtain ⟨k1, k2, k3⟩ := hkb
      have hd : m.ups.flatMap keyBytes = (m.ups.take i).flatMap keyBytes ++ (keyBytes m.ups[i] ++ (m.ups.drop (i + 1)).flatMap keyBytes) := by
        rw [← List.flatMap_cons, ← List.drop_eq_getElem_cons h2, ← List.flatMap_append, List.take_append_drop]
      have hA : (headBytes m.kind m.frm m.inc m.seq m.tgt m.ups.length ++ (m.ups.take i).flatMap keyBytes).length = 12 + 6 * i := by
        rw [List.length_append, head_length, keyBytes_length, List.length_take]; omega
      have q : keyOf bs (12 + 6 * i) = m.ups[i] := by
        have e0 : fieldN bs (12 + 6 * i) 1 = m.ups[i].id := by
          rw [split (headBytes m.kind m.frm m.inc m.seq m.tgt m.ups.length ++ (m.ups.take i).flatMap keyBytes) (be 1 m.ups[i].id) (be 4 m.ups[i].inc ++ be 1 m.ups[i].st ++ (m.ups.drop (i + 1)).flatMap keyBytes) (by rw [msgBytes, hd, keyBytes]; simp) _ 1 hA (be_length _ _)]
          exact num_be1 _ (by omega) (by omega)
        have e1 : fieldN bs (12 + 6 * i + 1) 4 = m.ups[i].inc := by
          rw [split (headBytes m.kind m.frm m.inc m.seq m.tgt m.ups.length ++ (m.ups.take i).flatMap keyBytes ++ be 1 m.ups[i].id) (be 4 m.ups[i].inc) (be 1 m.ups[i].st ++ (m.ups.drop (i + 1)).flatMap keyBytes) (by rw [msgBytes, hd, keyBytes]; simp) _ 4 (by rw [List.length_append, hA, be_length]) (be_length _ _)]
          exact num_be4 _ (by omega) (by omega)
        have e2 : fieldN bs (12 + 6 * i + 5) 1 = m.ups[i].st := by
          rw [split (headBytes m.kind m.frm m.inc m.seq m.tgt m.ups.length ++ (m.ups.take i).flatMap keyBytes ++ be 1 m.ups[i].id ++ be 4 m.ups[i].inc) (be 1 m.ups[i].st) ((m.ups.drop (i + 1)).flatMap keyBytes) (by rw [msgBytes, hd, keyBytes]; simp) _ 1 (by rw [List.length_append, List.length_append, hA, be_length, be_length]) (be_length _ _)]
          exact num_be1 _ (by omega) (by omega)
        rw [keyOf, e0, e1, e2]
      simp only [keysOf, List.getElem_map, List.getElem_range]
      exact q
  constructor
  · rw [rawMsg, f0, f1, f2, f6, f10, hn, hkeys]
  · unfold sizedB
    rw [hn, hlen]
    simp

theorem sized_mod {bs : List UInt8} (h : sizedB bs = true) : bs.length % 6 = 0 := by
  unfold sizedB at h
  simp only [Bool.and_eq_true, Bool.not_eq_true', decide_eq_false_iff_not, decide_eq_true_eq] at h
  omega
theorem decode_odd {bs : List UInt8} (h : bs.length % 6 ≠ 0) : decodeM bs = none := by
  unfold decodeM
  rw [if_neg (fun hh => h (sized_mod hh.1))]
end Go.Proofs.YtfngdplkcppabaaGreatDoor
