/-
  The plain law of the wire: a whole message's bytes read back to it, and what reads as a message is its bytes. No program in sight.
  A node's calls as plain data: what holds of a node holds behind each; what it sends are messages. No program in sight.
-/
import Derived.Test.YtfngdplkcppabaaGreatPart04
import Derived.Test.YtfngdplkcppabaaGreatPart02
set_option linter.all false
namespace Go.Proofs.YtfngdplkcppabaaGreat
open Go.RowKit

def toU8 (n : Int) : UInt8 := UInt8.ofNat n.toNat
theorem toU8_nat (b : UInt8) : toU8 (b.toNat : Int) = b := by simp [toU8]
theorem nat_toU8 (n : Int) (h0 : 0 ≤ n) (h1 : n < 256) : ((toU8 n).toNat : Int) = n := by
  simp only [toU8, UInt8.toNat_ofNat']
  omega
theorem strOfNums_list (xs : List Int) : (strOfNums xs).data.toList = xs.map toU8 := rfl

theorem num1 (a : UInt8) : numL [a] = a.toNat := by simp [numL]
theorem num4 (a b c d : UInt8) : numL [a, b, c, d] = ((a.toNat * 256 + b.toNat) * 256 + c.toNat) * 256 + d.toNat := by simp [numL]
theorem be1 (n : Int) : be 1 n = [n % 256] := by simp [be]
theorem be4 (n : Int) : be 4 n = [n / 16777216 % 256, n / 65536 % 256, n / 256 % 256, n % 256] := by simp [be]
theorem be1_num (a : UInt8) : be 1 (numL [a]) = [(a.toNat : Int)] := by
  have := a.toNat_lt
  rw [num1, be1]
  congr 1
  omega
theorem be4_num (a b c d : UInt8) : be 4 (numL [a, b, c, d]) = [(a.toNat : Int), (b.toNat : Int), (c.toNat : Int), (d.toNat : Int)] := by
  have := a.toNat_lt
  have := b.toNat_lt
  have := c.toNat_lt
  have := d.toNat_lt
  rw [num4, be4]
  simp only [List.cons.injEq, and_true]
  omega
theorem num_be1 (n : Int) (h0 : 0 ≤ n) (h1 : n < 256) : numL ((be 1 n).map toU8) = n := by
  rw [be1, List.map_singleton, num1, nat_toU8 _ (by omega) (by omega)]
  omega
theorem num_be4 (n : Int) (h0 : 0 ≤ n) (h1 : n < 4294967296) : numL ((be 4 n).map toU8) = n := by
  rw [be4]
  simp only [List.map_cons, List.map_nil]
  rw [num4, nat_toU8 _ (by omega) (by omega), nat_toU8 _ (by omega) (by omega), nat_toU8 _ (by omega) (by omega), nat_toU8 _ (by omega) (by omega)]
  omega

theorem take1_at {bs : List UInt8} {k : Nat} (h : k < bs.length) : (bs.drop k).take 1 = [bs[k]] := by
  rw [List.drop_eq_getElem_cons h]; rfl
theorem take4_at {bs : List UInt8} {k : Nat} (h : k + 3 < bs.length) : (bs.drop k).take 4 = [bs[k], bs[k + 1], bs[k + 2], bs[k + 3]] := by
  rw [List.drop_eq_getElem_cons (by omega), List.drop_eq_getElem_cons (by omega), List.drop_eq_getElem_cons (by omega), List.drop_eq_getElem_cons (by omega)]; rfl
theorem be_field1 {bs : List UInt8} {k : Nat} (h : k < bs.length) : (be 1 (fieldN bs k 1)).map toU8 = (bs.drop k).take 1 := by
  rw [fieldN, take1_at h, be1_num]; simp [toU8_nat]
theorem be_field4 {bs : List UInt8} {k : Nat} (h : k + 3 < bs.length) : (be 4 (fieldN bs k 4)).map toU8 = (bs.drop k).take 4 := by
  rw [fieldN, take4_at h, be4_num]; simp [toU8_nat]
theorem glue (bs : List UInt8) (k a b : Nat) : (bs.drop k).take a ++ (bs.drop (k + a)).take b = (bs.drop k).take (a + b) := by
  rw [List.take_add, List.drop_drop]
theorem keyBytes_of {bs : List UInt8} {o : Nat} (h : o + 5 < bs.length) : (keyBytes (keyOf bs o)).map toU8 = (bs.drop o).take 6 := by
  unfold keyBytes keyOf
  rw [List.map_append, List.map_append, be_field1 (by omega), be_field4 (by omega), be_field1 (by omega), glue, glue]
theorem keysBytes_of {bs : List UInt8} (n : Nat) (h : 12 + 6 * n ≤ bs.length) : ((keysOf bs n).flatMap keyBytes).map toU8 = (bs.drop 12).take (6 * n) := by
  induction n with
  | zero => simp [keysOf]
  | succ n ih =>
    have e : keysOf bs (n + 1) = keysOf bs n ++ [keyOf bs (12 + 6 * n)] := by simp [keysOf, List.range_succ]
    rw [e, List.flatMap_append, List.map_append, ih (by omega), List.flatMap_singleton, keyBytes_of (by omega), glue]
    rfl
theorem keysOf_length (bs : List UInt8) (n : Nat) : (keysOf bs n).length = n := by simp [keysOf]

/-- What reads as a message is its bytes. -/
theorem forth_plain {bs : List UInt8} (h : sizedB bs = true) : (msgBytes (rawMsg bs)).map toU8 = bs := by
  unfold sizedB at h
  simp only [Bool.and_eq_true, Bool.not_eq_true', decide_eq_false_iff_not, decide_eq_true_eq] at h
  obtain ⟨h1, h2⟩ := h
  have h11 : 11 < bs.length := by omega
  have hn : ((rawMsg bs).ups.length : Int) = fieldN bs 11 1 := by
    show ((keysOf bs (bs.getD 11 0).toNat).length : Int) = _
    rw [keysOf_length, fieldN, take1_at h11, num1]
    simp [List.getD, h11]
  unfold msgBytes headBytes
  rw [hn]
  show ((be 1 (fieldN bs 0 1) ++ be 1 (fieldN bs 1 1) ++ (be 4 (fieldN bs 2 4) ++ be 4 (fieldN bs 6 4)) ++ (be 1 (fieldN bs 10 1) ++ be 1 (fieldN bs 11 1)) ++ (keysOf bs (bs.getD 11 0).toNat).flatMap keyBytes)).map toU8 = bs
  simp only [List.map_append]
  rw [be_field1 (by omega), be_field1 (by omega), be_field4 (by omega), be_field4 (by omega), be_field1 (by omega), be_field1 (by omega), keysBytes_of _ (by omega)]
  have e1 := glue bs 0 1 1
  have e2 := glue bs 2 4 4
  have e3 := glue bs 10 1 1
  have e4 := glue bs 0 2 8
  have e5 := glue bs 0 10 2
  have e6 := glue bs 0 12 (6 * (bs.getD 11 0).toNat)
  simp only [Nat.zero_add, Nat.reduceAdd] at e1 e2 e3 e4 e5 e6
  rw [e1, e2, e3, e4, e5, e6, ← h2, List.drop_zero, List.take_length]

theorem withinB_iff {n lo hi : Int} : withinB n lo hi = true ↔ lo ≤ n ∧ n ≤ hi := by simp [withinB]
theorem keyB_iff {k : K} : keyB k = true ↔ (1 ≤ k.id ∧ k.id ≤ 250) ∧ (1 ≤ k.inc ∧ k.inc ≤ 1073741824) ∧ (1 ≤ k.st ∧ k.st ≤ 4) := by
  simp only [keyB, Bool.and_eq_true, withinB_iff, and_assoc]
theorem whole_fields {m : M} (h : wholeB m = true) : (1 ≤ m.kind ∧ m.kind ≤ 5) ∧ (1 ≤ m.frm ∧ m.frm ≤ 250) ∧ (1 ≤ m.inc ∧ m.inc ≤ 1073741824) ∧ (0 ≤ m.seq ∧ m.seq ≤ 4294967295) ∧ (0 ≤ m.tgt ∧ m.tgt ≤ 250) ∧ m.ups.length ≤ 8 ∧ ∀ k ∈ m.ups, keyB k = true := by
  have h8 : m.ups.length ≤ 8 ∧ -1 < roomI m.kind := by
    unfold wholeB at h
    simp only [Bool.and_eq_true, Bool.not_eq_true', decide_eq_false_iff_not] at h
    have h2 := h.1.1.1.1.2
    rcases roomI_cases m.kind with hr | hr | hr <;> rw [hr] at h2 ⊢ <;> omega
  have hk : 1 ≤ m.kind ∧ m.kind ≤ 5 := by
    have := h8.2
    unfold roomI at this
    split at this
    · omega
    · split at this <;> omega
  unfold wholeB tgtB at h
  simp only [Bool.and_eq_true, withinB_iff, List.all_eq_true] at h
  obtain ⟨⟨⟨⟨⟨ht, _⟩, h2⟩, h3⟩, h4⟩, h5⟩ := h
  refine ⟨hk, h2, h3, h4, ?_, h8.1, h5⟩
  split at ht
  · have := eq_of_beq ht; omega
  · rw [withinB_iff] at ht; omega

theorem flat_drop (l : List K) (i : Nat) (hi : i ≤ l.length) : (l.flatMap keyBytes).drop (6 * i) = (l.drop i).flatMap keyBytes := by
  induction i generalizing l with
  | zero => simp
  | succ i ih =>
    cases l with
    | nil => simp at hi
    | cons a l =>
      have hl : (keyBytes a).length = 6 := by simp [keyBytes, be]
      rw [List.flatMap_cons, List.drop_succ_cons, ← ih l (by simpa using hi), show 6 * (i + 1) = (keyBytes a).length + 6 * i by omega, ← List.drop_drop, List.drop_left]
theorem head_length (a b c d e f : Int) : (headBytes a b c d e f).length = 12 := by simp [headBytes, be]

theorem field_mid {bs A C : List UInt8} {x : List Int} {k wd : Nat} (h : bs = A ++ x.map toU8 ++ C) (hA : A.length = k) (hx : x.length = wd) : fieldN bs k wd = numL (x.map toU8) := by
  subst h hA hx
  rw [fieldN, List.append_assoc, List.drop_left, List.take_left' (by simp)]

/-- A whole message's bytes read back to it. -/
theorem back_plain {m : M} (h : wholeB m = true) : rawMsg ((msgBytes m).map toU8) = m ∧ sizedB ((msgBytes m).map toU8) = true := by
  obtain ⟨hk, hf, hi, hs, ht, hl, hu⟩ := whole_fields h
  obtain ⟨bs, hbs⟩ : ∃ bs, (msgBytes m).map toU8 = bs := ⟨_, rfl⟩
  rw [hbs]
  have hlen : bs.length = 12 + 6 * m.ups.length := by
    rw [← hbs, List.length_map, msgBytes, List.length_append, head_length, keyBytes_length]
  have split : ∀ (A x C : List Int), msgBytes m = A ++ x ++ C → ∀ k wd, A.length = k → x.length = wd → fieldN bs k wd = numL (x.map toU8) := by
    intro A x C e k wd hA hx
    refine field_mid (A := A.map toU8) (C := C.map toU8) ?_ (by simpa using hA) hx
    rw [← hbs, e, List.map_append, List.map_append]
  have hm : msgBytes m = be 1 m.kind ++ be 1 m.frm ++ (be 4 m.inc ++ be 4 m.seq) ++ (be 1 m.tgt ++ be 1 m.ups.length) ++ m.ups.flatMap keyBytes := rfl
  have f0 : fieldN bs 0 1 = m.kind := by
    rw [split [] (be 1 m.kind) (be 1 m.frm ++ (be 4 m.inc ++ be 4 m.seq) ++ (be 1 m.tgt ++ be 1 m.ups.length) ++ m.ups.flatMap keyBytes) (by rw [hm]; simp) 0 1 rfl (be_length _ _)]
    exact num_be1 _ (by omega) (by omega)
  have f1 : fieldN bs 1 1 = m.frm := by
    rw [split (be 1 m.kind) (be 1 m.frm) ((be 4 m.inc ++ be 4 m.seq) ++ (be 1 m.tgt ++ be 1 m.ups.length) ++ m.ups.flatMap keyBytes) (by rw [hm]; simp) 1 1 (be_length _ _) (be_length _ _)]
    exact num_be1 _ (by omega) (by omega)
  have f2 : fieldN bs 2 4 = m.inc := by
    rw [split (be 1 m.kind ++ be 1 m.frm) (be 4 m.inc) (be 4 m.seq ++ (be 1 m.tgt ++ be 1 m.ups.length) ++ m.ups.flatMap keyBytes) (by rw [hm]; simp) 2 4 (by simp [be_length]) (be_length _ _)]
    exact num_be4 _ (by omega) (by omega)
  have f6 : fieldN bs 6 4 = m.seq := by
    rw [split (be 1 m.kind ++ be 1 m.frm ++ be 4 m.inc) (be 4 m.seq) ((be 1 m.tgt ++ be 1 m.ups.length) ++ m.ups.flatMap keyBytes) (by rw [hm]; simp) 6 4 (by simp [be_length]) (be_length _ _)]
    exact num_be4 _ (by omega) (by omega)
  have f10 : fieldN bs 10 1 = m.tgt := by
    rw [split (be 1 m.kind ++ be 1 m.frm ++ (be 4 m.inc ++ be 4 m.seq)) (be 1 m.tgt) (be 1 m.ups.length ++ m.ups.flatMap keyBytes) (by rw [hm]; simp) 10 1 (by simp [be_length]) (be_length _ _)]
    exact num_be1 _ (by omega) (by omega)
  have f11 : fieldN bs 11 1 = m.ups.length := by
    rw [split (be 1 m.kind ++ be 1 m.frm ++ (be 4 m.inc ++ be 4 m.seq) ++ be 1 m.tgt) (be 1 m.ups.length) (m.ups.flatMap keyBytes) (by rw [hm]; simp) 11 1 (by simp [be_length]) (be_length _ _)]
    exact num_be1 _ (by omega) (by omega)
  have hn : (bs.getD 11 0).toNat = m.ups.length := by
    have h11 : 11 < bs.length := by omega
    rw [fieldN, take1_at h11, num1] at f11
    have e : bs.getD 11 0 = bs[11] := by simp [List.getD, h11]
    rw [e]
    omega
  have hkeys : keysOf bs m.ups.length = m.ups := by
    apply List.ext_getElem
    · exact keysOf_length _ _
    · intro i h1 h2
      have hkb := hu m.ups[i] (List.getElem_mem h2)
      rw [keyB_iff] at hkb
      obtain ⟨k1, k2, k3⟩ := hkb
      have hd : m.ups.flatMap keyBytes = (m.ups.take i).flatMap keyBytes ++ (keyBytes m.ups[i] ++ (m.ups.drop (i + 1)).flatMap keyBytes) := by
        rw [← List.flatMap_cons, ← List.drop_eq_getElem_cons h2, ← List.flatMap_append, List.take_append_drop]
      have hA : (headBytes m.kind m.frm m.inc m.seq m.tgt m.ups.length ++ (m.ups.take i).flatMap keyBytes).length = 12 + 6 * i := by
        rw [List.length_append, head_length, keyBytes_length, List.length_take]; omega
      have q : keyOf bs (12 + 6 * i) = m.ups[i] := by
        have e0 : fieldN bs (12 + 6 * i) 1 = m.ups[i].id := by
          rw [split (headBytes m.kind m.frm m.inc m.seq m.tgt m.ups.length ++ (m.ups.take i).flatMap keyBytes) (be 1 m.ups[i].id) (be 4 m.ups[i].inc ++ be 1 m.ups[i].st ++ (m.ups.drop (i + 1)).flatMap keyBytes) (by rw [msgBytes, hd, keyBytes]; simp) _ 1 hA (be_length _ _)]
          exact num_be1 _ (by omega) (by omega)
        have e1 : fieldN bs (12 + 6 * i + 1) 4 = m.ups[i].inc := by
          rw [split (headBytes m.kind m.frm m.inc m.seq m.tgt m.ups.length ++ (m.ups.take i).flatMap keyBytes ++ be 1 m.ups[i].id) (be 4 m.ups[i].inc) (be 1 m.ups[i].st ++ (m.ups.drop (i + 1)).flatMap keyBytes) (by rw [msgBytes, hd, keyBytes]; simp) _ 4 (by rw [List.length_append, hA, be_length]) (be_length _ _)]
          exact num_be4 _ (by omega) (by omega)
        have e2 : fieldN bs (12 + 6 * i + 5) 1 = m.ups[i].st := by
          rw [split (headBytes m.kind m.frm m.inc m.seq m.tgt m.ups.length ++ (m.ups.take i).flatMap keyBytes ++ be 1 m.ups[i].id ++ be 4 m.ups[i].inc) (be 1 m.ups[i].st) ((m.ups.drop (i + 1)).flatMap keyBytes) (by rw [msgBytes, hd, keyBytes]; simp) _ 1 (by rw [List.length_append, List.length_append, hA, be_length, be_length]) (be_length _ _)]
          exact num_be1 _ (by omega) (by omega)
        rw [keyOf, e0, e1, e2]
      simp only [keysOf, List.getElem_map, List.getElem_range]
      exact q
  constructor
  · rw [rawMsg, f0, f1, f2, f6, f10, hn, hkeys]
  · unfold sizedB
    rw [hn, hlen]
    simp

theorem sized_mod {bs : List UInt8} (h : sizedB bs = true) : bs.length % 6 = 0 := by
  unfold sizedB at h
  simp only [Bool.and_eq_true, Bool.not_eq_true', decide_eq_false_iff_not, decide_eq_true_eq] at h
  omega
theorem decode_odd {bs : List UInt8} (h : bs.length % 6 ≠ 0) : decodeM bs = none := by
  unfold decodeM
  rw [if_neg (fun hh => h (sized_mod hh.1))]
end Go.Proofs.YtfngdplkcppabaaGreat
namespace Go.Proofs.YtfngdplkcppabaaGreat
open Go.RowKit

theorem keyB_of {k : K} (h : keyOk k) : keyB k = true := keyB_iff.2 h
theorem keyOk_of {k : K} (h : keyB k = true) : keyOk k := keyB_iff.1 h
/-- What is sent, and to whom. -/
def PkOk (p : Pk) : Prop := wholeB p.2 = true ∧ idOk p.1
theorem whole_of {m : M} (hr : (m.kind = 1 ∨ m.kind = 2 ∨ m.kind = 3) ∧ idOk m.tgt ∧ m.ups.length ≤ 4 ∨ (m.kind = 4 ∨ m.kind = 5) ∧ m.tgt = 0 ∧ m.ups.length ≤ 8) (hf : idOk m.frm) (hi : 1 ≤ m.inc ∧ m.inc ≤ 1073741824) (hs : 0 ≤ m.seq ∧ m.seq ≤ 4294967295) (hu : ∀ k ∈ m.ups, keyOk k) : wholeB m = true := by
  have hall : m.ups.all keyB = true := List.all_eq_true.2 (fun k hk => keyB_of (hu k hk))
  have h1 : withinB m.frm 1 250 = true := withinB_iff.2 hf
  have h2 : withinB m.inc 1 1073741824 = true := withinB_iff.2 hi
  have h3 : withinB m.seq 0 4294967295 = true := withinB_iff.2 hs
  unfold wholeB
  rw [hall, h1, h2, h3]
  simp only [Bool.and_true, Bool.and_eq_true, Bool.not_eq_true', decide_eq_false_iff_not]
  rcases hr with ⟨hk, ht, hl⟩ | ⟨hk, ht, hl⟩
  · have hr : roomI m.kind = 4 := by unfold roomI; rw [if_pos hk]
    unfold tgtB
    rw [hr]
    refine ⟨?_, by omega⟩
    rw [if_neg (by omega)]
    exact withinB_iff.2 ht
  · have hr : roomI m.kind = 8 := by unfold roomI; rw [if_neg (by omega), if_pos hk]
    unfold tgtB
    rw [hr]
    refine ⟨?_, by omega⟩
    rw [if_pos rfl, ht]; rfl
theorem Ok.firstKeys {x : Nd} (h : Ok x) : ∀ k ∈ x.first.map (·.k), keyOk k := fun k hk => by
  obtain ⟨u, hu, rfl⟩ := List.mem_map.1 hk
  exact (h.qkey u (first_mem hu)).1
theorem Ok.low {x : Nd} (h : Ok x) {kind seq tgt : Int} (hk : kind = 1 ∨ kind = 2 ∨ kind = 3) (hs : 0 ≤ seq ∧ seq ≤ 4294967295) (ht : idOk tgt) (f i : Int) (l : List K) : wholeB (x.msg ⟨kind, f, i, seq, tgt, l⟩) = true := by
  have e : (x.msg ⟨kind, f, i, seq, tgt, l⟩).ups = x.first.map (·.k) := by
    show (if kind < 4 then x.first.map (·.k) else l) = _
    rw [if_pos (by omega)]
  refine whole_of (.inl ⟨hk, ht, by rw [e, List.length_map]; exact first_len x⟩) h.self.1 h.self.2.1 hs (by rw [e]; exact h.firstKeys)
theorem Ok.high {x : Nd} (h : Ok x) {kind seq : Int} (hk : kind = 4 ∨ kind = 5) (hs : 0 ≤ seq ∧ seq ≤ 4294967295) (f i : Int) {l : List K} (hl : l.length ≤ 8) (hu : ∀ k ∈ l, keyOk k) : wholeB (x.msg ⟨kind, f, i, seq, 0, l⟩) = true := by
  have e : (x.msg ⟨kind, f, i, seq, 0, l⟩).ups = l := by
    show (if kind < 4 then x.first.map (·.k) else l) = _
    rw [if_neg (by omega)]
  refine whole_of (.inr ⟨hk, rfl, by rw [e]; exact hl⟩) h.self.1 h.self.2.1 hs (by rw [e]; exact hu)

/-! ### next, pinged, acked, asked, joined -/
theorem Ok.next {x : Nd} (h : Ok x) : Ok x.next :=
  { h with
    rok := fun r hr => by obtain ⟨a, b⟩ := h.rok r hr; exact ⟨⟨a.1, by show r.seq ≤ x.seq + 1; omega⟩, b⟩
    prb := fun p hp => by obtain ⟨a, b, c⟩ := h.prb p hp; exact ⟨a, ⟨b.1, by show p.seq ≤ x.seq + 1; omega⟩, c⟩ }
theorem Bd.next {B : Int} {x : Nd} (h : Bd B x) : Bd (B + 1) x.next := by
  have := h.seq
  have k := h.mono (C := B + 1) (by omega)
  exact ⟨k.clock, ⟨by show 0 ≤ x.seq + 1; omega, by show x.seq + 1 ≤ B + 1; omega⟩, k.dropped, k.lost, k.at_⟩
theorem Ok.relaysOf {x : Nd} (h : Ok x) {l : List Rel} (hl : l.Sublist x.relays) : Ok { x with relays := l } :=
  { h with
    rnd := h.rnd.sublist (hl.map _)
    rlen := Nat.le_trans hl.length_le h.rlen
    rok := fun r hr => h.rok r (hl.subset hr) }
theorem Ok.probeOf {x : Nd} (h : Ok x) {p : Option Prb} (hp : ∀ q, p = some q → idOk q.tgt ∧ (1 ≤ q.seq ∧ q.seq ≤ x.seq) ∧ (0 ≤ q.start ∧ q.start ≤ x.clock)) : Ok { x with probe := p } := { h with prb := hp }
theorem Ok.ackProbe {x : Nd} (h : Ok x) (m : M) : Ok { x with probe := ackProbe x.probe m } := by
  refine h.probeOf (fun q hq => ?_)
  unfold Go.Proofs.YtfngdplkcppabaaGreat.ackProbe at hq
  cases hp : x.probe with
  | none => rw [hp] at hq; cases hq
  | some p =>
    rw [hp] at hq
    have := h.prb p hp
    simp only [Option.map_some, Option.some.injEq] at hq
    subst hq
    split
    · exact this
    · exact this
/-- What a message asks for is in range. -/
structure MOk (m : M) : Prop where
  frm : idOk m.frm
  inc : 1 ≤ m.inc ∧ m.inc ≤ 1073741824
  seq : 0 ≤ m.seq ∧ m.seq ≤ 4294967295
  tgt : (m.kind = 1 ∨ m.kind = 2 ∨ m.kind = 3) → idOk m.tgt
  kind : 1 ≤ m.kind ∧ m.kind ≤ 5
  len : m.ups.length ≤ 8
  ups : ∀ k ∈ m.ups, keyOk k
theorem mok_of {m : M} (h : wholeB m = true) : MOk m := by
  obtain ⟨h1, h2, h3, h4, h5, h6, h7⟩ := whole_fields h
  refine ⟨h2, h3, h4, fun hk => ?_, h1, h6, fun k hk => keyOk_of (h7 k hk)⟩
  unfold wholeB at h
  simp only [Bool.and_eq_true] at h
  have ht := h.1.1.1.1.1
  unfold tgtB at ht
  have hr : roomI m.kind = 4 := by unfold roomI; rw [if_pos hk]
  rw [hr, if_neg (by omega)] at ht
  exact withinB_iff.1 ht
/-- Behind a step: the node, and what it sent. -/
structure Good (B : Int) (r : List Pk × Nd) : Prop where
  ok : Ok r.2
  bd : Bd B r.2
  pks : ∀ p ∈ r.1, PkOk p
theorem Good.mono {B C : Int} {r : List Pk × Nd} (h : Good B r) (hc : B ≤ C) : Good C r := ⟨h.ok, h.bd.mono hc, h.pks⟩
theorem Good.nil {B : Int} {x : Nd} (h : Ok x) (hb : Bd B x) : Good B ([], x) := ⟨h, hb, by simp⟩
theorem good_low {B : Int} {x : Nd} (h : Ok x) (hb : Bd B x) {to kind seq tgt : Int} (hto : idOk to) (hk : kind = 1 ∨ kind = 2 ∨ kind = 3) (hs : 0 ≤ seq ∧ seq ≤ 4294967295) (ht : idOk tgt) :
    Good B ([(to, x.msg ⟨kind, 0, 0, seq, tgt, []⟩)], x.sent ⟨kind, 0, 0, seq, tgt, []⟩) :=
  ⟨h.sent _, hb.sent _, fun p hp => by rw [List.mem_singleton] at hp; subst hp; exact ⟨h.low hk hs ht _ _ _, hto⟩⟩
theorem good_pinged {B : Int} {x : Nd} (h : Ok x) (hb : Bd B x) {m : M} (hm : MOk m) (hk : m.kind = 1 ∨ m.kind = 3) : Good B (x.pinged m) := by
  unfold Nd.pinged
  split
  · exact good_low h hb hm.frm (.inr (.inl rfl)) hm.seq (hm.tgt (by omega))
  · exact Good.nil h hb
theorem good_acked {B : Int} {x : Nd} (h : Ok x) (hb : Bd B x) {m : M} : Good B (x.acked m) := by
  have h1 := h.ackProbe m
  have hb1 : Bd B { x with probe := ackProbe x.probe m } := ⟨hb.clock, hb.seq, hb.dropped, hb.lost, hb.at_⟩
  unfold Nd.acked
  simp only
  cases hf : x.relays.find? (fun r => r.seq == m.seq && r.tgt == m.tgt) with
  | none => exact Good.nil h1 hb1
  | some r =>
    simp only
    have hr := h.rok r (List.mem_of_find?_eq_some hf)
    have h2 : Ok { x with probe := ackProbe x.probe m, relays := x.relays.filter (fun r => !(r.seq == m.seq)) } := h1.relaysOf List.filter_sublist
    have hb2 : Bd B { x with probe := ackProbe x.probe m, relays := x.relays.filter (fun r => !(r.seq == m.seq)) } := ⟨hb.clock, hb.seq, hb.dropped, hb.lost, hb.at_⟩
    exact good_low h2 hb2 hr.2.2.1 (.inr (.inl rfl)) hr.2.2.2.1 hr.2.1
theorem cfg_bounds {c : Cfg} (h : cfgB c = true) : (1 ≤ c.self ∧ c.self ≤ 250) ∧ (4 ≤ c.period ∧ c.period ≤ 50) ∧ (1 ≤ c.wait ∧ c.wait ≤ c.period - 2) ∧ (1 ≤ c.susp ∧ c.susp ≤ 500) ∧ (0 ≤ c.prox ∧ c.prox ≤ 3) ∧ (1 ≤ c.sends ∧ c.sends ≤ 8) := by
  simp only [cfgB, withinB, Bool.and_eq_true, decide_eq_true_eq] at h
  omega
theorem good_asked {B : Int} {x : Nd} (h : Ok x) (hb : Bd B x) (hB : B ≤ 4000000000) {m : M} (hm : MOk m) (hk : m.kind = 3) : Good (B + 1) (x.asked m) := by
  unfold Nd.asked
  split
  · exact (good_pinged h hb hm (.inr hk)).mono (by omega)
  · split
    · exact (Good.nil h hb).mono (by omega)
    · rename_i hn hl
      have hc := cfg_bounds h.cfg
      have hs := hb.seq
      have hcl := hb.clock
      have h1 : Ok { x.next with relays := x.relays ++ [⟨x.seq + 1, m.tgt, m.frm, m.seq, x.clock + x.c.period⟩] } :=
        { h.next with
          rnd := by
            show (rids (x.relays ++ [_])).Nodup
            simp only [rids, List.map_append, List.map_cons, List.map_nil]
            rw [List.nodup_append]
            refine ⟨h.rnd, by simp, fun a ha b hb' hab => ?_⟩
            obtain ⟨r, hr, rfl⟩ := List.mem_map.1 ha
            have := (h.rok r hr).1
            simp only [List.mem_singleton] at hb'
            omega
          rlen := by
            show (x.relays ++ [_]).length ≤ 4
            have := h.rlen
            rw [List.length_append, List.length_singleton]; omega
          rok := fun r hr => by
            have hr : r ∈ x.relays ++ [⟨x.seq + 1, m.tgt, m.frm, m.seq, x.clock + x.c.period⟩] := hr
            rcases List.mem_append.1 hr with hr | hr
            · exact h.next.rok r hr
            · rw [List.mem_singleton] at hr
              subst hr
              exact ⟨⟨by show 1 ≤ x.seq + 1; omega, Int.le_refl _⟩, hm.tgt (.inr (.inr hk)), hm.frm, hm.seq, by show 0 ≤ x.clock + x.c.period; omega, by show x.clock + x.c.period ≤ x.clock + 50; omega⟩ }
      have hb1 := hb.next
      have hb2 : Bd (B + 1) { x.next with relays := x.relays ++ [⟨x.seq + 1, m.tgt, m.frm, m.seq, x.clock + x.c.period⟩] } := ⟨hb1.clock, hb1.seq, hb1.dropped, hb1.lost, hb1.at_⟩
      exact good_low h1 hb2 (hm.tgt (.inr (.inr hk))) (.inl rfl) (by omega) (hm.tgt (.inr (.inr hk)))
theorem putK_len (k : K) (l : List K) : (putK k l).length = l.length + 1 := by
  induction l with
  | nil => rfl
  | cons a r ih => unfold putK; split; · simp [ih]
                   simp
theorem mem_putK {k a : K} {l : List K} : a ∈ putK k l ↔ a = k ∨ a ∈ l := by
  induction l with
  | nil => simp [putK]
  | cons b r ih => unfold putK; split; · simp only [List.mem_cons, ih]; exact ⟨fun h => by rcases h with h | h | h <;> simp [h], fun h => by rcases h with h | h | h <;> simp [h]⟩
                   simp
theorem good_joined {B : Int} {x : Nd} (h : Ok x) (hb : Bd B x) {m : M} (hm : MOk m) : Good B (x.joined m) := by
  refine ⟨h, hb, fun p hp => ?_⟩
  unfold Nd.joined at hp
  simp only [List.mem_singleton] at hp
  subst hp
  refine ⟨h.high (.inr rfl) hm.seq _ _ (by rw [putK_len, List.length_map]; have := h.len; omega) (fun k hk => ?_), hm.frm⟩
  rcases mem_putK.1 hk with rfl | hk
  · exact h.self
  · obtain ⟨m, hm, rfl⟩ := List.mem_map.1 hk
    exact h.key m hm
theorem good_answer {B : Int} {x : Nd} (h : Ok x) (hb : Bd B x) (hB : B ≤ 4000000000) {m : M} (hm : MOk m) : Good (B + 1) (x.answer m) := by
  unfold Nd.answer
  split
  · rename_i e
    exact (good_pinged h hb hm (.inl e)).mono (by omega)
  · split
    · exact (good_acked h hb).mono (by omega)
    · split
      · rename_i e
        exact good_asked h hb hB hm e
      · split
        · exact (good_joined h hb hm).mono (by omega)
        · exact (Good.nil h hb).mono (by omega)
theorem ok_heardAll {x : Nd} (h : Ok x) (h0 : 0 ≤ x.clock) {m : M} (hm : MOk m) : Ok (x.heardAll m) :=
  (h.hear h0 (k := ⟨m.frm, m.inc, 1⟩) ⟨hm.frm, hm.inc, by show (1 : Int) ≤ 1 ∧ (1 : Int) ≤ 4; omega⟩).hears (by rw [(same_hear _ _).clock]; exact h0) _ hm.ups
theorem bd_heardAll {B : Int} {x : Nd} (h : Bd B x) {m : M} (hm : MOk m) : Bd (B + 9) (x.heardAll m) :=
  (Bd.hears m.ups (h.hear ⟨m.frm, m.inc, 1⟩)).mono (by have := hm.len; omega)
theorem good_receive {B : Int} {x : Nd} (h : Ok x) (hb : Bd B x) (hB : B ≤ 3999999000) (o : Option M) (hm : ∀ m, o = some m → MOk m) : Good (B + 10) (x.receive o) := by
  have hd : Good (B + 10) ([], { x with dropped := x.dropped + 1 }) := by
    have := hb.dropped
    have k := hb.mono (C := B + 10) (by omega)
    exact ⟨{ h with }, ⟨k.clock, k.seq, ⟨by show 0 ≤ x.dropped + 1; omega, by show x.dropped + 1 ≤ B + 10; omega⟩, k.lost, k.at_⟩, by simp⟩
  unfold Nd.receive
  cases o with
  | none => exact hd
  | some m =>
    simp only
    split
    · exact hd
    · have hm := hm m rfl
      exact (good_answer (ok_heardAll h hb.clock.1 hm) (bd_heardAll hb hm) (by omega) hm).mono (by omega)
theorem good_join {B : Int} {x : Nd} (h : Ok x) (hb : Bd B x) (hB : B ≤ 4000000000) (n : Int) : Good (B + 1) ((x.join n).1, (x.join n).2.2) := by
  unfold Nd.join
  split
  · exact (Good.nil h hb).mono (by omega)
  · split
    · exact (Good.nil h hb).mono (by omega)
    · rename_i h1 h2
      have hs := hb.seq
      refine ⟨h.next, hb.next, fun p hp => ?_⟩
      simp only [List.mem_singleton] at hp
      subst hp
      exact ⟨h.next.high (.inl rfl) (by omega) _ _ (by simp) (by simp), by unfold idOk; omega⟩
theorem ok_leave {x : Nd} (h : Ok x) : Ok x.leave.2 := by
  unfold Nd.leave
  split
  · exact h
  · have hs : keyOk { x.self with st := 4 } := ⟨h.self.1, h.self.2.1, by show (1 : Int) ≤ 4 ∧ (4 : Int) ≤ 4; omega⟩
    have h' : Ok { x with self := { x.self with st := 4 } } := { h with self := hs }
    exact h'.changed hs (.inl rfl)
theorem bd_changed {B : Int} {x : Nd} (h : Bd B x) (k : K) : Bd (B + 1) (x.changed k) := by
  have hl := lost_changed x k
  have h4 := h.lost
  have m := h.mono (C := B + 1) (by omega)
  exact ⟨m.clock, m.seq, m.dropped, by omega, m.at_⟩
theorem bd_leave {B : Int} {x : Nd} (h : Bd B x) : Bd (B + 1) x.leave.2 := by
  unfold Nd.leave
  split
  · exact h.mono (by omega)
  · exact bd_changed (x := { x with self := { x.self with st := 4 } }) ⟨h.clock, h.seq, h.dropped, h.lost, h.at_⟩ _

/-! ### the tick -/
theorem ok_draw {x : Nd} (h : Ok x) (n : Int) : Ok (x.draw n).2 := by
  unfold Nd.draw; split
  · exact h
  · exact { h with }
theorem bd_draw {B : Int} {x : Nd} (h : Bd B x) (n : Int) : Bd (B + 1) (x.draw n).2 := by
  have m := h.mono (C := B + 1) (by omega)
  unfold Nd.draw; split
  · exact m
  · have := h.at_
    exact ⟨m.clock, m.seq, m.dropped, m.lost, by show ((x.at_ + 1 : Nat) : Int) ≤ B + 1; omega⟩
theorem draw_range (x : Nd) {n : Int} (hn : 0 < n) : 0 ≤ (x.draw n).1 ∧ (x.draw n).1 < n := by
  unfold Nd.draw; split
  · exact ⟨Int.le_refl _, hn⟩
  · exact ⟨Int.emod_nonneg _ (by omega), Int.emod_lt_of_pos _ hn⟩
/-- A draw leaves all but how many were drawn. -/
theorem draw_eq (x : Nd) (n : Int) : ∃ k, (x.draw n).2 = { x with at_ := k } := by
  unfold Nd.draw; split
  · exact ⟨x.at_, rfl⟩
  · exact ⟨_, rfl⟩
theorem good_askAll (p : Prb) (hp : idOk p.tgt ∧ 0 ≤ p.seq ∧ p.seq ≤ 4294967295) : ∀ (n : Nat) (l : List Int) {B : Int} {x : Nd}, Ok x → Bd B x → (∀ i ∈ l, idOk i) → Good (B + n) (Nd.askAll p n l x) := by
  intro n
  induction n with
  | zero => intro l B x h hb _; exact (Good.nil h hb).mono (by omega)
  | succ n ih =>
    intro l B x h hb hl
    unfold Nd.askAll
    split
    · exact (Good.nil h hb).mono (by omega)
    · rename_i hne
      simp only
      have hlen : 0 < l.length := List.length_pos_iff.2 hne
      obtain ⟨d0, d1⟩ := draw_range x (n := (l.length : Int)) (by omega)
      have hd : (x.draw l.length).1.toNat < l.length := by omega
      have hg := good_low (ok_draw h (l.length : Int)) (bd_draw hb (l.length : Int)) (to := l.getD (x.draw l.length).1.toNat 0) (kind := 3) (seq := p.seq) (tgt := p.tgt)
        (hl _ (by rw [List.getD_eq_getElem?_getD, List.getElem?_eq_getElem hd]; exact List.getElem_mem hd)) (.inr (.inr rfl)) hp.2 hp.1
      have hr := ih (l.eraseIdx (x.draw l.length).1.toNat) hg.ok hg.bd (fun i hi => hl i (List.mem_of_mem_eraseIdx hi))
      refine ⟨hr.ok, hr.bd.mono (by omega), fun q hq => ?_⟩
      rcases List.mem_cons.1 hq with rfl | hq
      · exact hg.pks _ (by simp)
      · exact hr.pks q hq
theorem Ok.ids_ok {x : Nd} (h : Ok x) {n : Int} (hn : n ∈ ids x.others) : idOk n := by
  obtain ⟨m, hm, rfl⟩ := mem_ids.1 hn
  exact (h.key m hm).1
theorem helpers_in {x : Nd} {p : Prb} {n : Int} (h : n ∈ x.helpers p) : n ∈ ids x.others := by
  obtain ⟨m, hm, rfl⟩ := List.mem_map.1 h
  exact mem_ids.2 ⟨m, (List.mem_filter.1 hm).1, rfl⟩
theorem ok_endProbe {x : Nd} (h : Ok x) (hc : 0 ≤ x.clock) (p : Prb) : Ok (x.endProbe p) := by
  have h1 : Ok { x with probe := none } := h.probeOf (fun q hq => by cases hq)
  unfold Nd.endProbe
  split
  · exact h
  · simp only
    split
    · exact h1
    · rename_i m hf
      split
      · obtain ⟨hm, e⟩ := findM_some hf
        exact h1.hear hc ⟨(h.key m hm).1, (h.key m hm).2.1, by show (1 : Int) ≤ 2 ∧ (2 : Int) ≤ 4; omega⟩
      · exact h1
theorem bd_endProbe {B : Int} {x : Nd} (h : Bd B x) (p : Prb) : Bd (B + 1) (x.endProbe p) := by
  have h1 : Bd B { x with probe := none } := ⟨h.clock, h.seq, h.dropped, h.lost, h.at_⟩
  unfold Nd.endProbe
  split
  · exact h.mono (by omega)
  · simp only
    split
    · exact h1.mono (by omega)
    · split
      · exact h1.hear _
      · exact h1.mono (by omega)
theorem good_waits {B : Int} {x : Nd} (h : Ok x) (hb : Bd B x) (hB : B ≤ 4000000000) : Good (B + 4) x.waits := by
  unfold Nd.waits
  cases hp : x.probe with
  | none => exact (Good.nil h hb).mono (by omega)
  | some p =>
    simp only
    obtain ⟨p1, p2, p3⟩ := h.prb p hp
    have hs := hb.seq
    have hc := cfg_bounds h.cfg
    have hg : Good (B + 3) (if x.clock - p.start = x.c.wait ∧ p.acked = false then Nd.askAll p x.c.prox.toNat (x.helpers p) x else ([], x)) := by
      split
      · exact (good_askAll p ⟨p1, by omega, by omega⟩ _ _ h hb (fun i hi => h.ids_ok (helpers_in hi))).mono (by omega)
      · exact (Good.nil h hb).mono (by omega)
    exact ⟨ok_endProbe hg.ok hg.bd.clock.1 p, (bd_endProbe hg.bd p).mono (by omega), hg.pks⟩
theorem swapL_len (l : List Int) (i j : Nat) : (swapL l i j).length = l.length := by simp [swapL]
theorem swapL_perm {l : List Int} {i j : Nat} (hi : i < l.length) (hj : j < l.length) : (swapL l i j).Perm l := by
  unfold swapL
  have ei : l.getD i 0 = l[i] := by simp [hi]
  have ej : l.getD j 0 = l[j] := by simp [hj]
  rw [ei, ej]
  exact List.set_set_perm hi hj
theorem mix_perm (i : Nat) : ∀ (l : List Int) {x : Nd}, Ok x → (i < l.length ∨ i = 0) → (Nd.mix i l x).1.Perm l ∧ Ok (Nd.mix i l x).2 ∧ ∃ k, (Nd.mix i l x).2 = { x with at_ := k } := by
  induction i with
  | zero => intro l x h _; exact ⟨List.Perm.refl _, h, x.at_, rfl⟩
  | succ i ih =>
    intro l x h hl
    unfold Nd.mix
    have hl : i + 1 < l.length := by omega
    obtain ⟨d0, d1⟩ := draw_range x (n := ((i : Int) + 2)) (by omega)
    obtain ⟨h1, h2, k, hk⟩ := ih (swapL l (i + 1) (x.draw (i + 2)).1.toNat) (ok_draw h _) (.inl (by rw [swapL_len]; omega))
    refine ⟨h1.trans (swapL_perm hl (by omega)), h2, k, ?_⟩
    obtain ⟨k', hk'⟩ := draw_eq x ((i : Int) + 2)
    rw [hk, hk']
theorem mix_all (i : Nat) : ∀ (l : List Int) {B : Int} {x : Nd}, Ok x → Bd B x → (i < l.length ∨ i = 0) → (Nd.mix i l x).1.Perm l ∧ Ok (Nd.mix i l x).2 ∧ Bd (B + i) (Nd.mix i l x).2 ∧ ∃ k, (Nd.mix i l x).2 = { x with at_ := k } := by
  induction i with
  | zero => intro l B x h hb _; exact ⟨List.Perm.refl _, h, hb.mono (by omega), x.at_, rfl⟩
  | succ i ih =>
    intro l B x h hb hl
    unfold Nd.mix
    have hl : i + 1 < l.length := by omega
    obtain ⟨d0, d1⟩ := draw_range x (n := ((i : Int) + 2)) (by omega)
    obtain ⟨h1, h2, h3, k, hk⟩ := ih (swapL l (i + 1) (x.draw (i + 2)).1.toNat) (ok_draw h _) (bd_draw hb _) (.inl (by rw [swapL_len]; omega))
    refine ⟨h1.trans (swapL_perm hl (by omega)), h2, h3.mono (by omega), k, ?_⟩
    obtain ⟨k', hk'⟩ := draw_eq x ((i : Int) + 2)
    rw [hk, hk']
theorem hereIds_in {x : Nd} {n : Int} (h : n ∈ (x.others.filter here).map (·.k.id)) : n ∈ ids x.others := by
  obtain ⟨m, hm, rfl⟩ := List.mem_map.1 h
  exact mem_ids.2 ⟨m, (List.mem_filter.1 hm).1, rfl⟩
theorem newPass_all {B : Int} {x : Nd} (h : Ok x) (hb : Bd B x) : Ok x.newPass ∧ Bd (B + 7) x.newPass ∧ (∃ k l, x.newPass = { x with at_ := k, pass := l }) ∧
    (x.pass = [] → x.newPass.pass.Perm ((x.others.filter here).map (·.k.id))) ∧ (x.pass ≠ [] → x.newPass = x) := by
  unfold Nd.newPass
  split
  · rename_i e
    simp only
    have hlen : ((x.others.filter here).map (·.k.id)).length ≤ 7 := by
      rw [List.length_map]
      exact Nat.le_trans (List.length_filter_le _ _) h.len
    obtain ⟨h1, h2, h3, k, hk⟩ := mix_all (((x.others.filter here).map (·.k.id)).length - 1) ((x.others.filter here).map (·.k.id)) h hb (by omega)
    refine ⟨?_, ?_, ⟨k, _, by rw [hk]⟩, fun _ => h1, fun hne => absurd e hne⟩
    · exact { h2 with
        pin := fun n hn => by
          have := hereIds_in (h1.mem_iff.1 hn)
          rw [hk]; exact this
        pnd := by show (Nd.mix _ _ x).1.length ≤ 7; rw [h1.length_eq]; exact hlen }
    · exact ⟨h3.mono (C := B + 7) (by omega) |>.clock, h3.mono (C := B + 7) (by omega) |>.seq, h3.mono (C := B + 7) (by omega) |>.dropped, h3.mono (C := B + 7) (by omega) |>.lost, h3.mono (C := B + 7) (by omega) |>.at_⟩
  · rename_i e
    exact ⟨h, hb.mono (by omega), ⟨x.at_, x.pass, rfl⟩, fun e' => absurd e' e, fun _ => rfl⟩
theorem good_begins {B : Int} {x : Nd} (h : Ok x) (hb : Bd B x) (hB : B ≤ 4000000000) : Good (B + 8) x.begins := by
  obtain ⟨h1, h2, _⟩ := newPass_all h hb
  unfold Nd.begins
  simp only
  generalize x.newPass = y at h1 h2
  cases hp : y.pass with
  | nil => exact (Good.nil h1 h2).mono (by omega)
  | cons t rest =>
    simp only
    have hs := h2.seq
    have hcl := h2.clock
    have hin : ∀ n ∈ t :: rest, n ∈ ids y.others := fun n hn => h1.pin n (by rw [hp]; exact hn)
    have ht : idOk t := h1.ids_ok (hin t (by simp))
    have h3 : Ok { y.next with pass := rest, probe := some ⟨t, y.seq + 1, y.clock, false⟩ } :=
      { h1.next with
        pin := fun n hn => hin n (List.mem_cons_of_mem _ hn)
        pnd := by have := h1.pnd; rw [hp, List.length_cons] at this; show rest.length ≤ 7; omega
        prb := fun p hp => by
          cases hp
          exact ⟨ht, ⟨by show 1 ≤ y.seq + 1; omega, Int.le_refl _⟩, hcl.1, Int.le_refl _⟩ }
    have h4 := h2.next
    have h5 : Bd (B + 8) { y.next with pass := rest, probe := some ⟨t, y.seq + 1, y.clock, false⟩ } := ⟨(h4.mono (C := B + 8) (by omega)).clock, (h4.mono (C := B + 8) (by omega)).seq, (h4.mono (C := B + 8) (by omega)).dropped, (h4.mono (C := B + 8) (by omega)).lost, (h4.mono (C := B + 8) (by omega)).at_⟩
    exact good_low h3 h5 ht (.inl rfl) (by omega) ht
theorem foldl_hears (l : List Mem) (st : Int) (x : Nd) : l.foldl (fun y m => y.hear ⟨m.k.id, m.k.inc, st⟩) x = (l.map (fun m => (⟨m.k.id, m.k.inc, st⟩ : K))).foldl Nd.hear x := by
  induction l generalizing x with
  | nil => rfl
  | cons a r ih => exact ih _
theorem clocked_all {B : Int} {x : Nd} (h : Ok x) (hb : Bd B x) : Ok x.clocked ∧ Bd (B + 8) x.clocked := by
  have h1 : Ok { x with clock := x.clock + 1, relays := x.relays.filter (fun r => decide (x.clock + 1 < r.ends)) } :=
    { h.relaysOf (l := x.relays.filter (fun r => decide (x.clock + 1 < r.ends))) List.filter_sublist with
      rok := fun r hr => by
        obtain ⟨a, b, c, d, e⟩ := h.rok r (List.mem_filter.1 hr).1
        exact ⟨a, b, c, d, e.1, by show r.ends ≤ x.clock + 1 + 50; omega⟩
      prb := fun p hp => by
        obtain ⟨a, b, c⟩ := h.prb p hp
        exact ⟨a, b, c.1, by show p.start ≤ x.clock + 1; omega⟩
      due := fun m hm => by
        have := h.due m hm
        exact ⟨this.1, by show m.due ≤ x.clock + 1 + 500; omega⟩ }
  have hcl := hb.clock
  have k := hb.mono (C := B + 1) (by omega)
  have h2 : Bd (B + 1) { x with clock := x.clock + 1, relays := x.relays.filter (fun r => decide (x.clock + 1 < r.ends)) } :=
    ⟨⟨by show 0 ≤ x.clock + 1; omega, by show x.clock + 1 ≤ B + 1; omega⟩, k.seq, k.dropped, k.lost, k.at_⟩
  have hdl : (Nd.due { x with clock := x.clock + 1, relays := x.relays.filter (fun r => decide (x.clock + 1 < r.ends)) }).length ≤ 7 := Nat.le_trans (List.length_filter_le _ _) h.len
  unfold Nd.clocked
  simp only
  rw [foldl_hears]
  refine ⟨h1.hears (by show 0 ≤ x.clock + 1; omega) _ (fun k hk => ?_), (Bd.hears _ h2).mono ?_⟩
  · obtain ⟨m, hm, rfl⟩ := List.mem_map.1 hk
    have := h.key m (List.mem_filter.1 hm).1
    exact ⟨this.1, this.2.1, by show (1 : Int) ≤ 3 ∧ (3 : Int) ≤ 4; omega⟩
  · rw [List.length_map]; omega
theorem good_tick {B : Int} {x : Nd} (h : Ok x) (hb : Bd B x) (hB : B ≤ 3999999000) : Good (B + 20) x.tick := by
  obtain ⟨h1, h2⟩ := clocked_all h hb
  have h3 := good_waits h1 h2 (by omega)
  unfold Nd.tick
  simp only
  split
  · have h4 := good_begins h3.ok h3.bd (by omega)
    refine ⟨h4.ok, h4.bd.mono (by omega), fun p hp => ?_⟩
    rcases List.mem_append.1 hp with hp | hp
    · exact h3.pks p hp
    · exact h4.pks p hp
  · exact h3.mono (by omega)
theorem ok_new {c : Cfg} (hc : cfgB c = true) (ds : List Int) : Ok (Nd.new c ds) := by
  have h := cfg_bounds hc
  have h1 : keyOk (Nd.new c ds).self := ⟨h.1, by show (1 : Int) ≤ 1 ∧ (1 : Int) ≤ 1073741824; omega, by show (1 : Int) ≤ 1 ∧ (1 : Int) ≤ 4; omega⟩
  constructor
  · exact hc
  · rfl
  · exact h1
  · exact List.Pairwise.nil
  all_goals simp [Nd.new, uids, rids]
theorem bd_new (c : Cfg) (ds : List Int) : Bd 0 (Nd.new c ds) := by constructor <;> simp [Nd.new]
end Go.Proofs.YtfngdplkcppabaaGreat
