/-
  gossiplaw: owner: a text turned, a packet lost; the other kinds.
-/
import Derived.Test.YtfngdplkcppabaaGreatDoorOwnerB
import Derived.Laws.IdiomStrings
namespace Go.Proofs.YtfngdplkcppabaaGreatDoor
open Go.RowKit

/-- Block g holds n bytes. -/
def BytesAt (w : World) (g n : Nat) (xs : List Int) : Prop := xs.length = n ∧ ∃ cs : Array Value, w.heap[g]? = some (.cells cs 5 (cs.size, cs.size + 1)) ∧ n ≤ cs.size ∧ ∀ i, i < n → cs[i]? = some (.int .u8 (xs.getD i 0))
theorem BytesAt.cell {w : World} {g n : Nat} {xs : List Int} (h : BytesAt w g n xs) {i : Nat} (hi : i < n) : w.cell? ⟨g, i, none⟩ = some (.int .u8 (xs.getD i 0)) := by
  obtain ⟨_, cs, hg, _, hc⟩ := h; rw [cells_at hg]; exact hc i hi
theorem BytesAt.free {w : World} {g n : Nat} {xs : List Int} (h : BytesAt w g n xs) {i : Nat} (hi : i < n) : w.frozen? ⟨g, i, none⟩ = false := by
  obtain ⟨_, cs, hg, hs, _⟩ := h
  simp only [World.frozen?, hg]
  simp; omega
theorem BytesAt.set {w : World} {g n : Nat} {xs : List Int} (h : BytesAt w g n xs) {i : Nat} (hi : i < n) (v : Int) : BytesAt (w.setCell ⟨g, i, none⟩ (.int .u8 v)) g n (xs.set i v) := by
  obtain ⟨hl, cs, hg, hs, hc⟩ := h
  refine ⟨by rw [List.length_set]; exact hl, cs.setIfInBounds i (.int .u8 v), ?_, by simpa using hs, fun j hj => ?_⟩
  · have := heap_setCell_eq (i := i) (v := .int .u8 v) hg
    simpa using this
  · rw [Array.getElem?_setIfInBounds]
    by_cases e : i = j
    · subst e
      rw [if_pos rfl, if_pos (by omega)]
      simp [List.getD, hl, hj]
    · rw [if_neg e, hc j hj]
      simp [List.getD, e]
theorem BytesAt.heap {w w' : World} {g n : Nat} {xs : List Int} (h : BytesAt w g n xs) (e : w'.heap[g]? = w.heap[g]?) : BytesAt w' g n xs := by
  obtain ⟨hl, cs, hg, r⟩ := h; exact ⟨hl, cs, e.trans hg, r⟩
theorem BytesAt.lt {w : World} {g n : Nat} {xs : List Int} (h : BytesAt w g n xs) : g < w.heap.size := by obtain ⟨_, cs, hg, _⟩ := h; exact heap_lt hg
/-- []byte(s). -/
theorem bytes_of (s : ByteArray) (w : World) : ∃ cap, ∃ w', (convert 9 56 (.string s)).run Tryz.prog w = .ok (.slice (some ⟨w.heap.size, 0, none⟩) s.size cap) w' ∧ Below w.heap.size w w' ∧ w'.heap.size = w.heap.size + 1 ∧ ∃ xs, BytesAt w' w.heap.size s.size xs := by
  have hr := run_bytes_of_string (P := Tryz.prog) w 9 56 5 s Tryz.underlying9 Tryz.underlying56 Tryz.underlying5
  refine ⟨_, _, hr, ((Below.refl _ _).drew).alloc (Nat.le_refl _) _, by simp, (List.range s.size).map (fun i => ((s.data.getD i 0).toNat : Int)), by simp, _, heap_alloc_eq w.drew _, ?_, fun i hi => ?_⟩
  · simp [bytesRow]
  · have hi' : i < s.data.size := hi
    simp only [bytesRow]
    rw [Array.getElem?_append_left (by simpa using hi')]
    simp [List.getD, hi, Array.getD]
/-- string(b). -/
theorem bytes_back {w : World} {g n cap : Nat} {xs : List Int} (h : BytesAt w g n xs) : (convert 56 9 (.slice (some ⟨g, 0, none⟩) n cap)).run Tryz.prog w = .ok (.string (strOfNums xs)) w := by
  refine run_convert_bytes_arg _ _ 5 Tryz.underlying56 Tryz.underlying5 g 0 n cap xs h.1 (fun i hi => ?_) _ Tryz.underlying9
  rw [Nat.zero_add]; exact h.cell hi

theorem Below.andChg {S : Nat → Obj → Prop} {w w1 w' : World} (hb : Below w.heap.size w w1) (h : Chg S w1 w') : Chg S w w' :=
  ⟨h.os.trans hb.os, h.tape.trans hb.tape, h.output.trans hb.output, Nat.le_trans hb.size h.size, fun k o hk hs => h.kept k o ((hb.block k (heap_lt hk)).trans hk) hs⟩

set_option maxRecDepth 100000 in
set_option maxHeartbeats 1000000 in
theorem owner_turn (B0 b n : Nat) (w : World) (f : Nat → Value) (d : Sd) (h : SAt B0 b n w f d) (o : Sop) (ho : o.Ok) (hk : o.kind = 2) (hn : n ≤ 100000) :
    Calls Tryz.prog 11 #[.pointer (some ⟨b, 0, none⟩), o.v] w (OwnPost B0 b n w f) := by
  obtain ⟨kind, x, oa, ob, oc, od, oe, s⟩ := o
  simp only at hk
  subst hk
  obtain ⟨_, _, ha, hbb, hcc, hdd, hee, hs⟩ := ho
  simp only at ha hbb hcc hdd hee hs
  obtain ⟨w1, hw1⟩ : ∃ w1, w.alloc (.cells #[.int .i64 2, .int .i64 x, .int .i64 oa, .int .i64 ob, .int .i64 oc, .int .i64 od, .int .i64 oe, .string s] 28) = w1 := ⟨_, rfl⟩
  have hb1 : Below w.heap.size w w1 := by rw [← hw1]; exact (Below.refl _ _).alloc (Nat.le_refl _) _
  have hx1 : w1.heap[w.heap.size]? = some (.cells #[.int .i64 2, .int .i64 x, .int .i64 oa, .int .i64 ob, .int .i64 oc, .int .i64 od, .int .i64 oe, .string s] 28 (0, 0)) := by rw [← hw1]; exact heap_alloc_eq w _
  have hsz1 : w1.heap.size = w.heap.size + 1 := by rw [← hw1]; simp
  have hB0 : B0 ≤ w.heap.size := by have := h.hB; have := h.blk.lt; omega
  have hlt := h.blk.lt
  have H := Lib.hid h
  have HS1 := Lib.hid (h.below hb1)
  have HX1 := Lib.hid (cells_at hx1)
  have HSZ1 := Lib.hid hsz1
  have HB1 := Lib.hid hb1
  have HW1 := Lib.hid hw1
  clear hb1 hx1 hsz1 h hw1
  unfold Sop.v
  go_enter Tryz.func11, Tryz.ntmps11
  go_upto_region 6 with (fail)
  rw [HW1.out]
  have x2 := HX1.out 2
  have x3 := HX1.out 3
  have x4 := HX1.out 4
  simp only [List.getElem?_toArray, List.getElem?_cons_succ, List.getElem?_cons_zero] at x2 x3 x4
  go_wp2_with fail
  refine (text_any B0 b n w1 f d HS1.out oa ha (by omega)).mono ?_
  rintro e w2 ⟨t, rfl, ht, hb2⟩
  obtain ⟨bcap, w3, hcv1, hb3, hsz3, xs, hby⟩ := bytes_of t w2
  have hB3 : Below w.heap.size w w3 := (HB1.out.trans (hb2.mono HB1.out.size)).trans (hb3.mono (Nat.le_trans HB1.out.size hb2.size))
  have hS3 := H.out.below hB3
  have hx3 : ∀ i, w3.cell? ⟨w.heap.size, i, none⟩ = w1.cell? ⟨w.heap.size, i, none⟩ := fun i => (hb3.cell (by have := hb2.size; have := HSZ1.out; simp; omega)).trans (hb2.cell (by have := HSZ1.out; simp; omega))
  have z2 := (hx3 2).trans x2
  have z3 := (hx3 3).trans x3
  have z4 := (hx3 4).trans x4
  have hgt : w.heap.size < w2.heap.size := by have := hb2.size; have := HSZ1.out; omega
  have HS3a := Lib.hid hS3
  have HBa := Lib.hid hB3
  have HBYa := Lib.hid hby
  have HSZ3 := Lib.hid hsz3
  have HT := Lib.hid ht
  clear hb2 hb3 hx3 hB3 hS3 hby hsz3 x2 x3 x4
  obtain ⟨nt, hnt⟩ : ∃ nt, t.size = nt := ⟨_, rfl⟩
  rw [hnt] at hcv1 HBYa HT
  clear hnt
  by_cases h0 : nt = 0
  · subst h0
    have HBY := HBYa
    have HS3 := HS3a
    have HBB := HBa
    have hts := HT.out
    have hBw : B0 ≤ w3.heap.size := by have := HBB.out.size; omega
    have hW9 := HS3.out.blk
    have c0 : w3.cell? ⟨b, 0, none⟩ = some (f 0) := hW9.cell (by omega)
    have fr0 := hW9.free 0
    obtain ⟨ta, tc, e0⟩ := HS3.out.t0
    obtain ⟨m, hm⟩ : ∃ m, d.ts.length = m := ⟨_, rfl⟩
    have htn := HS3.out.tn
    rw [hm] at e0 htn
    rw [e0] at c0
    have htr := HS3.out.tr
    rw [e0, hm] at htr
    have hcv := bytes_back (w := w3.drew) (cap := bcap) (HBY.out.heap rfl)
    have hcw := bytes_back (cap := bcap) HBY.out
    have hSz := strOfNums_size xs
    rw [HBY.out.1] at hSz
    obtain ⟨S, hS⟩ : ∃ S, strOfNums xs = S := ⟨_, rfl⟩
    rw [hS] at hcv hcw hSz
    have hsS : S.size ≤ 16384 := by omega
    have ca : ∀ o, (w3.alloc o).cell? ⟨b, 0, none⟩ = some (.slice ta m tc) := fun o => by rw [World.cell?_alloc_lt _ _ _ (World.block_lt_of_cell? _ _ c0)]; exact c0
    have hnew := cells_new w3 [.string S] 9 (n := w3.heap.size) rfl
    have HRW := Lib.hid (htr.alloc (.cells #[.string S] 9)).drew
    have HNEW : Hid (∀ j u, [Value.string S][j]? = some u → (w3.alloc (.cells #[.string S] 9)).drew.cell? ((⟨w3.heap.size, 0, none⟩ : Addr).add j) = some u) := hnew
    have HM := Lib.hid hm
    have E0 := Lib.hid e0
    have k3 : m + 1 ≤ maxLen := by unfold maxLen; omega
    have K3 := Lib.hid k3
    have HSS := Lib.hid hsS
    obtain ⟨i0, hi, hz0, hz1, hz2⟩ := info_parts info_string
    clear hm e0 htr hnew k3 hS hW9 hSz hsS
    go_wp2_with fail
    go_region_law (go_loud (refine step_append_to rfl _ _ _ rfl B0 9 i0 _ 1 16 Tryz.underlying30 hi hz0 hz1 hz2 rfl (by decide) (.slice ta m tc) m _ rfl HRW.out ⟨w3.heap.size, 0, none⟩ 1 1 _ rfl rfl HNEW.out (by simp [Value.oneCell']) (by omega) K3.out (by omega) (by simp; omega) ?_; intro g gc w4 hl4 hto4; obtain ⟨ct, ft, hS4, hC4⟩ := HS3.out.text HSS.out (((Below.refl _ _).alloc (Nat.le_refl _) (.cells #[.string S] 9)).drew) (by rw [HM.out]; exact hl4) (by rw [E0.out]; exact hto4); have HS4 := Lib.hid hS4; have HC4 := Lib.hid hC4; rw [HM.out] at HS4 HC4; rw [E0.out] at ct; clear hS4 hC4))
    all_goals
      go_wp2
      go_ret
      exact ⟨rfl, _, _, HS4.out, upd_other _ _ _ (by omega), Below.andChg HBB.out HC4.out⟩
  · obtain ⟨k, hk⟩ : ∃ k, pickS ob nt = k := ⟨_, rfl⟩
    have hkm := pickS_lt ob nt (by omega)
    rw [hk] at hkm
    have hts := HT.out
    have d1 := HBYa.out.cell hkm
    have f1 := HBYa.out.free hkm
    have hpos : 0 < nt := by omega
    go_wp2_with fail
    go_region_with (go_at_call 19; refine (pickS_any _ _ _ hbb ⟨hpos, by omega⟩).mono ?_; rintro e w' ⟨rfl, rfl⟩; rw [hk])
    all_goals
      obtain ⟨w4, hw4⟩ : ∃ w4, (w3.setCell ⟨w2.heap.size, k, none⟩ (.int .u8 (IntKind.u8.wrap oc))).drew = w4 := ⟨_, rfl⟩
      obtain ⟨xs4, hxs4⟩ : ∃ xs4, xs.set k (IntKind.u8.wrap oc) = xs4 := ⟨_, rfl⟩
      have hby4 : BytesAt w4 w2.heap.size nt xs4 := by rw [← hw4, ← hxs4]; exact (HBYa.out.set hkm _).heap rfl
      have hB4 : Below w.heap.size w w4 := by rw [← hw4]; exact (HBa.out.setCell (by simp; omega) _).drew
      rw [hw4]
      have HBY := Lib.hid hby4
      have HS3 := Lib.hid (H.out.below hB4)
      have HBB := Lib.hid hB4
      have hBw : B0 ≤ w4.heap.size := by have := hB4.size; omega
      clear hw4 hxs4 hby4 hB4
      have hW9 := HS3.out.blk
      have c0 : w4.cell? ⟨b, 0, none⟩ = some (f 0) := hW9.cell (by omega)
      have fr0 := hW9.free 0
      obtain ⟨ta, tc, e0⟩ := HS3.out.t0
      obtain ⟨m, hm⟩ : ∃ m, d.ts.length = m := ⟨_, rfl⟩
      have htn := HS3.out.tn
      rw [hm] at e0 htn
      rw [e0] at c0
      have htr := HS3.out.tr
      rw [e0, hm] at htr
      have hcv := bytes_back (w := w4.drew) (cap := bcap) (HBY.out.heap rfl)
      have hcw := bytes_back (cap := bcap) HBY.out
      have hSz := strOfNums_size xs4
      rw [HBY.out.1] at hSz
      obtain ⟨S, hS⟩ : ∃ S, strOfNums xs4 = S := ⟨_, rfl⟩
      rw [hS] at hcv hcw hSz
      have hsS : S.size ≤ 16384 := by omega
      have ca : ∀ o, (w4.alloc o).cell? ⟨b, 0, none⟩ = some (.slice ta m tc) := fun o => by rw [World.cell?_alloc_lt _ _ _ (World.block_lt_of_cell? _ _ c0)]; exact c0
      have hnew := cells_new w4 [.string S] 9 (n := w4.heap.size) rfl
      have HRW := Lib.hid (htr.alloc (.cells #[.string S] 9)).drew
      have HNEW : Hid (∀ j u, [Value.string S][j]? = some u → (w4.alloc (.cells #[.string S] 9)).drew.cell? ((⟨w4.heap.size, 0, none⟩ : Addr).add j) = some u) := hnew
      have HM := Lib.hid hm
      have E0 := Lib.hid e0
      have k3 : m + 1 ≤ maxLen := by unfold maxLen; omega
      have K3 := Lib.hid k3
      have HSS := Lib.hid hsS
      obtain ⟨i0, hi, hz0, hz1, hz2⟩ := info_parts info_string
      clear hm e0 htr hnew k3 hS hW9 hSz hsS
      go_wp2_with fail
      go_region_law (go_loud (refine step_append_to rfl _ _ _ rfl B0 9 i0 _ 1 16 Tryz.underlying30 hi hz0 hz1 hz2 rfl (by decide) (.slice ta m tc) m _ rfl HRW.out ⟨w4.heap.size, 0, none⟩ 1 1 _ rfl rfl HNEW.out (by simp [Value.oneCell']) (by omega) K3.out (by omega) (by simp; omega) ?_; intro g gc w6 hl4 hto4; obtain ⟨ct, ft, hS4, hC4⟩ := HS3.out.text HSS.out (((Below.refl _ _).alloc (Nat.le_refl _) (.cells #[.string S] 9)).drew) (by rw [HM.out]; exact hl4) (by rw [E0.out]; exact hto4); have HS4 := Lib.hid hS4; have HC4 := Lib.hid hC4; rw [HM.out] at HS4 HC4; rw [E0.out] at ct; clear hS4 hC4))
      all_goals
        go_wp2
        go_ret
        exact ⟨rfl, _, _, HS4.out, upd_other _ _ _ (by omega), Below.andChg HBB.out HC4.out⟩
end Go.Proofs.YtfngdplkcppabaaGreatDoor
