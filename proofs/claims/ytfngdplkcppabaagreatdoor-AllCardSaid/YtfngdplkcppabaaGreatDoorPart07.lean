/-
  Texts of the proof: OwnerC, Taken, OwnerD, Step, StepB, UpTo. No condition.
-/
import Derived.Test.YtfngdplkcppabaaGreatDoorPart01
import Derived.Test.YtfngdplkcppabaaGreatDoorPart06
import Derived.Laws.IdiomStrings
set_option linter.all false
set_option maxRecDepth 100000
set_option maxHeartbeats 4000000
namespace Go.Proofs.YtfngdplkcppabaaGreatDoor
open Go.RowKit
def BytesAt (w : World) (g n : Nat) (xs : List Int) : Prop := xs.length = n /\ ∃ cs : Array Value, w.heap[g]? = some (.cells cs 5 (cs.size, cs.size + 1)) /\ n <= cs.size /\ ∀ i, i < n -> cs[i]? = some (.int .u8 (xs.getD i 0))
theorem BytesAt.cell {w : World} {g n : Nat} {xs : List Int} (h : BytesAt w g n xs) {i : Nat} (hi : i < n) : w.cell? ⟨g, i, none⟩ = some (.int .u8 (xs.getD i 0)) := by
 obtain ⟨_, cs, hg, _, hc⟩ := h; rw [Ka hg]; exact hc i hi
theorem BytesAt.free {w : World} {g n : Nat} {xs : List Int} (h : BytesAt w g n xs) {i : Nat} (hi : i < n) : w.frozen? ⟨g, i, none⟩ = false := by
 obtain ⟨_, cs, hg, hs, _⟩ := h; simp only [World.frozen?, hg]
 simp; omega
theorem BytesAt.set {w : World} {g n : Nat} {xs : List Int} (h : BytesAt w g n xs) {i : Nat} (hi : i < n) (v : Int) : BytesAt (w.setCell ⟨g, i, none⟩ (.int .u8 v)) g n (xs.set i v) := by
 obtain ⟨hl, cs, hg, hs, hc⟩ := h; refine ⟨by rw [List.length_set]; exact hl, cs.setIfInBounds i (.int .u8 v), ?_, by simpa using hs, fun j hj => ?_⟩
 · have := Kf (i := i) (v := .int .u8 v) hg
   simpa using this
 · rw [Array.getElem?_setIfInBounds]
   by_cases e : i = j
   · subst e
     rw [if_pos rfl, if_pos (by omega)]
     simp [List.getD, hl, hj]
   · rw [if_neg e, hc j hj]
     simp [List.getD, e]
theorem BytesAt.heap {w w' : World} {g n : Nat} {xs : List Int} (h : BytesAt w g n xs) (e : w'.heap[g]? = w.heap[g]?) : BytesAt w' g n xs := by
 obtain ⟨hl, cs, hg, r⟩ := h; exact ⟨hl, cs, e.trans hg, r⟩
theorem BytesAt.lt {w : World} {g n : Nat} {xs : List Int} (h : BytesAt w g n xs) : g < w.heap.size := by obtain ⟨_, cs, hg, _⟩ := h; exact Kb hg
theorem bytes_of (s : ByteArray) (w : World) : ∃ cap, ∃ w', (convert 9 56 (.string s)).run Tryz.prog w = .ok (.slice (some ⟨w.heap.size, 0, none⟩) s.size cap) w' /\ Below w.heap.size w w' /\ w'.heap.size = w.heap.size + 1 /\ ∃ xs, BytesAt w' w.heap.size s.size xs := by
 have hr := run_bytes_of_string (P := Tryz.prog) w 9 56 5 s Tryz.underlying9 Tryz.underlying56 Tryz.underlying5; refine ⟨_, _, hr, ((Below.refl _ _).drew).alloc (Nat.le_refl _) _, by simp, (List.range s.size).map (fun i => ((s.data.getD i 0).toNat : Int)), by simp, _, Kc w.drew _, ?_, fun i hi => ?_⟩
 · simp [bytesRow]
 · have hi' : i < s.data.size := hi
   simp only [bytesRow]; rw [Array.getElem?_append_left (by simpa using hi')]
   simp [List.getD, hi, Array.getD]
theorem bytes_back {w : World} {g n cap : Nat} {xs : List Int} (h : BytesAt w g n xs) : (convert 56 9 (.slice (some ⟨g, 0, none⟩) n cap)).run Tryz.prog w = .ok (.string (strOfNums xs)) w := by
 refine run_convert_bytes_arg _ _ 5 Tryz.underlying56 Tryz.underlying5 g 0 n cap xs h.1 (fun i hi => ?_) _ Tryz.underlying9
 rw [Nat.zero_add]; exact h.cell hi
theorem Below.andChg {S : Nat -> Obj -> Prop} {w w1 w' : World} (hb : Below w.heap.size w w1) (h : Chg S w1 w') : Chg S w w' :=
 ⟨h.os.trans hb.os, h.tape.trans hb.tape, h.output.trans hb.output, Nat.le_trans hb.size h.size, fun k o hk hs => h.kept k o ((hb.block k (Kb hk)).trans hk) hs⟩
theorem owner_turn (B0 b n : Nat) (w : World) (f : Nat -> Value) (d : Sd) (h : SAt B0 b n w f d) (o : Sop) (ho : o.Ok) (hk : o.kind = 2) (hn : n <= 100000) :
  Calls Tryz.prog 11 #[.pointer (some ⟨b, 0, none⟩), o.v] w (OwnPost B0 b n w f) := by
 obtain ⟨kind, x, oa, ob, oc, od, oe, s⟩ := o; simp only at hk; subst hk; obtain ⟨_, _, ha, hbb, hcc, hdd, hee, hs⟩ := ho; simp only at ha hbb hcc hdd hee hs; obtain ⟨w1, hw1⟩ : ∃ w1, w.alloc (.cells #[.int .i64 2, .int .i64 x, .int .i64 oa, .int .i64 ob, .int .i64 oc, .int .i64 od, .int .i64 oe, .string s] 28) = w1 := ⟨_, rfl⟩; have hb1 : Below w.heap.size w w1 := by rw [<- hw1]; exact (Below.refl _ _).alloc (Nat.le_refl _) _
 have hx1 : w1.heap[w.heap.size]? = some (.cells #[.int .i64 2, .int .i64 x, .int .i64 oa, .int .i64 ob, .int .i64 oc, .int .i64 od, .int .i64 oe, .string s] 28 (0, 0)) := by rw [<- hw1]; exact Kc w _
 have hsz1 : w1.heap.size = w.heap.size + 1 := by rw [<- hw1]; simp
 have hB0 : B0 <= w.heap.size := by have := h.hB; have := h.blk.lt; omega
 have hlt := h.blk.lt; have H := Hd h; have HS1 := Hd (h.below hb1); have HX1 := Hd (Ka hx1); have HSZ1 := Hd hsz1; have HB1 := Hd hb1; have HW1 := Hd hw1; clear hb1 hx1 hsz1 h hw1; unfold Sop.v; go_enter Tryz.func11, Tryz.ntmps11; go_upto_region 6 with (fail); rw [HW1.out]; have x2 := HX1.out 2; have x3 := HX1.out 3; have x4 := HX1.out 4; simp only [List.getElem?_toArray, List.getElem?_cons_succ, List.getElem?_cons_zero] at x2 x3 x4; go_wp2_with fail
 refine (text_any B0 b n w1 f d HS1.out oa ha (by omega)).mono ?_
 rintro e w2 ⟨t, rfl, ht, hb2⟩; obtain ⟨bcap, w3, hcv1, hb3, hsz3, xs, hby⟩ := bytes_of t w2; have hB3 : Below w.heap.size w w3 := (HB1.out.trans (hb2.mono HB1.out.size)).trans (hb3.mono (Nat.le_trans HB1.out.size hb2.size)); have hS3 := H.out.below hB3; have hx3 : ∀ i, w3.cell? ⟨w.heap.size, i, none⟩ = w1.cell? ⟨w.heap.size, i, none⟩ := fun i => (hb3.cell (by have := hb2.size; have := HSZ1.out; simp; omega)).trans (hb2.cell (by have := HSZ1.out; simp; omega))
 have z2 := (hx3 2).trans x2; have z3 := (hx3 3).trans x3; have z4 := (hx3 4).trans x4; have hgt : w.heap.size < w2.heap.size := by have := hb2.size; have := HSZ1.out; omega
 have HS3a := Hd hS3; have HBa := Hd hB3; have HBYa := Hd hby; have HSZ3 := Hd hsz3; have HT := Hd ht; clear hb2 hb3 hx3 hB3 hS3 hby hsz3 x2 x3 x4; obtain ⟨nt, hnt⟩ : ∃ nt, t.size = nt := ⟨_, rfl⟩; rw [hnt] at hcv1 HBYa HT; clear hnt; by_cases h0 : nt = 0
 · subst h0
   have HBY := HBYa; have HS3 := HS3a; have HBB := HBa; have hts := HT.out; have hBw : B0 <= w3.heap.size := by have := HBB.out.size; omega
   have hW9 := HS3.out.blk; have c0 : w3.cell? ⟨b, 0, none⟩ = some (f 0) := hW9.cell (by omega)
   have fr0 := hW9.free 0; obtain ⟨ta, tc, e0⟩ := HS3.out.t0; obtain ⟨m, hm⟩ : ∃ m, d.ts.length = m := ⟨_, rfl⟩; have htn := HS3.out.tn; rw [hm] at e0 htn; rw [e0] at c0; have htr := HS3.out.tr; rw [e0, hm] at htr; have hcv := bytes_back (w := w3.drew) (cap := bcap) (HBY.out.heap rfl); have hcw := bytes_back (cap := bcap) HBY.out; have hSz := strOfNums_size xs; rw [HBY.out.1] at hSz; obtain ⟨S, hS⟩ : ∃ S, strOfNums xs = S := ⟨_, rfl⟩; rw [hS] at hcv hcw hSz; have hsS : S.size <= 16384 := by omega
   have ca : ∀ o, (w3.alloc o).cell? ⟨b, 0, none⟩ = some (.slice ta m tc) := fun o => by rw [World.cell?_alloc_lt _ _ _ (World.block_lt_of_cell? _ _ c0)]; exact c0
   have hnew := Kt w3 [.string S] 9 (n := w3.heap.size) rfl; have HRW := Hd (htr.alloc (.cells #[.string S] 9)).drew; have HNEW : Hid (∀ j u, [Value.string S][j]? = some u -> (w3.alloc (.cells #[.string S] 9)).drew.cell? ((⟨w3.heap.size, 0, none⟩ : Addr).add j) = some u) := hnew; have HM := Hd hm; have E0 := Hd e0; have k3 : m + 1 <= maxLen := by unfold maxLen; omega
   have K3 := Hd k3; have HSS := Hd hsS; obtain ⟨i0, hi, hz0, hz1, hz2⟩ := info_parts info_string; clear hm e0 htr hnew k3 hS hW9 hSz hsS; go_wp2_with fail
   go_region_law (go_loud (refine Ji rfl _ _ _ rfl B0 9 i0 _ 1 16 Tryz.underlying30 hi hz0 hz1 hz2 rfl (by decide) (.slice ta m tc) m _ rfl HRW.out ⟨w3.heap.size, 0, none⟩ 1 1 _ rfl rfl HNEW.out (by simp [Value.oneCell']) (by omega) K3.out (by omega) (by simp; omega) ?_; intro g gc w4 hl4 hto4; obtain ⟨ct, ft, hS4, hC4⟩ := HS3.out.text HSS.out (((Below.refl _ _).alloc (Nat.le_refl _) (.cells #[.string S] 9)).drew) (by rw [HM.out]; exact hl4) (by rw [E0.out]; exact hto4); have HS4 := Hd hS4; have HC4 := Hd hC4; rw [HM.out] at HS4 HC4; rw [E0.out] at ct; clear hS4 hC4))
   all_goals
    go_wp2; go_ret
    exact ⟨rfl, _, _, HS4.out, .upd (by omega), Below.andChg HBB.out HC4.out⟩
 · obtain ⟨k, hk⟩ : ∃ k, pickS ob nt = k := ⟨_, rfl⟩
   have hkm := pickS_lt ob nt (by omega)
   rw [hk] at hkm; have hts := HT.out; have d1 := HBYa.out.cell hkm; have f1 := HBYa.out.free hkm; have hpos : 0 < nt := by omega
   go_wp2_with fail
   go_region_with (go_at_call 19; refine (pickS_any _ _ _ hbb ⟨hpos, by omega⟩).mono ?_; rintro e w' ⟨rfl, rfl⟩; rw [hk])
   all_goals
    obtain ⟨w4, hw4⟩ : ∃ w4, (w3.setCell ⟨w2.heap.size, k, none⟩ (.int .u8 (IntKind.u8.wrap oc))).drew = w4 := ⟨_, rfl⟩; obtain ⟨xs4, hxs4⟩ : ∃ xs4, xs.set k (IntKind.u8.wrap oc) = xs4 := ⟨_, rfl⟩; have hby4 : BytesAt w4 w2.heap.size nt xs4 := by rw [<- hw4, <- hxs4]; exact (HBYa.out.set hkm _).heap rfl
    have hB4 : Below w.heap.size w w4 := by rw [<- hw4]; exact (HBa.out.setCell (by simp; omega) _).drew
    rw [hw4]; have HBY := Hd hby4; have HS3 := Hd (H.out.below hB4); have HBB := Hd hB4; have hBw : B0 <= w4.heap.size := by have := hB4.size; omega
    clear hw4 hxs4 hby4 hB4; have hW9 := HS3.out.blk; have c0 : w4.cell? ⟨b, 0, none⟩ = some (f 0) := hW9.cell (by omega)
    have fr0 := hW9.free 0; obtain ⟨ta, tc, e0⟩ := HS3.out.t0; obtain ⟨m, hm⟩ : ∃ m, d.ts.length = m := ⟨_, rfl⟩; have htn := HS3.out.tn; rw [hm] at e0 htn; rw [e0] at c0; have htr := HS3.out.tr; rw [e0, hm] at htr; have hcv := bytes_back (w := w4.drew) (cap := bcap) (HBY.out.heap rfl); have hcw := bytes_back (cap := bcap) HBY.out; have hSz := strOfNums_size xs4; rw [HBY.out.1] at hSz; obtain ⟨S, hS⟩ : ∃ S, strOfNums xs4 = S := ⟨_, rfl⟩; rw [hS] at hcv hcw hSz; have hsS : S.size <= 16384 := by omega
    have ca : ∀ o, (w4.alloc o).cell? ⟨b, 0, none⟩ = some (.slice ta m tc) := fun o => by rw [World.cell?_alloc_lt _ _ _ (World.block_lt_of_cell? _ _ c0)]; exact c0
    have hnew := Kt w4 [.string S] 9 (n := w4.heap.size) rfl; have HRW := Hd (htr.alloc (.cells #[.string S] 9)).drew; have HNEW : Hid (∀ j u, [Value.string S][j]? = some u -> (w4.alloc (.cells #[.string S] 9)).drew.cell? ((⟨w4.heap.size, 0, none⟩ : Addr).add j) = some u) := hnew; have HM := Hd hm; have E0 := Hd e0; have k3 : m + 1 <= maxLen := by unfold maxLen; omega
    have K3 := Hd k3; have HSS := Hd hsS; obtain ⟨i0, hi, hz0, hz1, hz2⟩ := info_parts info_string; clear hm e0 htr hnew k3 hS hW9 hSz hsS; go_wp2_with fail
    go_region_law (go_loud (refine Ji rfl _ _ _ rfl B0 9 i0 _ 1 16 Tryz.underlying30 hi hz0 hz1 hz2 rfl (by decide) (.slice ta m tc) m _ rfl HRW.out ⟨w4.heap.size, 0, none⟩ 1 1 _ rfl rfl HNEW.out (by simp [Value.oneCell']) (by omega) K3.out (by omega) (by simp; omega) ?_; intro g gc w6 hl4 hto4; obtain ⟨ct, ft, hS4, hC4⟩ := HS3.out.text HSS.out (((Below.refl _ _).alloc (Nat.le_refl _) (.cells #[.string S] 9)).drew) (by rw [HM.out]; exact hl4) (by rw [E0.out]; exact hto4); have HS4 := Hd hS4; have HC4 := Hd hC4; rw [HM.out] at HS4 HC4; rw [E0.out] at ct; clear hS4 hC4))
    all_goals
     go_wp2; go_ret
     exact ⟨rfl, _, _, HS4.out, .upd (by omega), Below.andChg HBB.out HC4.out⟩
theorem info_rpk : (Tryz.prog.info? 60).map (fun i => (i.zero, i.size, i.bytes)) = some (some (.agg #[.int .i64 0, .string ⟨#[]⟩]), 2, 24) := by kernel_rfl
theorem rpCells_one (l : List (Int × ByteArray)) : ∀ v ∈ Kk l, v.oneCell' = true := by
 intro v hv; simp only [Kk, List.mem_flatMap, List.mem_cons, List.not_mem_nil, or_false] at hv; obtain ⟨k, _, rfl | rfl⟩ := hv <;> rfl
theorem wtake_any (B0 b n : Nat) (w : World) (f : Nat -> Value) (d : Sd) (h : SAt B0 b n w f d) (k : Nat) (hk : k < d.ow.length) :
  Calls Tryz.prog 21 #[.pointer (some ⟨b, 0, none⟩), .int .i64 k] w fun e w' => e = .returned (.agg #[.int .i64 d.ow[k].1, .string d.ow[k].2]) /\
   ∃ f', SAt B0 b (n + 1) w' f' { d with ow := d.ow.eraseIdx k } /\ K14 w f f' /\ Chg (fun x _ => x = b) w w' := by
 obtain ⟨a, cap, e15⟩ := h.o15; obtain ⟨m, hm⟩ : ∃ m, d.ow.length = m := ⟨_, rfl⟩; have hor := h.orow; have hon := h.on; rw [hm] at e15 hor hon hk; rw [e15] at hor; have c15 : w.cell? ⟨b, 15, none⟩ = some (.slice a m cap) := by rw [<- e15]; exact h.blk.cell (by omega)
 obtain ⟨g, cp, cur, ev, hBg, hg, hmc, hcm, hcs, htk⟩ : ∃ g cap' cur, (Value.slice a m cap) = .slice (some ⟨g, 0, none⟩) m cap' /\ B0 <= g /\ w.heap[g]? = some (.cells cur 60 (0, 0)) /\ m <= cap' /\ cap' <= maxLen /\ cur.size = cap' * 2 /\ cur.toList.take (m * 2) = Kk d.ow := by
  rcases hor.2 with ⟨_, e0⟩ | h'
  · omega
  · exact h'
 simp only [Value.slice.injEq] at ev; obtain ⟨rfl, _, rfl⟩ := ev
 have hcell : ∀ j v, (Kk d.ow)[j]? = some v -> w.cell? ⟨g, j, none⟩ = some v := by
  intro j v hj; obtain ⟨b', off, e', _, hc⟩ := Ki.row hor j v hj; cases e'
  rw [Nat.zero_add] at hc; exact hc
 have hk' : k < d.ow.length := by omega
 obtain ⟨q0, q1⟩ := rpCells_at d.ow k d.ow[k] (List.getElem?_eq_getElem hk'); have d0 := hcell _ _ q0; have d1 := hcell _ _ q1; have hlt := h.blk.lt; have hB0 : B0 <= w.heap.size := by have := h.hB; omega
 have H := Hd h; have HM := Hd hm; have HC := Hd hcell; have hmx : cap <= 9223372036854775807 := by unfold maxLen at hcm; omega
 obtain ⟨p, hp⟩ : ∃ p, d.ow[k] = p := ⟨_, rfl⟩; rw [hp] at d0 d1 ⊢; have HP := Hd hp; have w1 : IntKind.i64.wrap ((k : Int) + 1) = (k : Int) + 1 := IntWalk.i64_in _ (by omega)
 obtain ⟨i0, hi, hz0, hz1, hz2⟩ := info_parts info_rpk; have ca : ∀ o, (w.alloc o).cell? ⟨b, 15, none⟩ = some (.slice (some ⟨g, 0, none⟩) m cap) := fun o => by rw [World.cell?_alloc_lt _ _ _ (World.block_lt_of_cell? _ _ c15)]; exact c15
 have da0 : ∀ o, (w.alloc o).cell? ⟨g, k * 2, none⟩ = some (.int .i64 p.1) := fun o => by rw [World.cell?_alloc_lt _ _ _ (World.block_lt_of_cell? _ _ d0)]; exact d0
 have da1 : ∀ o, (w.alloc o).cell? ⟨g, k * 2 + 1, none⟩ = some (.string p.2) := fun o => by rw [World.cell?_alloc_lt _ _ _ (World.block_lt_of_cell? _ _ d1)]; exact d1
 obtain ⟨w1, hw1⟩ : ∃ w1, (w.alloc (.cells #[.int .i64 0, .string ⟨#[]⟩] 60)).alloc (.cells #[.int .i64 p.1, .string p.2] 60) = w1 := ⟨_, rfl⟩; have hb1 : Below w.heap.size w w1 := by rw [<- hw1]; exact ((Below.refl _ _).alloc (Nat.le_refl _) _).alloc (by simp) _
 have hx1 : w1.heap[w.heap.size + 1]? = some (.cells #[.int .i64 p.1, .string p.2] 60 (0, 0)) := by rw [<- hw1]; exact Jh _ _ (by simp)
 have hx0 : w1.heap[w.heap.size]? = some (.cells #[.int .i64 0, .string ⟨#[]⟩] 60 (0, 0)) := by rw [<- hw1]; exact Kp _ (Kc w _)
 have hsz1 : w1.heap.size = w.heap.size + 2 := by rw [<- hw1]; simp
 have hg1 : g < w1.heap.size := by have := Kb hg; omega
 have HS1 := Hd (h.below hb1); have HB1 := Hd hb1; have HX1 := Hd hx1; have HX0 := Hd hx0; have HSZ1 := Hd hsz1; have HW1 := Hd hw1
 have hsrc1 : Ki w1 (some ⟨g, 0, none⟩) (Kk (d.ow.take k)) := by
  intro j v hj; refine ⟨g, 0, rfl, hg1, ?_⟩; rw [Nat.zero_add]; refine (hb1.cell (p := ⟨g, j, none⟩) (Kb hg)).trans (hcell j v ?_)
  have e : Kk d.ow = Kk (d.ow.take k) ++ Kk (d.ow.drop k) := by
   conv => lhs; rw [<- List.take_append_drop k d.ow]
   simp only [Kk, List.flatMap_append]
  rw [e, List.getElem?_append_left]
  · exact hj
  · rcases Nat.lt_or_ge j (Kk (d.ow.take k)).length with h' | h'
    · exact h'
    · rw [List.getElem?_eq_none h'] at hj; cases hj
 have hsrc2 : Ki w1 (some ⟨g, (k + 1) * 2, none⟩) (Kk (d.ow.drop (k + 1))) := by
  intro j v hj; refine ⟨g, (k + 1) * 2, rfl, hg1, ?_⟩; refine (hb1.cell (p := ⟨g, (k + 1) * 2 + j, none⟩) (Kb hg)).trans (hcell _ v ?_)
  have e : Kk d.ow = Kk (d.ow.take (k + 1)) ++ Kk (d.ow.drop (k + 1)) := by
   conv => lhs; rw [<- List.take_append_drop (k + 1) d.ow]
   simp only [Kk, List.flatMap_append]
  have hl : (Kk (d.ow.take (k + 1))).length = (k + 1) * 2 := by rw [rpCells_length, List.length_take]; omega
  rw [e, List.getElem?_append_right (by omega), hl]
  rw [show (k + 1) * 2 + j - (k + 1) * 2 = j by omega]; exact hj
 have hl1 : (Kk (d.ow.take k)).length = k * 2 := by rw [rpCells_length, List.length_take]; omega
 have hl2 : (Kk (d.ow.drop (k + 1))).length = (m - (k + 1)) * 2 := by rw [rpCells_length, List.length_drop]; omega
 have HSRC1 := Hd hsrc1; have HSRC2 := Hd hsrc2; have HL1 := Hd hl1; have HL2 := Hd hl2; have k3 : 0 + k <= maxLen := by unfold maxLen; omega
 have k5 : k + (m - (k + 1)) <= maxLen := by unfold maxLen; omega
 have K3 := Hd k3; have K5 := Hd k5; clear h hor hg htk hm hcell hp e15 q0 q1 hcs hb1 hx1 hx0 hsz1 hw1 hsrc1 hsrc2 hl1 hl2 k3 k5; go_enter Tryz.func21, Tryz.ntmps21; go_wp2_with (at_builtin; go_loud (rw [HW1.out]; refine Km _ rfl _ _ 37 rfl B0 60 i0 _ 2 24 Tryz.underlying37 hi hz0 hz1 hz2 rfl (by decide) (.slice none 0 0) 0 [] rfl (World.ownsRow_nil _ _ _ _) (some ⟨g, 0, none⟩) k cap _ rfl HL1.out HSRC1.out (rpCells_one _) K3.out (by omega) (by have := HSZ1.out; omega) ?_))
 intro a7 c7 w2 hl2 hto2; have hg2 : w1.grownBy w2 none := hto2.grown; have hB2 : Below w1.heap.size w1 w2 := ⟨hg2.os, hg2.tape, hg2.output, hg2.size, fun k hk => hg2.block k hk (by simp)⟩
 have e15 : w2.cell? ⟨b, 15, none⟩ = some (.slice (some ⟨g, 0, none⟩) m cap) := by
  rw [hB2.cell (by have := HSZ1.out; simp; omega), HB1.out.cell hlt]; exact c15
 have hsrc : Ki w2 (if cap = k + 1 then some ⟨g, 0, none⟩ else some ⟨g, (k + 1) * 2, none⟩) (Kk (d.ow.drop (k + 1))) := by
  by_cases hck : cap = k + 1
  · have hd : d.ow.drop (k + 1) = [] := List.drop_eq_nil_of_le (by have := HM.out; omega)
    rw [hd]; intro j v hj
    simp [Kk] at hj
  · rw [if_neg hck]; exact HSRC2.out.below hB2
 have HSRC3 := Hd hsrc; have HLa := Hd hl2; have HB2 := Hd hB2; have HTO2 := Hd hto2; have hsz2 := hg2.size; clear hsrc hl2 hB2 hto2 hg2 c15 d0 d1 ca da0 da1; go_wp2_with (at_builtin; go_loud (refine Km _ rfl _ _ 37 rfl B0 60 i0 _ 2 24 Tryz.underlying37 hi hz0 hz1 hz2 rfl (by decide) (.slice a7 k c7) k _ rfl HLa.out (if cap = k + 1 then some ⟨g, 0, none⟩ else some ⟨g, (k + 1) * 2, none⟩) (m - (k + 1)) (cap - (k + 1)) _ rfl HL2.out HSRC3.out (rpCells_one _) K5.out (by omega) (by have := HSZ1.out; omega) ?_))
 all_goals
  intro a8 c8 w3 hl3 hto3
  have hw2b : ∀ g', (Value.slice a7 k c7).ownBlock = some g' -> w1.heap.size <= g' := by
   intro g' e; rcases HTO2.out with ⟨rfl, n', c', e'⟩ | ⟨g'', e', h'⟩
   · simp only [Value.slice.injEq] at e'
     rw [<- e'.1] at e; simp [Value.ownBlock] at e
   · rw [e'] at e
     simp only [Value.ownBlock, Option.some.injEq] at e; rcases h' with ⟨h', _⟩ | ⟨h', _⟩
     · simp [Value.ownBlock] at h'
     · omega
  have hB3 : Below w1.heap.size w1 w3 := HB2.out.grown hto3.grown hsz2 (fun g' e => hw2b g' e)
  have hblk3 := HS1.out.blk.under hB3 HS1.out.blk.lt; have hx3 := (hB3.block _ (Kb HX1.out)).trans HX1.out; have hx30 := (hB3.block _ (Kb HX0.out)).trans HX0.out; have y15 := hblk3.cell (i := 15) (by omega)
  have fr15 := hblk3.free 15; have hnb : w.heap.size ≠ b := by omega
  have hnb1 : w.heap.size + 1 ≠ b := by omega
  have hbn : b ≠ w.heap.size := by omega
  have hbn1 : b ≠ w.heap.size + 1 := by omega
  have bx0 := Ka hx3 0; have bx1 := Ka hx3 1; have by0 := Ka hx30 0; have by1 := Ka hx30 1; have fy := Kr hx30; simp only [List.getElem?_toArray, List.getElem?_cons_succ, List.getElem?_cons_zero] at bx0 bx1 by0 by1; obtain ⟨ml, hml⟩ : ∃ ml, k + (m - (k + 1)) = ml := ⟨_, rfl⟩; rw [hml] at hl3 ⊢; obtain ⟨w5, hw5⟩ : ∃ w5, ((w3.setCell ⟨b, 15, none⟩ (.slice a8 ml c8)).setCell ⟨w.heap.size, 0, none⟩ (.int .i64 p.1)).setCell ⟨w.heap.size, 1, none⟩ (.string p.2) = w5 := ⟨_, rfl⟩
  have hc5 : Chg (fun x _ => x = b \/ x = w.heap.size) w3 w5 := by
   rw [<- hw5]; exact (((Chg.refl _ w3).setCell (p := ⟨b, 15, none⟩) _ (fun _ _ => .inl rfl)).setCell (p := ⟨w.heap.size, 0, none⟩) _ (fun _ _ => .inr rfl)).setCell (p := ⟨w.heap.size, 1, none⟩) _ (fun _ _ => .inr rfl)
  have hF : WB w5 b (upd f 15 (.slice a8 ml c8)) := by
   rw [<- hw5]; exact ((hblk3.set (i := 15) (by omega) _).other hnb _).other hnb _
  have hrow5 : w5.ownsRow B0 60 2 (.slice a8 ml c8) ml (Kk (d.ow.eraseIdx k)) := by
   have e : Kk (d.ow.eraseIdx k) = Kk (d.ow.take k) ++ Kk (d.ow.drop (k + 1)) := by
    rw [List.eraseIdx_eq_take_drop_succ]; simp only [Kk, List.flatMap_append]
   rw [e]; refine Kq hl3 hc5 (fun g' o eg hx => ?_)
   rcases hx with hx | hx
   · exact hblk3.neOwn hl3 (by decide) (hx ▸ eg)
   · have hge : w1.heap.size <= g' := by
      rcases hto3.where_ eg with e' | e'
      · exact hw2b g' e'
      · omega
     have := HSZ1.out; omega
  have hcF : Chg (fun x _ => x = b \/ w.heap.size <= x) w w5 := by
   have h1 : Chg (fun x _ => x = b \/ w.heap.size <= x) w w3 := ⟨hB3.os.trans HB1.out.os, hB3.tape.trans HB1.out.tape, hB3.output.trans HB1.out.output, Nat.le_trans HB1.out.size hB3.size, fun x o hx _ =>
    (hB3.block x (by have := Kb hx; have := HSZ1.out; omega)).trans ((HB1.out.block x (Kb hx)).trans hx)⟩
   exact h1.trans (hc5.mono (fun x o _ h => h.imp id (fun h => by omega)))
  have hT : ∀ x o, w.heap[x]? = some o -> (x = b \/ w.heap.size <= x) -> x = b := fun x o hx hs => by have := Kb hx; omega
  have KK := H.out.kept (T := [41]) hcF (fun x o hx hs => H.out.onlyB x o hx (hT x o hx hs))
  have hlen : (d.ow.eraseIdx k).length = ml := by rw [List.length_eraseIdx, if_pos (by have := HM.out; omega)]; have := HM.out; omega
  have hS := H.out.turnO (d' := { d with ow := d.ow.eraseIdx k }) KK hF (fun i _ h15 => by simp [upd, h15]) rfl rfl rfl rfl rfl rfl rfl rfl (by decide) (by decide) (by decide) (by decide) (by decide) (by decide) (by decide)
   ⟨a8, c8, by rw [Ku, hlen]⟩ (by rw [Ku, hlen]; exact hrow5) (by show (d.ow.eraseIdx k).length <= 60; omega) (fun q hq => H.out.oz q (List.mem_of_mem_eraseIdx hq))
  have HS := Hd hS; have HCF : Hid (Chg (fun x _ => x = b) w w5) := ⟨hcF.os, hcF.tape, hcF.output, hcF.size, fun x o hx hs => hcF.kept x o hx (fun h => hs (hT x o hx h))⟩
  have hx5 : w5.heap[w.heap.size]? = some (.cells #[.int .i64 p.1, .string p.2] 60 (0, 0)) := by
   rw [<- hw5]
   have h0 : (w3.setCell ⟨b, 15, none⟩ (.slice a8 ml c8)).heap[w.heap.size]? = some (.cells #[.int .i64 0, .string ⟨#[]⟩] 60 (0, 0)) := by
    rw [Kj _ _ _ _ _ hnb]; exact hx30
   exact Kf (Kf h0)
  have r0 := Ka hx5 0; have r1 := Ka hx5 1; simp only [List.getElem?_toArray, List.getElem?_cons_succ, List.getElem?_cons_zero] at r0 r1; have HW5 := Hd hw5; clear hx5 hl3 hto3 hw2b hB3 hblk3 hx3 hx30 hw5 hc5 hF hrow5 hcF hT KK hS hml hlen; go_wp2; rw [HW5.out]; exact bodyPost_ret (v := .agg #[.int .i64 p.1, .string p.2]) (by simp [results, Tryz.results21, go_sem, r0, r1]) rfl ⟨rfl, _, HS.out, .upd (by omega), HCF.out⟩
theorem owner_lose (B0 b n : Nat) (w : World) (f : Nat -> Value) (d : Sd) (h : SAt B0 b n w f d) (o : Sop) (ho : o.Ok) (hk : o.kind = 12) :
  Calls Tryz.prog 11 #[.pointer (some ⟨b, 0, none⟩), o.v] w (OwnPost B0 b n w f) := by
 obtain ⟨kind, x, oa, ob, oc, od, oe, s⟩ := o; simp only at hk; subst hk; obtain ⟨_, _, ha, hbb, hcc, hdd, hee, hs⟩ := ho; simp only at ha hbb hcc hdd hee hs; obtain ⟨w1, hw1⟩ : ∃ w1, w.alloc (.cells #[.int .i64 12, .int .i64 x, .int .i64 oa, .int .i64 ob, .int .i64 oc, .int .i64 od, .int .i64 oe, .string s] 28) = w1 := ⟨_, rfl⟩; have hb1 : Below w.heap.size w w1 := by rw [<- hw1]; exact (Below.refl _ _).alloc (Nat.le_refl _) _
 have hx1 : w1.heap[w.heap.size]? = some (.cells #[.int .i64 12, .int .i64 x, .int .i64 oa, .int .i64 ob, .int .i64 oc, .int .i64 od, .int .i64 oe, .string s] 28 (0, 0)) := by rw [<- hw1]; exact Kc w _
 have hsz1 : w1.heap.size = w.heap.size + 1 := by rw [<- hw1]; simp
 have hB0 : B0 <= w.heap.size := by have := h.hB; have := h.blk.lt; omega
 have hlt := h.blk.lt; have H := Hd h; have HS1 := Hd (h.below hb1); have HX1 := Hd (Ka hx1); have HSZ1 := Hd hsz1; have HB1 := Hd hb1; have HW1 := Hd hw1; clear hb1 hx1 hsz1 h hw1; obtain ⟨a, cap, e15⟩ := HS1.out.o15; obtain ⟨m, hm⟩ : ∃ m, d.ow.length = m := ⟨_, rfl⟩; have hon := HS1.out.on; rw [hm] at e15 hon; have c15 : w1.cell? ⟨b, 15, none⟩ = some (.slice a m cap) := by rw [<- e15]; exact HS1.out.blk.cell (by omega)
 have HM := Hd hm; clear hm e15; unfold Sop.v; go_enter Tryz.func11, Tryz.ntmps11; go_upto_region 23 with (fail); rw [HW1.out]; have x2 := HX1.out 2; simp only [List.getElem?_toArray, List.getElem?_cons_succ, List.getElem?_cons_zero] at x2; by_cases h0 : m = 0
 · subst h0
   go_wp2; go_ret
   exact ⟨rfl, f, d, HS1.out.mono (by omega), .refl _ _, Below.andChg HB1.out (Chg.refl _ _)⟩
 · obtain ⟨k, hk⟩ : ∃ k, pickS oa m = k := ⟨_, rfl⟩
   have hpos : 0 < m := by omega
   have hkm := pickS_lt oa m hpos; rw [hk] at hkm; go_wp2_with fail
   go_region_with (go_at_call 19; refine (pickS_any _ _ _ ha ⟨hpos, by omega⟩).mono ?_; rintro e w' ⟨rfl, rfl⟩; rw [hk])
   all_goals
    have HT := Hd (wtake_any B0 b n w1.drew f d (HS1.out.below (Below.refl _ _).drew) k (by rw [HM.out]; exact hkm))
    go_wp2_with fail
    refine HT.out.mono ?_; rintro e w3 ⟨rfl, f', hS, hf', hC⟩; have HS := Hd hS; have HF := Hd (hf'.older HB1.out.size); have HC := Hd (Below.andChg (HB1.out.drew) (hC.mono (fun x o _ e => (⟨e ▸ hS.hB, .inl e⟩ : SQ B0 b x o))))
    clear hS hf' hC; go_wp2; go_ret
    exact ⟨rfl, f', _, HS.out, HF.out, HC.out⟩
def ownKind (k : Int) : Prop := k = 1 \/ k = 2 \/ k = 3 \/ k = 4 \/ k = 7 \/ k = 8 \/ k = 12
instance (k : Int) : Decidable (ownKind k) := by unfold ownKind; exact inferInstance
theorem owner_none (b : Nat) (w : World) (o : Sop) (hk : ¬ ownKind o.kind) :
  Calls Tryz.prog 11 #[.pointer (some ⟨b, 0, none⟩), o.v] w fun e w' => e = .returned (.bool false) /\ Below w.heap.size w w' := by
 obtain ⟨kind, x, oa, ob, oc, od, oe, s⟩ := o; simp only [ownKind, not_or] at hk; obtain ⟨h1, h2, h3, h4, h7, h8, h12⟩ := hk; have b1 : (kind == 1) = false := beq_eq_false_iff_ne.2 h1; have b2 : (kind == 2) = false := beq_eq_false_iff_ne.2 h2; have b3 : (kind == 3) = false := beq_eq_false_iff_ne.2 h3; have b4 : (kind == 4) = false := beq_eq_false_iff_ne.2 h4; have b7 : (kind == 7) = false := beq_eq_false_iff_ne.2 h7; have b8 : (kind == 8) = false := beq_eq_false_iff_ne.2 h8; have b12 : (kind == 12) = false := beq_eq_false_iff_ne.2 h12; clear h1 h2 h3 h4 h7 h8 h12; unfold Sop.v; go_enter Tryz.func11, Tryz.ntmps11; go_wp2; go_ret
 exact ⟨rfl, (Below.refl _ _).alloc (Nat.le_refl _) _⟩
theorem owner_own (B0 b n : Nat) (w : World) (f : Nat -> Value) (d : Sd) (h : SAt B0 b n w f d) (o : Sop) (ho : o.Ok) (hk : ownKind o.kind) (hn : n <= 100000) :
  Calls Tryz.prog 11 #[.pointer (some ⟨b, 0, none⟩), o.v] w (OwnPost B0 b n w f) := by
 rcases hk with hk | hk | hk | hk | hk | hk | hk
 · exact owner_text B0 b n w f d h o ho hk hn
 · exact owner_turn B0 b n w f d h o ho hk hn
 · exact owner_message B0 b n w f d h o ho hk
 · exact owner_update B0 b n w f d h o ho hk hn
 · exact owner_draw B0 b n w f d h o ho hk hn
 · exact owner_shape B0 b n w f d h o ho hk
 · exact owner_lose B0 b n w f d h o ho hk
def StepPost (B0 b n : Nat) (w : World) (f : Nat -> Value) (e : Ending) (w' : World) : Prop :=
 e = .returned (.bool true) /\ ∃ f' d', SAt B0 b (n + 3) w' f' d' /\ K14 w f f' /\ Chg (SQ B0 b) w w'
theorem Jc.sq {B0 b : Nat} {w w' : World} (h : Jc w) (hc : Chg (SQ B0 b) w w') (hB : 0 < B0) : Jc w' := by
 have hl := h.lt; obtain ⟨o, ho⟩ : ∃ o, w.heap[0]? = some o := ⟨_, Array.getElem?_eq_getElem hl⟩; unfold Jc World.cell? at *; rw [hc.kept 0 o ho (fun hs => by have := hs.1; omega)]
 rw [ho] at h; exact h
theorem Chg.belowB {B0 b : Nat} {w w' : World} (hc : Chg (SQ B0 b) w w') (hB : B0 <= w.heap.size) : Below B0 w w' := hc.below hB (fun _ _ h => h.1)
theorem step_own (B0 b n : Nat) (w : World) (f : Nat -> Value) (d : Sd) (h : SAt B0 b n w f d) (o : Sop) (ho : o.Ok) (hk : ownKind o.kind) (hn : n <= 100000) :
  Calls Tryz.prog 10 #[.pointer (some ⟨b, 0, none⟩), o.v] w (StepPost B0 b n w f) := by
 have hw1 : Below w.heap.size w (w.alloc (.cells #[.int .i64 o.kind, .int .i64 o.x, .int .i64 o.a, .int .i64 o.b, .int .i64 o.c, .int .i64 o.d, .int .i64 o.e, .string o.s] 28)) := (Below.refl _ _).alloc (Nat.le_refl _) _; have hcon := owner_own B0 b n _ f d (h.below hw1) o ho hk hn; have HCON := Hd hcon; have HB1 := Hd hw1; clear hw1 hcon h; unfold Sop.v at *; go_enter Tryz.func10, Tryz.ntmps10; go_wp2_with fail
 refine HCON.out.mono ?_; rintro e w2 ⟨rfl, f', d', hS, hf, hC⟩; have HS := Hd hS; have HF := Hd (hf.older HB1.out.size); have HC := Hd (Below.andChg HB1.out hC); clear hS hf hC; go_wp2; go_ret
 exact ⟨rfl, f', d', HS.out.mono (by omega), HF.out, HC.out⟩
theorem step_encode (B0 b n : Nat) (w : World) (f : Nat -> Value) (d : Sd) (h : SAt B0 b n w f d) (hg : Jc w) (o : Sop) (ho : o.Ok) (hk : o.kind = 5) (hn : n <= 100000) :
  Calls Tryz.prog 10 #[.pointer (some ⟨b, 0, none⟩), o.v] w (StepPost B0 b n w f) := by
 obtain ⟨kind, x, oa, ob, oc, od, oe, s⟩ := o; simp only at hk; subst hk; obtain ⟨_, _, ha, hbb, hcc, hdd, hee, hs⟩ := ho; simp only at ha hbb hcc hdd hee hs; obtain ⟨w1, hw1⟩ : ∃ w1, w.alloc (.cells #[.int .i64 5, .int .i64 x, .int .i64 oa, .int .i64 ob, .int .i64 oc, .int .i64 od, .int .i64 oe, .string s] 28) = w1 := ⟨_, rfl⟩; have hb1 : Below w.heap.size w w1 := by rw [<- hw1]; exact (Below.refl _ _).alloc (Nat.le_refl _) _
 have hx1 : w1.heap[w.heap.size]? = some (.cells #[.int .i64 5, .int .i64 x, .int .i64 oa, .int .i64 ob, .int .i64 oc, .int .i64 od, .int .i64 oe, .string s] 28 (0, 0)) := by rw [<- hw1]; exact Kc w _
 have hsz1 : w1.heap.size = w.heap.size + 1 := by rw [<- hw1]; simp
 have hB0 : B0 <= w.heap.size := by have := h.hB; have := h.blk.lt; omega
 have hlt := h.blk.lt; have H := Hd h; have HS1 := Hd (h.below hb1); have HX1 := Hd (Ka hx1); have HXB := Hd hx1; have HSZ1 := Hd hsz1; have HB1 := Hd hb1; have HW1 := Hd hw1; have HG1 := Hd (hg.below hb1); clear hb1 hx1 hsz1 h hw1 hg; have hnk : ¬ ownKind 5 := by decide
 have HCON := Hd (owner_none b w1 ⟨5, x, oa, ob, oc, od, oe, s⟩ hnk); clear hnk; unfold Sop.v at *; go_enter Tryz.func10, Tryz.ntmps10; go_wp2_with fail
 rw [HW1.out]; refine HCON.out.mono ?_; rintro e w2 ⟨rfl, hb2⟩; have hS2 := HS1.out.below hb2; have x0 : w2.cell? ⟨w.heap.size, 0, none⟩ = some (.int .i64 5) := (hb2.cell (by have := HSZ1.out; simp; omega)).trans (HX1.out 0)
 obtain ⟨a6, c6, e6, hk6⟩ := hS2.m6; have mn := hS2.mn; have y1 : w2.cell? ⟨b, 1, none⟩ = some (.int .i64 d.m.kind) := by rw [<- hS2.m1]; exact hS2.blk.cell (by omega)
 have y2 : w2.cell? ⟨b, 2, none⟩ = some (.int .i64 d.m.frm) := by rw [<- hS2.m2]; exact hS2.blk.cell (by omega)
 have y3 : w2.cell? ⟨b, 3, none⟩ = some (.int .i64 d.m.inc) := by rw [<- hS2.m3]; exact hS2.blk.cell (by omega)
 have y4 : w2.cell? ⟨b, 4, none⟩ = some (.int .i64 d.m.seq) := by rw [<- hS2.m4]; exact hS2.blk.cell (by omega)
 have y5 : w2.cell? ⟨b, 5, none⟩ = some (.int .i64 d.m.tgt) := by rw [<- hS2.m5]; exact hS2.blk.cell (by omega)
 have y6 : w2.cell? ⟨b, 6, none⟩ = some (.slice a6 d.m.ups.length c6) := by rw [<- e6]; exact hS2.blk.cell (by omega)
 have henc := Hd (encoded_any d.m a6 d.m.ups.length c6 w2 rfl (by omega) hk6.1 (HG1.out.below hb2))
 have HS2 := Hd hS2; have HB2 := Hd (HB1.out.trans (hb2.mono HB1.out.size)); clear hb2 hS2 e6 hk6; go_wp2_with fail
 refine henc.out.mono ?_; rintro e w3 ⟨S, rfl, hSS, hb3⟩; have hS3 := HS2.out.below hb3; have HB3 := Hd (HB2.out.trans (hb3.mono HB2.out.size)); obtain ⟨ta, tc, e0⟩ := hS3.t0; obtain ⟨m, hm⟩ : ∃ m, d.ts.length = m := ⟨_, rfl⟩; have htn := hS3.tn; rw [hm] at e0 htn; have c0 : w3.cell? ⟨b, 0, none⟩ = some (.slice ta m tc) := by rw [<- e0]; exact hS3.blk.cell (by omega)
 have fr0 := hS3.blk.free 0; have htr := hS3.tr; rw [e0, hm] at htr; have hBw : B0 <= w3.heap.size := by have := HB3.out.size; omega
 have ca : ∀ o, (w3.alloc o).cell? ⟨b, 0, none⟩ = some (.slice ta m tc) := fun o => by rw [World.cell?_alloc_lt _ _ _ (World.block_lt_of_cell? _ _ c0)]; exact c0
 have hnew := Kt w3 [.string S] 9 (n := w3.heap.size) rfl; have HRW := Hd (htr.alloc (.cells #[.string S] 9)); have HNEW : Hid (∀ j u, [Value.string S][j]? = some u -> (w3.alloc (.cells #[.string S] 9)).cell? ((⟨w3.heap.size, 0, none⟩ : Addr).add j) = some u) := hnew; have HM := Hd hm; have E0 := Hd e0; have HS3 := Hd hS3; have k3 : m + 1 <= maxLen := by unfold maxLen; omega
 have K3 := Hd k3; have hSz : S.size <= 16384 := by omega
 have HSS := Hd hSz; obtain ⟨i0, hi, hz0, hz1, hz2⟩ := info_parts info_string; clear hm e0 htr hnew k3 hS3 hSz hb3 y1 y2 y3 y4 y5 y6 hSS; go_wp2_with (at_builtin; go_loud (refine wpList_append_to _ rfl _ _ 30 rfl B0 9 i0 _ 1 16 Tryz.underlying30 hi hz0 hz1 hz2 rfl (by decide) (.slice ta m tc) m _ rfl HRW.out ⟨w3.heap.size, 0, none⟩ 1 1 _ rfl rfl HNEW.out (by simp [Value.oneCell']) (by omega) K3.out (by omega) (by simp; omega) ?_))
 intro g gc w4 hl4 hto4; obtain ⟨ct, ft, hS4, hC4⟩ := HS3.out.text HSS.out ((Below.refl _ _).alloc (Nat.le_refl _) (.cells #[.string S] 9)) (by rw [HM.out]; exact hl4) (by rw [E0.out]; exact hto4)
 have HS4 := Hd hS4; have HC4 := Hd hC4; rw [HM.out] at HS4 HC4; rw [E0.out] at ct; clear hS4 hC4 hl4 hto4; go_wp2; go_ret
 exact ⟨rfl, _, _, HS4.out.mono (by omega), .upd (by omega), Below.andChg HB3.out HC4.out⟩
theorem step_decode (B0 b n : Nat) (w : World) (f : Nat -> Value) (d : Sd) (h : SAt B0 b n w f d) (hg : Jc w) (o : Sop) (ho : o.Ok) (hk : o.kind = 6) (hn : n <= 100000) :
  Calls Tryz.prog 10 #[.pointer (some ⟨b, 0, none⟩), o.v] w (StepPost B0 b n w f) := by
 obtain ⟨kind, x, oa, ob, oc, od, oe, s⟩ := o; simp only at hk; subst hk; obtain ⟨_, _, ha, hbb, hcc, hdd, hee, hs⟩ := ho; simp only at ha hbb hcc hdd hee hs; obtain ⟨w1, hw1⟩ : ∃ w1, w.alloc (.cells #[.int .i64 6, .int .i64 x, .int .i64 oa, .int .i64 ob, .int .i64 oc, .int .i64 od, .int .i64 oe, .string s] 28) = w1 := ⟨_, rfl⟩; have hb1 : Below w.heap.size w w1 := by rw [<- hw1]; exact (Below.refl _ _).alloc (Nat.le_refl _) _
 have hx1 : w1.heap[w.heap.size]? = some (.cells #[.int .i64 6, .int .i64 x, .int .i64 oa, .int .i64 ob, .int .i64 oc, .int .i64 od, .int .i64 oe, .string s] 28 (0, 0)) := by rw [<- hw1]; exact Kc w _
 have hsz1 : w1.heap.size = w.heap.size + 1 := by rw [<- hw1]; simp
 have hB0 : B0 <= w.heap.size := by have := h.hB; have := h.blk.lt; omega
 have hlt := h.blk.lt; have H := Hd h; have HS1 := Hd (h.below hb1); have HX1 := Hd (Ka hx1); have HXB := Hd hx1; have HSZ1 := Hd hsz1; have HB1 := Hd hb1; have HW1 := Hd hw1; have HG1 := Hd (hg.below hb1); clear hb1 hx1 hsz1 h hw1 hg; have hnk : ¬ ownKind 6 := by decide
 have HCON := Hd (owner_none b w1 ⟨6, x, oa, ob, oc, od, oe, s⟩ hnk); clear hnk; unfold Sop.v at *; go_enter Tryz.func10, Tryz.ntmps10; go_wp2_with fail
 rw [HW1.out]; refine HCON.out.mono ?_; rintro e w2 ⟨rfl, hb2⟩; have x0 : w2.cell? ⟨w.heap.size, 0, none⟩ = some (.int .i64 6) := (hb2.cell (by have := HSZ1.out; simp; omega)).trans (HX1.out 0)
 have x2 : w2.cell? ⟨w.heap.size, 2, none⟩ = some (.int .i64 oa) := (hb2.cell (by have := HSZ1.out; simp; omega)).trans (HX1.out 2)
 have HB2 := Hd (HB1.out.trans (hb2.mono HB1.out.size)); have HG2 := Hd (HG1.out.below hb2); have HTX := Hd (text_any B0 b n w2 f d (HS1.out.below hb2) oa ha (by omega))
 clear hb2; go_wp2_with fail
 refine HTX.out.mono ?_; rintro e w3 ⟨t, rfl, ht, hb3⟩; have HB3 := Hd (HB2.out.trans (hb3.mono HB2.out.size)); have HDE := Hd (decoded_any t w3 (by unfold maxLen; omega) (HG2.out.below hb3))
 have hsz3 : w.heap.size <= w3.heap.size := HB3.out.size; clear hb3 x0 x2 ht; go_wp2_with fail
 refine HDE.out.mono ?_; rintro e w4 ⟨m, a6, nu, c6, v, rfl, hmu, hnu, ⟨hrk, hrkn⟩, hrow, hb4⟩; obtain ⟨la, lc, rfl⟩ := Kg hrow; have hB4 : Below w.heap.size w w4 := HB3.out.trans (hb4.mono HB3.out.size); have hS4 := H.out.below hB4; have y1 := hS4.blk.cell (i := 1) (by omega)
 have y2 := hS4.blk.cell (i := 2) (by omega)
 have y3 := hS4.blk.cell (i := 3) (by omega)
 have y4 := hS4.blk.cell (i := 4) (by omega)
 have y5 := hS4.blk.cell (i := 5) (by omega)
 have y6 := hS4.blk.cell (i := 6) (by omega)
 have fr := hS4.blk.free; have hsz4 : w3.heap.size <= w4.heap.size := hb4.size; have HS4 := Hd hS4; have HB4 := Hd hB4; have HRK := Hd hrk; have HRKN : Hid (∀ p, a6 = some p -> w.heap.size <= p.block) := Hd (fun p hp => Nat.le_trans hsz3 (hrkn p hp))
 have HROW := Hd hrow; have HMU := Hd hmu; clear hb4 hB4 hS4 hrk hrow hmu hrkn; unfold M.agg; go_wp2_with fail
 obtain ⟨w5, hw5⟩ : ∃ w5, (((((w4.setCell ⟨b, 1, none⟩ (.int .i64 m.kind)).setCell ⟨b, 2, none⟩ (.int .i64 m.frm)).setCell ⟨b, 3, none⟩ (.int .i64 m.inc)).setCell ⟨b, 4, none⟩ (.int .i64 m.seq)).setCell ⟨b, 5, none⟩ (.int .i64 m.tgt)).setCell ⟨b, 6, none⟩ (.slice a6 nu c6) = w5 := ⟨_, rfl⟩; rw [hw5]
 have hc5 : Chg (fun k _ => k = b) w4 w5 := by
  rw [<- hw5]; exact ((((((Chg.refl (fun k _ => k = b) w4).setCell (p := ⟨b, 1, none⟩) _ (fun _ _ => rfl)).setCell (p := ⟨b, 2, none⟩) _ (fun _ _ => rfl)).setCell (p := ⟨b, 3, none⟩) _ (fun _ _ => rfl)).setCell (p := ⟨b, 4, none⟩) _ (fun _ _ => rfl)).setCell (p := ⟨b, 5, none⟩) _ (fun _ _ => rfl)).setCell (p := ⟨b, 6, none⟩) _ (fun _ _ => rfl)
 obtain ⟨F, hF⟩ : ∃ F, upd (upd (upd (upd (upd (upd f 1 (.int .i64 m.kind)) 2 (.int .i64 m.frm)) 3 (.int .i64 m.inc)) 4 (.int .i64 m.seq)) 5 (.int .i64 m.tgt)) 6 (.slice a6 nu c6) = F := ⟨_, rfl⟩
 have hblk5 : WB w5 b F := by
  rw [<- hw5, <- hF]; exact (((((HS4.out.blk.set (i := 1) (by omega) (.int .i64 m.kind)).set (i := 2) (by omega) (.int .i64 m.frm)).set (i := 3) (by omega) (.int .i64 m.inc)).set (i := 4) (by omega) (.int .i64 m.seq)).set (i := 5) (by omega) (.int .i64 m.tgt)).set (i := 6) (by omega) (.slice a6 nu c6)
 have hF16 : F 16 = f 16 := by rw [<- hF]; simp [upd]
 have hF17 : F 17 = f 17 := by rw [<- hF]; simp [upd]
 have hF20 : F 20 = .int .i64 d.mark := by rw [<- hF]; simpa [upd] using H.out.m20
 have hlx5 := Kq HS4.out.lx hc5 (fun g o e h => HS4.out.blk.neOwn HS4.out.lx (by decide) (h ▸ e))
 have hly5 := Kq HS4.out.ly hc5 (fun g o e h => HS4.out.blk.neOwn HS4.out.ly (by decide) (h ▸ e))
 have hrow5 := Kq HROW.out hc5 (fun g o e h => HS4.out.blk.neOwn HROW.out (by decide) (h ▸ e))
 have hrk5 := HRK.out.typed hc5 (fun k o hk e cs fr ho => by
  subst e; obtain ⟨cs', hb'⟩ := HS4.out.blk.block; rw [hb'] at hk; cases hk; cases ho)
 have hln := H.out.ln; have hmb := H.out.mb; have hsz5 : w4.heap.size <= w5.heap.size := hc5.size; have hB0w : B0 <= w5.heap.size := by omega
 have hkeep := keep_any b F (f 16) (f 17) d.xs d.ys d.xs.length d.mark m.ups la nu lc B0 w3.heap.size w5 hblk5 hF16 hF17 hF20 hlx5 hly5 HS4.out.lne (by omega) (by omega) (by omega) hB0w (by omega) hrow5
 have HKEEP := Hd hkeep; have HC5 := Hd hc5; have HF := Hd hF; have HRK5 := Hd hrk5; have HBLK5 := Hd hblk5; have HLX5 := Hd hlx5; have HLY5 := Hd hly5; have HROW5 := Hd hrow5; clear hw5 hc5 hF hblk5 hF16 hF17 hF20 hlx5 hly5 hrow5 hrk5 hkeep y1 y2 y3 y4 y5 y6 fr; refine HKEEP.out.mono ?_; rintro e w6 ⟨lv, wv, v2, u1, u2, rfl, hblk6, hlx6, hly6, hne6, hh1, hh2, hC6⟩; have hown : ∀ (g : Nat), (Value.slice la nu lc).ownBlock = some g -> w.heap.size <= g := fun g e => by have := (HROW.out.lt g e).1; omega
 have hcF : Chg (fun k _ => k = b \/ (f 16).ownBlock = some k \/ (f 17).ownBlock = some k \/ w.heap.size <= k) w w6 := by
  have h1 : Chg (fun k _ => k = b \/ (f 16).ownBlock = some k \/ (f 17).ownBlock = some k \/ w.heap.size <= k) w w4 := ⟨HB4.out.os, HB4.out.tape, HB4.out.output, HB4.out.size, fun k o hk _ => (HB4.out.block k (Kb hk)).trans hk⟩
  refine (h1.trans (HC5.out.mono (fun k o _ e => .inl e))).trans (hC6.mono (fun k o _ h => ?_))
  rcases h with h | h | h | h | h
  · exact .inl h
  · exact .inr (.inl h)
  · exact .inr (.inr (.inl h))
  · exact .inr (.inr (.inr (hown k h)))
  · have := HB4.out.size; exact .inr (.inr (.inr (by omega)))
 have hT : ∀ k o, w.heap[k]? = some o -> (k = b \/ (f 16).ownBlock = some k \/ (f 17).ownBlock = some k \/ w.heap.size <= k) -> B0 <= k /\ ∃ cs t fr, o = .cells cs t fr /\ t ∈ [41, 46] := by
  intro k o hk hs; rcases hs with rfl | hs | hs | hs
  · obtain ⟨cs, hb⟩ := H.out.blk.block
    rw [hb] at hk; cases hk; exact ⟨H.out.hB, _, _, _, rfl, by simp⟩
  · obtain ⟨hB, cur, hg⟩ := Ke H.out.lx hs
    rw [hg] at hk; cases hk; exact ⟨hB, _, _, _, rfl, by simp⟩
  · obtain ⟨hB, cur, hg⟩ := Ke H.out.ly hs
    rw [hg] at hk; cases hk; exact ⟨hB, _, _, _, rfl, by simp⟩
  · have := Kb hk; omega
 have KK := H.out.kept hcF (fun k o hk hs => (hT k o hk hs).2)
 have hrk6 := HRK5.out.typed hC6 (fun k o hk hs cs fr ho => by
  subst ho; rcases hs with hs | hs | hs | hs | hs
  · subst hs
    obtain ⟨cs', hb'⟩ := HBLK5.out.block; rw [hb'] at hk; simp only [Option.some.injEq, Obj.cells.injEq] at hk; exact absurd hk.2.1 (by decide)
  · obtain ⟨_, cur, hg⟩ := Ke HLX5.out hs
    rw [hg] at hk; simp only [Option.some.injEq, Obj.cells.injEq] at hk; exact absurd hk.2.1 (by decide)
  · obtain ⟨_, cur, hg⟩ := Ke HLY5.out hs
    rw [hg] at hk; simp only [Option.some.injEq, Obj.cells.injEq] at hk; exact absurd hk.2.1 (by decide)
  · obtain ⟨_, cur, hg⟩ := Ke HROW5.out hs
    rw [hg] at hk; simp only [Option.some.injEq, Obj.cells.injEq] at hk; exact absurd hk.2.1 (by decide)
  · have := Kb hk; omega)
 have hyl : d.ys.length = d.xs.length := by have := H.out.ly.1; omega
 have hxs : (d.xs ++ [.slice la nu lc, v2]).length = d.xs.length + 2 := by simp
 obtain ⟨la6, lc6, e16⟩ := Kg hlx6; obtain ⟨wa6, wc6, e17⟩ := Kg hly6; obtain ⟨G, hG⟩ : ∃ G, upd (upd (upd F 16 lv) 17 wv) 20 (.int .i64 (d.mark + nu + 2)) = G := ⟨_, rfl⟩; rw [hG] at hblk6; have g1 : G 1 = .int .i64 m.kind := by rw [<- hG, <- HF.out]; simp [upd]
 have g2 : G 2 = .int .i64 m.frm := by rw [<- hG, <- HF.out]; simp [upd]
 have g3 : G 3 = .int .i64 m.inc := by rw [<- hG, <- HF.out]; simp [upd]
 have g4 : G 4 = .int .i64 m.seq := by rw [<- hG, <- HF.out]; simp [upd]
 have g5 : G 5 = .int .i64 m.tgt := by rw [<- hG, <- HF.out]; simp [upd]
 have g6 : G 6 = .slice a6 nu c6 := by rw [<- hG, <- HF.out]; simp [upd]
 have g16 : G 16 = lv := by rw [<- hG]; simp [upd]
 have g17 : G 17 = wv := by rw [<- hG]; simp [upd]
 have g20 : G 20 = .int .i64 (d.mark + nu + 2) := by rw [<- hG]; simp [upd]
 have g14 : K14 w f G := ⟨by rw [<- hG, <- HF.out]; simp [upd], fun i hi k hk => by
  rcases hi with rfl | rfl
  · rw [g6] at hk
    refine .inr ?_; cases a6 with
    | none => simp [Value.ownBlock] at hk
    | some p =>
     simp only [Value.ownBlock, Option.some.injEq] at hk; subst hk; exact HRKN.out p rfl
  · exact .inl (by rw [<- hG, <- HF.out] at hk; simpa [upd] using hk)⟩
 have hS := H.out.turnML (d' := { d with m := m, xs := d.xs ++ [.slice la nu lc, v2], ys := d.ys ++ [u1, u2], mark := d.mark + nu + 2 }) KK hblk6
  (fun i _ h1 h2 h3 h4 h5 h6 h16 h17 h20 => by rw [<- hG, <- HF.out]; simp [upd, h1, h2, h3, h4, h5, h6, h16, h17, h20]) rfl rfl rfl rfl rfl (by decide) (by decide) (by decide) (by decide) (by decide)
  g1 g2 g3 g4 g5 ⟨a6, c6, by rw [g6, HMU.out], hrk6⟩ (by show m.ups.length <= n + 1 + 8; have := HMU.out; omega)
  ⟨la6, lc6, by rw [g16, e16, hxs]⟩ ⟨wa6, wc6, by rw [g17, e17, hxs]⟩ (by rw [g16, hxs]; exact hlx6) (by rw [g17, hxs]; exact hly6) (by rw [hxs]; omega) (by rw [g16, g17]; exact hne6)
  (fun i v u hv hu => by
   by_cases hi : i < d.xs.length
   · rw [List.getElem?_append_left hi] at hv
     rw [List.getElem?_append_left (by omega)] at hu
     refine ((H.out.lh i v u hv hu).chg hcF (fun k cs fr hk hck hs => ?_)).mono hcF.size
     obtain ⟨_, cs', t', fr', eo, ht'⟩ := hT k _ hck hs; simp only [Obj.cells.injEq] at eo; rw [<- eo.2.1] at ht'; exact absurd ht' (by decide)
   · rw [List.getElem?_append_right (by omega)] at hv
     rw [List.getElem?_append_right (by omega), hyl] at hu
     obtain ⟨j, hj⟩ : ∃ j, i - d.xs.length = j := ⟨_, rfl⟩; rw [hj] at hv hu; rcases j with _ | _ | j
     · simp only [List.getElem?_cons_zero, Option.some.injEq] at hv hu; rw [<- hv, <- hu]; exact hh1
     · simp only [List.getElem?_cons_succ, List.getElem?_cons_zero, Option.some.injEq] at hv hu; rw [<- hv, <- hu]; exact hh2
     · simp at hv)
  g20 (by show 0 <= d.mark + (nu : Int) + 2 /\ d.mark + (nu : Int) + 2 <= 100 * ((n + 1 : Nat) : Int); omega)
 have hCF : Chg (SQ B0 b) w w6 := ⟨hcF.os, hcF.tape, hcF.output, hcF.size, fun k o hk hs => hcF.kept k o hk (fun h => hs (by
  obtain ⟨hB, cs, t', fr, eo, ht'⟩ := hT k o hk h; refine ⟨hB, .inr ⟨cs, t', fr, eo, ?_⟩⟩; simp only [List.mem_cons, List.not_mem_nil, or_false] at ht'; rcases ht' with rfl | rfl <;> simp [Zb]))⟩
 have HS := Hd hS; have HCF := Hd hCF; have HG14 := Hd g14; clear hblk6 hlx6 hly6 hne6 hh1 hh2 hC6 hown hcF hT KK hrk6 hG g1 g2 g3 g4 g5 g6 g16 g17 g20 g14 hS hCF e16 e17; obtain ⟨p16, q16, z16⟩ := HS.out.l16; obtain ⟨p17, q17, z17⟩ := HS.out.l17; obtain ⟨p18, q18, z18⟩ := HS.out.l18; obtain ⟨p19, q19, z19⟩ := HS.out.l19; have a16 := HS.out.lx; have a17 := HS.out.ly; have a18 := HS.out.lo; have a19 := HS.out.lk; rw [z16] at a16; rw [z17] at a17; rw [z18] at a18; rw [z19] at a19; have hlon := HS.out.lon; have hlnn := HS.out.ln; have HLK := Hd (looks_any b G p16 p17 p18 p19 q16 q17 q18 q19 _ _ _ _ _ _ B0 w6.heap.size w6 HS.out.blk z16 z17 z18 z19 a16 a17 a18 a19 (by omega) (by omega) HS.out.lh HS.out.lp)
 clear z16 z17 z18 z19 a16 a17 a18 a19; go_wp2_with fail
 refine HLK.out.mono ?_; rintro e w7 ⟨rfl, hb7⟩; have HS7 := Hd (HS.out.below hb7); have HB7 := Hd (HCF.out.trans ⟨hb7.os, hb7.tape, hb7.output, hb7.size, fun k o hk _ => (hb7.block k (Kb hk)).trans hk⟩)
 clear hb7; go_wp2; go_ret
 exact ⟨rfl, _, _, HS7.out.mono (by omega), HG14.out, HB7.out⟩
theorem step_skip (B0 b n : Nat) (w : World) (f : Nat -> Value) (d : Sd) (h : SAt B0 b n w f d) (o : Sop) (hk : ¬ ownKind o.kind) (h5 : o.kind ≠ 5) (h6 : o.kind ≠ 6) (h9 : o.kind ≠ 9) (h11 : o.kind ≠ 11) (hr : o.kind < 10 \/ 18 < o.kind)
  (na : Option Addr) (nl nc : Nat) (hn : f 14 = .slice na nl nc) :
  Calls Tryz.prog 10 #[.pointer (some ⟨b, 0, none⟩), o.v] w (StepPost B0 b n w f) := by
 have hw1 : Below w.heap.size w (w.alloc (.cells #[.int .i64 o.kind, .int .i64 o.x, .int .i64 o.a, .int .i64 o.b, .int .i64 o.c, .int .i64 o.d, .int .i64 o.e, .string o.s] 28)) := (Below.refl _ _).alloc (Nat.le_refl _) _; have HCON := Hd (owner_none b (w.alloc (.cells #[.int .i64 o.kind, .int .i64 o.x, .int .i64 o.a, .int .i64 o.b, .int .i64 o.c, .int .i64 o.d, .int .i64 o.e, .string o.s] 28)) o hk); have hx1 := Ka (Kc w (.cells #[.int .i64 o.kind, .int .i64 o.x, .int .i64 o.a, .int .i64 o.b, .int .i64 o.c, .int .i64 o.d, .int .i64 o.e, .string o.s] 28)) 0; simp only [List.getElem?_toArray, List.getElem?_cons_zero] at hx1; obtain ⟨kind, x, oa, ob, oc, od, oe, s⟩ := o; simp only at hk h5 h6 h9 h11 hr hx1 hw1 HCON; have b5 : (kind == 5) = false := beq_eq_false_iff_ne.2 h5; have b6 : (kind == 6) = false := beq_eq_false_iff_ne.2 h6; have b9 : (kind == 9) = false := beq_eq_false_iff_ne.2 h9; have b11 : (kind == 11) = false := beq_eq_false_iff_ne.2 h11; have H := Hd h; have HX1 := Hd hx1; have HB1 := Hd hw1; have HN := Hd hn; clear hw1 h hk h5 h6 h9 h11 hx1 hn; unfold Sop.v at *; go_enter Tryz.func10, Tryz.ntmps10; go_wp2_with fail
 refine HCON.out.mono ?_; rintro e w2 ⟨rfl, hb2⟩; have hS2 := (H.out.below HB1.out).below hb2; have x0 : w2.cell? ⟨w.heap.size, 0, none⟩ = some (.int .i64 kind) := (hb2.cell (by simp)).trans HX1.out
 have c14 : w2.cell? ⟨b, 14, none⟩ = some (.slice na nl nc) := by rw [<- HN.out]; exact hS2.blk.cell (by omega)
 have HB2 := Hd (HB1.out.trans (hb2.mono HB1.out.size)); have HS2 := Hd hS2; clear hb2 hS2; have hfin : StepPost B0 b n w f (.returned (.bool true)) w2 := ⟨rfl, f, d, HS2.out.mono (by omega), .refl _ _, Below.andChg HB2.out (Chg.refl _ _)⟩
 have HFIN := Hd hfin; clear hfin; by_cases h0 : nl = 0
 · subst h0
   go_wp2; go_ret
   exact HFIN.out
 · have hz : ((nl : Int) == 0) = false := by simp; omega
   rcases hr with hr | hr
   · go_wp2
     go_ret
     exact HFIN.out
   · have hr' : ¬ kind < 10 := by omega
     go_wp2; go_ret
     exact HFIN.out
def Sop.cells (o : Sop) : List Value := [.int .i64 o.kind, .int .i64 o.x, .int .i64 o.a, .int .i64 o.b, .int .i64 o.c, .int .i64 o.d, .int .i64 o.e, .string o.s]
def OpsAt (w : World) (a : Option Addr) (l : List Sop) : Prop :=
 ∀ (i : Nat) (o : Sop), l[i]? = some o -> ∃ b off, a = some ⟨b, off, none⟩ /\ b < w.heap.size /\ ∀ (j : Nat) v, o.cells[j]? = some v -> w.cell? ⟨b, off + i * 8 + j, none⟩ = some v
theorem OpsAt.below {w w' : World} {a : Option Addr} {l : List Sop} (h : OpsAt w a l) (hb : Below w.heap.size w w') : OpsAt w' a l := by
 intro i o ho; obtain ⟨b, off, e, hlt, hc⟩ := h i o ho; exact ⟨b, off, e, Nat.lt_of_lt_of_le hlt hb.size, fun j v hv => (hb.cell hlt).trans (hc j v hv)⟩
def world0 : List Value := [.slice none 0 0, .int .i64 0, .int .i64 0, .int .i64 0, .int .i64 0, .int .i64 0, .slice none 0 0, .slice none 0 0, .int .i64 0, .int .i64 0, .int .i64 0, .int .i64 0, .int .i64 0, .int .i64 0, .slice none 0 0, .slice none 0 0, .slice none 0 0, .slice none 0 0, .slice none 0 0, .slice none 0 0, .int .i64 0]
theorem upTo_any (l : List Sop) (a : Option Addr) (n cap : Nat) (w : World) (hn : l.length = n) (hl : n <= 1000000) (ha : OpsAt w a l) (I : Nat -> World -> Prop)
  (h0 : I 0 (w.alloc (.cells world0.toArray 41))) (hI : ∀ k wr, I k wr -> Below w.heap.size w wr)
  (hstep : ∀ k wr o, I k wr -> l[k]? = some o -> Calls Tryz.prog 10 #[.pointer (some ⟨w.heap.size, 0, none⟩), o.v] wr fun e w' => e = .returned (.bool true) /\ I (k + 1) w') :
  Calls Tryz.prog 9 #[.slice a n cap] w fun e w' => e = .returned (.int .i64 (-1)) /\ Below w.heap.size w w' := by
 have HA := Hd ha; have HN := Hd hn; have H0 := Hd h0; have HI := Hd hI; have HST := Hd hstep; clear ha hn h0 hI hstep; go_enter Tryz.func9, Tryz.ntmps9; go_wp2_with fail
 go_loopw [4] (fun i wr => ∃ k : Nat, k <= n /\ i = .int .i64 k /\ I k wr) (fun i _ => n - (intOf i).toNat)
 case atStart => exact ⟨0, Nat.zero_le _, rfl, H0.out⟩
 case round =>
  obtain ⟨k, hkn, rfl, hik⟩ := hrel; by_cases hlt : k < n
  · have hlt' : k < l.length := by have := HN.out; omega
    obtain ⟨bb, off, rfl, hbb, hcc⟩ := HA.out k l[k] (List.getElem?_eq_getElem hlt'); have hb := HI.out k wr hik; have c0 := (hb.cell hbb).trans (hcc 0 _ rfl); have c1 := (hb.cell hbb).trans (hcc 1 _ rfl); have c2 := (hb.cell hbb).trans (hcc 2 _ rfl); have c3 := (hb.cell hbb).trans (hcc 3 _ rfl); have c4 := (hb.cell hbb).trans (hcc 4 _ rfl); have c5 := (hb.cell hbb).trans (hcc 5 _ rfl); have c6 := (hb.cell hbb).trans (hcc 6 _ rfl); have c7 := (hb.cell hbb).trans (hcc 7 _ rfl); have HS := Hd (HST.out k wr l[k] hik (List.getElem?_eq_getElem hlt')); obtain ⟨o, ho⟩ : ∃ o, l[k] = o := ⟨_, rfl⟩; rw [ho] at c0 c1 c2 c3 c4 c5 c6 c7 HS; rw [Nat.add_zero] at c0; clear hb hik hcc ho; unfold Sop.v at HS; go_wp2_with fail
    refine HS.out.mono ?_; rintro e w2 ⟨rfl, hi2⟩; have HI2 := Hd hi2; clear hi2 c0 c1 c2 c3 c4 c5 c6 c7; go_wp2_with fail
    exact ⟨⟨k + 1, by omega, by go_num, HI2.out⟩, by simp [intOf]; omega⟩
  · have hk' : k = n := by omega
    subst hk'; go_wp2; go_ret
    exact ⟨rfl, HI.out _ _ hik⟩
