/-
  Texts of the proof: StepAll, LawsN. No condition.
-/
import Derived.Test.YtfngdplkcppabaaGreatDoorPart01
import Derived.Test.YtfngdplkcppabaaGreatDoorPart32
import Derived.Test.YtfngdplkcppabaaGreatDoorPart08
set_option linter.all false
set_option maxRecDepth 100000
set_option maxHeartbeats 4000000
namespace Go.Proofs.YtfngdplkcppabaaGreatDoor
open Go.RowKit
theorem StepPost.npost {Bh B0 b n : Nat} {w w' : World} {f : Nat -> Value} {d : Sd} {F : Nat -> Prop} {l : List En} {e : Ending} (h : PAt Bh B0 b n w f d F l) (hl : ∀ e ∈ l, Alike n e) (hp : StepPost B0 b n w f e w') : e = .returned (.bool true) /\ Zg B0 b (n + 3) w w' := by
 obtain ⟨rfl, f', d', hS, hK, hC⟩ := hp; obtain ⟨F', hP⟩ := h.stepSQ hS hK hC (by omega)
 exact ⟨rfl, hC.belowB h.B0w, f', d', F', l, hP, fun e he => (hl e he).mono (by omega)⟩
theorem Zg.more {B0 b n m : Nat} {w w' : World} (h : Zg B0 b n w w') (hn : n <= m) : Zg B0 b m w w' := by
 obtain ⟨hb, f, d, F, l, hP, hl⟩ := h; exact ⟨hb, f, d, F, l, hP.mono hn, fun e he => (hl e he).mono hn⟩
theorem step_deliver {Bh B0 b n : Nat} {w00 : World} {f : Nat -> Value} {d : Sd} {F : Nat -> Prop} {l : List En} (h00 : PAt Bh B0 b n w00 f d F l) (hn : n <= 90000) (hl : ∀ e ∈ l, Alike n e) (o : Sop) (ho : o.Ok) (hk : o.kind = 11) :
  Calls Tryz.prog 10 #[.pointer (some ⟨b, 0, none⟩), o.v] w00 fun e w' => e = .returned (.bool true) /\ Zg B0 b (n + 2) w00 w' := by
 have hdl := fun w' (hb : Below w00.heap.size w00 w') => delivered_any (h00.below hb) hn hl o ho
 obtain ⟨kind, x, oa, ob, oc, od, oe, s⟩ := o; simp only at hk; subst hk; obtain ⟨w1, hw1⟩ : ∃ w1, w00.alloc (.cells #[.int .i64 11, .int .i64 x, .int .i64 oa, .int .i64 ob, .int .i64 oc, .int .i64 od, .int .i64 oe, .string s] 28) = w1 := ⟨_, rfl⟩; have hb1 : Below w00.heap.size w00 w1 := by rw [<- hw1]; exact (Below.refl _ _).alloc (Nat.le_refl _) _
 have hx1 : w1.heap[w00.heap.size]? = some (.cells #[.int .i64 11, .int .i64 x, .int .i64 oa, .int .i64 ob, .int .i64 oc, .int .i64 od, .int .i64 oe, .string s] 28 (0, 0)) := by rw [<- hw1]; exact Kc w00 _
 have hnk : ¬ ownKind 11 := by decide
 have HCON := Hd (owner_none b w1 ⟨11, x, oa, ob, oc, od, oe, s⟩ hnk); have HX1 := Hd hx1; have HB1 := Hd hb1; have HW1 := Hd hw1; have HDL := Hd hdl; have hlx1 := Kb hx1; have hB0w := h00.B0w; clear hb1 hx1 hw1 hnk hl h00 hdl; unfold Sop.v at *; go_enter Tryz.func10, Tryz.ntmps10; go_wp2_with fail
 rw [HW1.out]; refine HCON.out.mono ?_; rintro e w2 ⟨rfl, hb2⟩; have hx2 : w2.heap[w00.heap.size]? = _ := (hb2.block _ hlx1).trans HX1.out; have y := Ka hx2; have x0 := y 0; have x1 := y 1; have x2 := y 2; have x3 := y 3; have x4 := y 4; have x5 := y 5; have x6 := y 6; have x7 := y 7; simp only [List.getElem?_toArray, List.getElem?_cons_succ, List.getElem?_cons_zero] at x0 x1 x2 x3 x4 x5 x6 x7; have hb02 : Below w00.heap.size w00 w2 := HB1.out.trans (hb2.mono HB1.out.size); have HD2 := Hd (HDL.out w2 hb02); have HB2 := Hd (hb02.mono hB0w); clear y hx2 hb2 hb02; go_wp2_with fail
 refine HD2.out.mono ?_; rintro e w3 ⟨rfl, hpost⟩; have HPO := Hd (hpost.from HB2.out); clear hpost; go_wp2; go_ret
 exact ⟨rfl, HPO.out⟩
theorem step_node {Bh B0 b n : Nat} {w00 : World} {f : Nat -> Value} {d : Sd} {F : Nat -> Prop} {l : List En} (h00 : PAt Bh B0 b n w00 f d F l) (hn : n <= 90000) (hl : ∀ e ∈ l, Alike n e) (hg : Jc w00) (hBp : 0 < B0) (o : Sop) (ho : o.Ok) (hk : o.kind = 10 \/ (13 <= o.kind /\ o.kind <= 18)) :
  Calls Tryz.prog 10 #[.pointer (some ⟨b, 0, none⟩), o.v] w00 fun e w' => e = .returned (.bool true) /\ Zg B0 b (n + 1) w00 w' := by
 have hon : ∀ w', Below w00.heap.size w00 w' -> ∀ (i : Nat) (e : En), l[i]? = some e -> Calls Tryz.prog 20 #[.pointer (some ⟨b, 0, none⟩), e.v, o.v] w' fun e w'' => e = .returned (.bool true) /\ Zg B0 b (n + 1) w' w'' := by
  intro w' hb i e hi; have h := h00.below hb; have hg' := hg.below hb; rcases (by omega : o.kind = 10 \/ o.kind = 13 \/ o.kind = 14 \/ o.kind = 15 \/ o.kind = 16 \/ o.kind = 17 \/ o.kind = 18) with k | k | k | k | k | k | k
  · exact onNode_receive h (by omega) hl hi o ho k
  · exact onNode_join h (by omega) hl hg' hBp hi o k
  · exact onNode_leave h (by omega) hl hi hg' hBp o k
  · exact onNode_tick h (by omega) hl hi o k
  · exact onNode_drain h (by omega) hl hi o k
  · exact onNode_see h (by omega) hl hi o (.inl k)
  · exact onNode_see h (by omega) hl hi o (.inr k)
 have hnk : ¬ ownKind o.kind := by unfold ownKind; omega
 obtain ⟨kind, x, oa, ob, oc, od, oe, s⟩ := o; simp only at hk hnk; have hxf := ho.x; simp only at hxf; obtain ⟨w1, hw1⟩ : ∃ w1, w00.alloc (.cells #[.int .i64 kind, .int .i64 x, .int .i64 oa, .int .i64 ob, .int .i64 oc, .int .i64 od, .int .i64 oe, .string s] 28) = w1 := ⟨_, rfl⟩; have hb1 : Below w00.heap.size w00 w1 := by rw [<- hw1]; exact (Below.refl _ _).alloc (Nat.le_refl _) _
 have hx1 : w1.heap[w00.heap.size]? = some (.cells #[.int .i64 kind, .int .i64 x, .int .i64 oa, .int .i64 ob, .int .i64 oc, .int .i64 od, .int .i64 oe, .string s] 28 (0, 0)) := by rw [<- hw1]; exact Kc w00 _
 have HCON := Hd (owner_none b w1 ⟨kind, x, oa, ob, oc, od, oe, s⟩ hnk); have b5 : (kind == 5) = false := by simp; omega
 have b6 : (kind == 6) = false := by simp; omega
 have b9 : (kind == 9) = false := by simp; omega
 have b11 : (kind == 11) = false := by simp; omega
 have hl10 : ¬ kind < 10 := by omega
 have hg18 : ¬ 18 < kind := by omega
 have HP := Hd h00; have HL := Hd hl; have HX1 := Hd hx1; have HB1 := Hd hb1; have HW1 := Hd hw1; have HON := Hd hon; have hlx1 := Kb hx1; have hB0w := h00.B0w; clear hb1 hx1 hw1 hnk hl h00 hon hg hBp ho hk; unfold Sop.v at *; go_enter Tryz.func10, Tryz.ntmps10; go_wp2_with fail
 rw [HW1.out]; refine HCON.out.mono ?_; rintro e w2 ⟨rfl, hb2⟩; have hx2 : w2.heap[w00.heap.size]? = _ := (hb2.block _ hlx1).trans HX1.out; have y := Ka hx2; have x0 := y 0; have x1 := y 1; have x2 := y 2; have x3 := y 3; have x4 := y 4; have x5 := y 5; have x6 := y 6; have x7 := y 7; simp only [List.getElem?_toArray, List.getElem?_cons_succ, List.getElem?_cons_zero] at x0 x1 x2 x3 x4 x5 x6 x7; have hb02 : Below w00.heap.size w00 w2 := HB1.out.trans (hb2.mono HB1.out.size); have hP2 := HP.out.below hb02; obtain ⟨na, nc, e14⟩ := hP2.sl; obtain ⟨ln, hln⟩ : ∃ ln, l.length = ln := ⟨_, rfl⟩; have hrow := hP2.row; have hlen := hP2.len; rw [hln] at e14 hrow hlen; rw [e14] at hrow; have c14 : w2.cell? ⟨b, 14, none⟩ = some (.slice na ln nc) := by rw [<- e14]; exact hP2.s.blk.cell (by omega)
 have HROW := Hd hrow; have HLN := Hd hln; have HP2 := Hd hP2; have HB2 := Hd hb02; clear y hx2 hb2 hb02 hP2 hrow hln e14; by_cases h0 : ln = 0
 · subst h0
   have HPO : Hid (Zg B0 b (n + 1) w00 w2) := Hd ⟨HB2.out.mono hB0w, f, d, F, l, (HP2.out.mono (Nat.le_succ n)).base, fun e he => (HL.out e he).mono (Nat.le_succ n)⟩
   clear hl10 hg18; go_wp2; go_ret
   exact ⟨rfl, HPO.out⟩
 · have hm0 : ((ln : Int) == 0) = false := by simp; omega
   have hkm := pickS_lt x ln (by omega)
   obtain ⟨k, hk⟩ : ∃ k, pickS x ln = k := ⟨_, rfl⟩; have hpk := fun W => pickS_any x ln W hxf ⟨by omega, by omega⟩
   rw [hk] at hkm; simp only [hk] at hpk; obtain ⟨e, he⟩ : ∃ e, l[k]? = some e := ⟨_, List.getElem?_eq_getElem (by rw [HLN.out]; exact hkm)⟩
   obtain ⟨ng, no, rfl, hng, n0⟩ := Ki.row HROW.out k e.v (by rw [List.getElem?_map, he]; rfl)
   have hno : no = 0 := by
    rcases HROW.out.2 with ⟨e, _⟩ | ⟨g', cap, cur, e, _⟩
    · simp at e
    · simp only [Value.slice.injEq, Option.some.injEq, Addr.mk.injEq] at e; exact e.1.2.1
   subst hno; rw [Nat.zero_add] at n0; have HPK := Hd hpk; have HNODE := Hd (fun q => HON.out (w2.drewN q) (Below.drewR HB2.out q) k e he)
   have hlt := hkm; clear he hk hpk hxf hng; unfold En.v at *; go_upto_region 30 with (fail)
   have HS := Hd (show ∀ W : World, W.heap = w2.heap -> (W.cell? ⟨b, 14, none⟩ = some (.slice (some ⟨ng, 0, none⟩) ln nc) /\ W.cell? ⟨w00.heap.size, 1, none⟩ = some (.int .i64 x) /\ W.cell? ⟨ng, k, none⟩ = some (.pointer (some ⟨e.nb, 0, none⟩))) from fun W hW => by
    unfold World.cell? at *; rw [hW]; exact ⟨c14, x1, n0⟩)
   go_cut [13] (fun s13 wx => s13 = .pointer (some ⟨e.nb, 0, none⟩) /\ ∃ q, wx = w2.drewN q)
   case first =>
    go_region_held3 (fun w' => w'.cell? ⟨b, 14, none⟩ = some (.slice (some ⟨ng, 0, none⟩) ln nc) /\ w'.cell? ⟨w00.heap.size, 1, none⟩ = some (.int .i64 x) /\ w'.cell? ⟨ng, k, none⟩ = some (.pointer (some ⟨e.nb, 0, none⟩)))
     (first | exact HS.out _ rfl)
     ((go_at_call 19; refine (HPK.out _).mono ?_; rintro e w' ⟨rfl, rfl⟩))
    all_goals
     go_wp2; go_meet
     case rel => exact ⟨rfl, 1, rfl⟩
   case rest =>
   obtain ⟨rfl, q, rfl⟩ := hcut; go_wp2_with fail
   refine (HNODE.out _).mono ?_; rintro e w3 ⟨rfl, hpost⟩; have HLK := Hd (looks_post (hpost.from (Below.drewR (HB2.out.mono hB0w) _)) (by omega))
   clear hpost; go_wp2_with fail
   refine HLK.out.mono ?_; rintro e w4 ⟨rfl, hpost⟩; have HPO := Hd hpost; clear hpost; go_wp2; go_ret
   exact ⟨rfl, HPO.out⟩
theorem step_all {Bh B0 b n : Nat} {w : World} {f : Nat -> Value} {d : Sd} {F : Nat -> Prop} {l : List En} (h : PAt Bh B0 b n w f d F l) (hn : n <= 90000) (hl : ∀ e ∈ l, Alike n e) (hg : Jc w) (hBp : 0 < B0) (o : Sop) (ho : o.Ok) :
  Calls Tryz.prog 10 #[.pointer (some ⟨b, 0, none⟩), o.v] w fun e w' => e = .returned (.bool true) /\ Zg B0 b (n + 3) w w' := by
 by_cases hown : ownKind o.kind
 · exact (step_own B0 b n w f d h.s o ho hown (by omega)).mono (fun e w' hp => hp.npost h hl)
 by_cases h5 : o.kind = 5
 · exact (step_encode B0 b n w f d h.s hg o ho h5 (by omega)).mono (fun e w' hp => hp.npost h hl)
 by_cases h6 : o.kind = 6
 · exact (step_decode B0 b n w f d h.s hg o ho h6 (by omega)).mono (fun e w' hp => hp.npost h hl)
 by_cases h9 : o.kind = 9
 · exact (step_new h hn hl hg hBp o ho h9).mono (fun e w' hp => ⟨hp.1, hp.2.more (by omega)⟩)
 by_cases h11 : o.kind = 11
 · exact (step_deliver h hn hl o ho h11).mono (fun e w' hp => ⟨hp.1, hp.2.more (by omega)⟩)
 by_cases hr : o.kind < 10 \/ 18 < o.kind
 · obtain ⟨na, nc, e14⟩ := h.sl
   exact (step_skip B0 b n w f d h.s o hown h5 h6 h9 h11 hr na l.length nc e14).mono (fun e w' hp => hp.npost h hl)
 · exact (step_node h hn hl hg hBp o ho (by unfold ownKind at hown; omega)).mono (fun e w' hp => ⟨hp.1, hp.2.more (by omega)⟩)
theorem pat0 (w : World) : PAt (w.alloc (.cells world0.toArray 41)).heap.size w.heap.size w.heap.size 0 (w.alloc (.cells world0.toArray 41)) f0 d0 (fun _ => False) [] where
 s := sat0 w
 e := ⟨(fun e h => by cases h), (fun i j c d e e' h => by simp at h), (fun e h => by cases h), (fun k h => h.elim), (fun k h => h.elim)⟩
 row := World.ownsRow_nil _ _ _ _
 sl := ⟨none, 0, rfl⟩
 fr := fun i hi k hk => by rcases hi with rfl | rfl <;> simp [f0, world0, Value.ownBlock] at hk
 len := Nat.le_refl _
 hB := by simp
 hBw := Nat.le_refl _
 held := fun i v u h => by simp [d0] at h
 heldK := fun i v u h => by simp [d0] at h
theorem any_upTo (l : List Sop) (a : Option Addr) (n cap : Nat) (w : World) (hn : l.length = n) (hl : n <= 16384) (ha : OpsAt w a l) (hg : Jc w) (ho : ∀ o ∈ l, o.Ok) :
  Calls Tryz.prog 9 #[.slice a n cap] w fun e w' => e = .returned (.int .i64 (-1)) /\ Below w.heap.size w w' := by
 refine upTo_any l a n cap w hn (by omega) ha (fun k wr => Below w.heap.size w wr /\ (k <= n -> ∃ f d F l', PAt wr.heap.size w.heap.size w.heap.size (3 * k) wr f d F l' /\ ∀ e ∈ l', Alike (3 * k) e)) ?_ (fun k wr h => h.1) ?_
 · exact ⟨(Below.refl _ _).alloc (Nat.le_refl _) _, fun _ => ⟨f0, d0, _, [], pat0 w, by simp⟩⟩
 · intro k wr o ⟨hb, hs⟩ hk
   have hkn : k < n := by
    rcases Nat.lt_or_ge k l.length with h' | h'
    · omega
    · rw [List.getElem?_eq_none h'] at hk; cases hk
   obtain ⟨f, d, F, l', hP, hall⟩ := hs (by omega)
   refine (step_all hP (by omega) hall (hg.below hb) hg.lt o (ho o (List.mem_of_getElem? hk))).mono ?_
   rintro e w' ⟨rfl, hb', f', d', F', l'', hP', hall'⟩; exact ⟨rfl, hb.trans hb', fun _ => ⟨f', d', F', l'', hP'.mono (by omega), fun e he => (hall' e he).mono (by omega)⟩⟩
theorem hears_any (l : List Sop) (a : Option Addr) (n cap : Nat) (w : World) (hn : l.length = n) (hl : n <= 140737488355328) (ha : OpsAt w a l) (hs : ∀ o ∈ l, o.s.size <= 140737488355328) (hg : Jc w) (ho : ∀ o ∈ l, o.s.size <= 16384 -> o.Ok) :
  Calls Tryz.prog 4 #[.slice a n cap] w fun e w' => e = .returned (.bool true) /\ Below w.heap.size w w' := by
 obtain ⟨w1, hw1⟩ : ∃ w1, w.alloc (.cells #[.int .i64 5, .int .i64 9, .int .i64 10, .int .i64 11, .int .i64 13, .int .i64 14, .int .i64 16, .int .i64 17, .int .i64 18] 3) = w1 := ⟨_, rfl⟩; have hb1 : Below w.heap.size w w1 := by rw [<- hw1]; exact (Below.refl _ _).alloc (Nat.le_refl _) _
 have hcs : Ki w1 (some ⟨w.heap.size, 0, none⟩) ([(5 : Int), 9, 10, 11, 13, 14, 16, 17, 18].map (Value.int .i64)) := by
  rw [<- hw1]; intro j v hj; exact ⟨_, 0, rfl, by simp, by rw [Ka (Kc w _), Nat.zero_add]; simpa using hj⟩
 have HP := Hd (plays_any l [(5 : Int), 9, 10, 11, 13, 14, 16, 17, 18] a (some ⟨w.heap.size, 0, none⟩) n cap 9 9 w1 hn hl (ha.below hb1) hs rfl (by omega) hcs (fun l' a' n' cap' w' hm hn' hl' ha' hb' =>
  any_upTo l' a' n' cap' w' hn' hl' ha' ((hg.below hb1).below hb') (fun o hol => ho o (hm o hol).1 (hm o hol).2.2)))
 have HB1 := Hd hb1; have HW1 := Hd hw1; clear hw1 hb1 hcs ha hs ho hg hn; go_enter Tryz.func4, Tryz.ntmps4; go_wp2_with fail
 rw [HW1.out]; refine HP.out.mono ?_; rintro e w2 ⟨rfl, hb2⟩; have HB2 := Hd (HB1.out.trans (hb2.mono HB1.out.size)); clear hb2; go_wp2; go_ret
 exact ⟨rfl, HB2.out⟩
theorem ticks_any (l : List Sop) (a : Option Addr) (n cap : Nat) (w : World) (hn : l.length = n) (hl : n <= 140737488355328) (ha : OpsAt w a l) (hs : ∀ o ∈ l, o.s.size <= 140737488355328) (hg : Jc w) (ho : ∀ o ∈ l, o.s.size <= 16384 -> o.Ok) :
  Calls Tryz.prog 5 #[.slice a n cap] w fun e w' => e = .returned (.bool true) /\ Below w.heap.size w w' := by
 obtain ⟨w1, hw1⟩ : ∃ w1, w.alloc (.cells #[.int .i64 9, .int .i64 11, .int .i64 13, .int .i64 14, .int .i64 15, .int .i64 16, .int .i64 17, .int .i64 18] 3) = w1 := ⟨_, rfl⟩; have hb1 : Below w.heap.size w w1 := by rw [<- hw1]; exact (Below.refl _ _).alloc (Nat.le_refl _) _
 have hcs : Ki w1 (some ⟨w.heap.size, 0, none⟩) ([(9 : Int), 11, 13, 14, 15, 16, 17, 18].map (Value.int .i64)) := by
  rw [<- hw1]; intro j v hj; exact ⟨_, 0, rfl, by simp, by rw [Ka (Kc w _), Nat.zero_add]; simpa using hj⟩
 have HP := Hd (plays_any l [(9 : Int), 11, 13, 14, 15, 16, 17, 18] a (some ⟨w.heap.size, 0, none⟩) n cap 8 8 w1 hn hl (ha.below hb1) hs rfl (by omega) hcs (fun l' a' n' cap' w' hm hn' hl' ha' hb' =>
  any_upTo l' a' n' cap' w' hn' hl' ha' ((hg.below hb1).below hb') (fun o hol => ho o (hm o hol).1 (hm o hol).2.2)))
 have HB1 := Hd hb1; have HW1 := Hd hw1; clear hw1 hb1 hcs ha hs ho hg hn; go_enter Tryz.func5, Tryz.ntmps5; go_wp2_with fail
 rw [HW1.out]; refine HP.out.mono ?_; rintro e w2 ⟨rfl, hb2⟩; have HB2 := Hd (HB1.out.trans (hb2.mono HB1.out.size)); clear hb2; go_wp2; go_ret
 exact ⟨rfl, HB2.out⟩
theorem allLaw_any (l : List Sop) (a : Option Addr) (n cap : Nat) (w : World) (hn : l.length = n) (hl : n <= 140737488355328) (ha : OpsAt w a l) (hs : ∀ o ∈ l, o.s.size <= 140737488355328) (hg : Jc w) (ho : ∀ o ∈ l, o.s.size <= 16384 -> o.Ok) :
  Calls Tryz.prog 6 #[.slice a n cap] w fun e w' => e = .returned (.bool true) /\ Below w.heap.size w w' := by
 have HSM := Hd (small_any l a n cap w hn hl ha hs)
 have HUP : Hid (∀ w', Below w.heap.size w w' -> n <= 16384 -> (∀ o ∈ l, o.s.size <= 16384) -> Calls Tryz.prog 9 #[.slice a n cap] w' fun e w'' => e = .returned (.int .i64 (-1)) /\ Below w'.heap.size w' w'') :=
  Hd (fun w' hb hn' hs' => any_upTo l a n cap w' hn hn' (ha.below hb) (hg.below hb) (fun o h => ho o h (hs' o h)))
 clear ha hs ho hg hn; go_enter Tryz.func6, Tryz.ntmps6; go_wp2_with fail
 refine HSM.out.mono ?_; rintro e w1 ⟨r, rfl, hr, hb1⟩; cases r with
 | false =>
  have HB1 := Hd hb1; clear hr hb1; go_wp2; go_ret
  exact ⟨rfl, HB1.out⟩
 | true =>
  have HU := Hd (HUP.out w1 hb1 (hr rfl).1 (hr rfl).2); have HB1 := Hd hb1; clear hr hb1; go_wp2_with fail
  refine HU.out.mono ?_; rintro e w2 ⟨rfl, hb2⟩; have HB2 := Hd (HB1.out.trans (hb2.mono HB1.out.size)); clear hb2; go_wp2; go_ret
  exact ⟨rfl, HB2.out⟩
