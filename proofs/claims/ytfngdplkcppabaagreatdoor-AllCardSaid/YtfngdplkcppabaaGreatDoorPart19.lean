/-
  Texts of the proof: RfHeardT. No condition.
-/
import Derived.Test.YtfngdplkcppabaaGreatDoorPart01
import Derived.Test.YtfngdplkcppabaaGreatDoorPart18
set_option linter.all false
set_option maxRecDepth 100000
set_option maxHeartbeats 4000000
namespace Go.Proofs.YtfngdplkcppabaaGreatDoor
open Go.RowKit
def zeroMem : Mem := ⟨⟨0, 0, 0⟩, 0⟩
theorem info_mem : (Tryz.prog.info? 149).map (fun i => (i.zero, i.size, i.bytes)) = some (some (.agg #[.int .i64 0, .int .i64 0, .int .i64 0, .int .i64 0]), 4, 32) := by kernel_rfl
theorem mrCells_app (l1 l2 : List Mem) : Jd (l1 ++ l2) = Jd l1 ++ Jd l2 := by simp [Jd]
theorem mrCells_len (l : List Mem) : (Jd l).length = l.length * 4 := flatl (F := mrF) (fun _ => rfl) l
theorem mrCells_one (l : List Mem) : ∀ v ∈ Jd l, v.oneCell' = true := by
 intro v hv; simp only [Jd, List.mem_flatMap, List.mem_cons, List.not_mem_nil, or_false] at hv; obtain ⟨k, _, rfl | rfl | rfl | rfl⟩ := hv <;> rfl
theorem Ki.part {w : World} {B e s n c g : Nat} {xs ys zs : List Value} (h : w.ownsRow B e s (.slice (some ⟨g, 0, none⟩) n c) n (xs ++ ys ++ zs)) {off : Nat} (ho : xs.length = off) : Ki w (some ⟨g, off, none⟩) ys := by
 intro j v hj; have hjl := (List.getElem?_eq_some_iff.1 hj).1
 obtain ⟨b, o, e', hb, hc⟩ := Ki.row h (off + j) v (by
  rw [List.append_assoc, List.getElem?_append_right (by omega), List.getElem?_append_left (by omega)]
  rw [show off + j - xs.length = j by omega]; exact hj)
 cases e'
 rw [Nat.zero_add] at hc; exact ⟨g, off, rfl, hb, hc⟩
theorem Jx (w : World) (l : List Value) (t : TypeId) : Ki (w.alloc (.cells l.toArray t)) (some ⟨w.heap.size, 0, none⟩) l := by
 intro j v hj; exact ⟨_, 0, rfl, by simp, by rw [Ka (Kc w _), Nat.zero_add]; simpa using hj⟩
section
variable {Bo B b : Nat} {w w1 : World} {f f1 : Nat -> Value} {x x1 : Nd} {ps : List Pk}
theorem RSt.sameMr {l1 l2 : List Mem} (h : RSt Bo B b w f w1 f1 { x with others := l1 } ps) (hl : l1.length = l2.length) (hm : Jd l1 = Jd l2) : RSt Bo B b w f w1 f1 { x with others := l2 } ps :=
 ⟨{ h.at_ with oth := by have := h.at_.oth; simp only at this ⊢; rw [<- hl, <- hm]; exact this }, h.out, h.chg, h.own, h.ownW, h.six⟩
theorem mrCells_set {l : List Mem} {p : Nat} {m m' : Mem} (h : mrF m = mrF m') : Jd (l.set p m) = Jd (l.set p m') := by
 rw [mr_eq, mr_eq]
 induction l generalizing p with
 | nil => rfl
 | cons a r ih =>
  cases p with
  | zero => simp only [List.set_cons_zero, List.flatMap_cons]; rw [h]
  | succ p => simp only [List.set_cons_succ, List.flatMap_cons]; rw [ih]
theorem RSt.othAt (h : RSt Bo B b w f w1 f1 x1 ps) (hp : 0 < x1.others.length) : ∃ g c, f1 13 = .slice (some ⟨g, 0, none⟩) x1.others.length c := by
 rcases h.at_.oth.2 with ⟨e1, e2⟩ | ⟨g', cap, cur0, e1, _⟩
 · omega
 · exact ⟨g', cap, e1⟩
theorem RSt.inserted (h : RSt Bo B b w f w1 f1 x1 ps) (hB : B <= w.heap.size) {p : Nat} (hp : p <= x1.others.length) {w5 : World} (hb : Below w1.heap.size w1 w5) {a : Option Addr} {n c : Nat} (hn : n = x1.others.length + 1)
  (hrow : w5.ownsRow w1.heap.size 149 4 (.slice a n c) n (Jd (x1.others.take p) ++ .int .i64 0 :: .int .i64 0 :: .int .i64 0 :: .int .i64 0 :: Jd (x1.others.drop p))) :
  w5.cell? ⟨b, 13, none⟩ = some (f1 13) /\ w5.frozen? ⟨b, 13, none⟩ = false /\ RSt Bo B b w f (w5.setCell ⟨b, 13, none⟩ (.slice a n c)) (upd f1 13 (.slice a n c)) { x1 with others := x1.others.take p ++ zeroMem :: x1.others.drop p } ps := by
 have h5 := h.below hb; have hl : (x1.others.take p ++ zeroMem :: x1.others.drop p).length = n := by simp; omega
 have hc : Jd (x1.others.take p ++ zeroMem :: x1.others.drop p) = Jd (x1.others.take p) ++ .int .i64 0 :: .int .i64 0 :: .int .i64 0 :: .int .i64 0 :: Jd (x1.others.drop p) := by
  rw [mrCells_app]; rfl
 refine ⟨h5.at_.blk.cell (by omega), h5.at_.blk.free _, h5.cell (h5.at_.setOthers (l := x1.others.take p ++ zeroMem :: x1.others.drop p) ?_) (by omega) (fun k hk _ => by have := (hrow.lt k hk).1; have := h.chg.size; omega)⟩
 rw [hl, hc]; exact Jl hrow (by have := h.chg.size; omega)
end
theorem cfg_bounds' {c : Cfg} (h : cfgB c = true) : (1 <= c.self /\ c.self <= 250) /\ (4 <= c.period /\ c.period <= 50) /\ (1 <= c.wait /\ c.wait <= c.period - 2) /\ (1 <= c.susp /\ c.susp <= 500) /\ (0 <= c.prox /\ c.prox <= 3) /\ (1 <= c.sends /\ c.sends <= 8) := by
 simp only [cfgB, Kl, Bool.and_eq_true, decide_eq_true_eq] at h; omega
theorem rheard_taken {Bo B b : Nat} {w : World} {f : Nat -> Value} {x : Nd} {ps : List Pk} (h : RfAt w B b f x) (hout : OutR w Bo (f 24) ps) (ho : Ok x) {C : Int} (hb : Bd C x) (hC : C <= 100000000000) (k : K) (hk : Jp k) (hid : (k.id == x.self.id) = false)
  (hcase : (∃ m, Jo x.others k.id = some m /\ lessK m.k k = true) \/ (Jo x.others k.id = none /\ x.others.length < 7)) :
  Calls Tryz.prog 71 #[.pointer (some ⟨b, 0, none⟩), .agg #[.int .i64 k.id, .int .i64 k.inc, .int .i64 k.st]] w fun e w' => e = .returned (.tuple #[]) /\ ∃ f', RSt Bo B b w f w' f' (x.taken k) ps := by
 obtain ⟨kid, kinc, kst⟩ := k; simp only at hid hcase; obtain ⟨w1, hw1⟩ : ∃ w1, w.alloc (.cells #[.int .i64 kid, .int .i64 kinc, .int .i64 kst] 58) = w1 := ⟨_, rfl⟩; have hb1 : Below w.heap.size w w1 := by rw [<- hw1]; exact (Below.refl _ _).alloc (Nat.le_refl _) _
 have hx1 : w1.heap[w.heap.size]? = some (.cells #[.int .i64 kid, .int .i64 kinc, .int .i64 kst] 58 (0, 0)) := by rw [<- hw1]; exact Kc w _
 have d0 := Ka hx1 0; simp only [List.getElem?_toArray, List.getElem?_cons_zero] at d0; have hS1 := (RSt.refl h hout).below hb1; have hBs : B <= w.heap.size := by have := h.lo; have := h.blk.lt; omega
 have c10 : w1.cell? ⟨b, 10, none⟩ = some (.int .i64 x.self.id) := by rw [<- h.s10]; exact hS1.at_.blk.cell (by omega)
 have hfind := fun n => rfind_any (hS1.drewN n).at_ ho.rise (by have := ho.len; omega) kid
 obtain ⟨p, hp⟩ : ∃ p, posM kid x.others = p := ⟨_, rfl⟩; obtain ⟨t, ht⟩ : ∃ t, thereM kid x.others = t := ⟨_, rfl⟩; rw [hp, ht] at hfind; have HS1 := Hd hS1; have HX1 := Hd hx1; have HF := Hd hfind; have HP := Hd hp; have HT := Hd ht; have HW1 := Hd hw1; have HO := Hd ho; have HBD := Hd hb; have HCASE := Hd hcase; have HK := Hd hk; have hlt := h.blk.lt; clear h hout ho hb hS1 hfind hp ht hw1 hb1 hx1 hcase hk; go_enter Tryz.func71, Tryz.ntmps71; go_wp2; rw [HW1.out]; go_quiet (fail); go_upto_if 28 with (go_at_call 106; refine (HF.out _).mono ?_; rintro e w2 ⟨rfl, n2, rfl⟩)
 generalize nq + n2 = nn
 obtain ⟨w2, hw2⟩ : ∃ w2, w1.drewN nn = w2 := ⟨_, rfl⟩; rw [hw2]; have hS2 : RSt Bo B b w f w2 f x ps := by rw [<- hw2]; exact HS1.out.drewN _
 have hx2 : w2.heap[w.heap.size]? = some (.cells #[.int .i64 kid, .int .i64 kinc, .int .i64 kst] 58 (0, 0)) := by rw [<- hw2]; exact HX1.out
 have hsz2 : w.heap.size < w2.heap.size := Kb hx2; have HS2 := Hd hS2; have HX2 := Hd hx2; clear d0 c10 hw2 hS2 hx2 HS1 HX1 HF HW1; go_cut [6, 7] (fun s6 s7 wx => ∃ f1 L, RSt Bo B b w f wx f1 { x with others := L } ps /\ p < L.length /\ L.length <= 7 /\ (∀ due, L.set p ⟨⟨kid, kinc, kst⟩, due⟩ = Js ⟨⟨kid, kinc, kst⟩, due⟩ x.others) /\ wx.heap[w.heap.size]? = some (.cells #[.int .i64 kid, .int .i64 kinc, .int .i64 kst] 58 (0, 0)))
 case first =>
  rcases HCASE.out with ⟨m, hf, hl⟩ | ⟨hf, hlen⟩
  · have htt : t = true := HT.out.symm.trans (thereM_some hf)
    subst htt; have hat := findM_at HO.out.rise hf; rw [HP.out] at hat; have hmk := (Zd hf).2; have hpl := (List.getElem?_eq_some_iff.1 hat).1; obtain ⟨g, c, e13⟩ := HS2.out.othAt (by omega)
    obtain ⟨ln, hln⟩ : ∃ ln, x.others.length = ln := ⟨_, rfl⟩; rw [hln] at e13; have hl7 : ln <= 7 := by rw [<- hln]; exact HO.out.len
    rw [hln] at hpl; have c13 : w2.cell? ⟨b, 13, none⟩ = some (.slice (some ⟨g, 0, none⟩) ln c) := by rw [<- e13]; exact HS2.out.at_.blk.cell (by omega)
    have hrow := HS2.out.at_.oth; rw [e13, hln] at hrow; obtain ⟨g', eg, hg, m0, m1, m2, _⟩ := mr_at hrow hat; cases eg
    have hgr := fun W => rgreater_any ⟨kid, kinc, kst⟩ m.k W
    rw [hl] at hgr; have d0 := Ka HX2.out 0; have d1 := Ka HX2.out 1; have d2 := Ka HX2.out 2; simp only [List.getElem?_toArray, List.getElem?_cons_succ, List.getElem?_cons_zero] at d0 d1 d2; have HG := Hd hgr; have HAT := Hd hat; have HMK := Hd hmk; have HLN := Hd hln; clear hf hl hat hmk hln hrow hgr e13; obtain ⟨⟨mid, minc, mst⟩, mdue⟩ := m; simp only at m0 m1 m2 HG; go_upto_region 5 with (fail)
    (refine Jj 9 (by kernel_rfl) (by kernel_rfl) ?_; simp only [List.take_succ_cons, List.take_zero, List.drop_succ_cons, List.drop_zero])
    iterate 9 still_step
    refine wpStill_nil ?_; go_wp2_with (go_at_call 107; refine (HG.out _).mono ?_; rintro e w4 ⟨rfl, hb4⟩; have HB4 := Hd hb4; clear hb4)
    go_meet
    case rel => exact ⟨f, x.others, (HS2.out.drewN 1).below HB4.out, by rw [HLN.out]; exact hpl, by rw [HLN.out]; exact hl7, fun due => by
     have := putM_old (m := ⟨⟨kid, kinc, kst⟩, due⟩) HO.out.rise (a := ⟨⟨mid, minc, mst⟩, mdue⟩) (by show x.others[posM kid x.others]? = _; rw [HP.out]; exact HAT.out) HMK.out
     rw [this]
     show _ = x.others.set (posM kid x.others) _
     rw [HP.out], (HB4.out.block _ hsz2).trans HX2.out⟩
  · have htt : t = false := HT.out.symm.trans (thereM_none hf)
    subst htt
    have hput : ∀ due, (x.others.take p ++ zeroMem :: x.others.drop p).set p ⟨⟨kid, kinc, kst⟩, due⟩ = Js ⟨⟨kid, kinc, kst⟩, due⟩ x.others := fun due => by
     have := putM_new (m := ⟨⟨kid, kinc, kst⟩, due⟩) HO.out.rise hf; rw [this]
     show _ = x.others.take (posM kid x.others) ++ _ :: x.others.drop (posM kid x.others)
     have hpl : (x.others.take p).length = p := by rw [List.length_take]; have := posM_le kid x.others; rw [HP.out] at this; omega
     rw [HP.out, List.set_append_right _ _ (by omega), hpl, Nat.sub_self, List.set_cons_zero]
    have hple : p <= x.others.length := by rw [<- HP.out]; exact posM_le _ _
    obtain ⟨ln, hln⟩ : ∃ ln, x.others.length = ln := ⟨_, rfl⟩; rw [hln] at hlen hple; have hL : (x.others.take p ++ zeroMem :: x.others.drop p).length = ln + 1 := by simp; omega
    have h7 : ((ln : Int) == 7) = false := by simp; omega
    have HPUT := Hd hput; have HLN := Hd hln; have HL := Hd hL; obtain ⟨i0, hi, hz0, hz1, hz2⟩ := info_parts info_mem; have hl1 : (Jd (x.others.take p)).length = p * 4 := by rw [mrCells_len, List.length_take]; omega
    have hl3 : (Jd (x.others.drop p)).length = (ln - p) * 4 := by rw [mrCells_len, List.length_drop]; omega
    have HL1 := Hd hl1; have HL3 := Hd hl3; have k3 : 0 + p <= maxLen := by unfold maxLen; omega
    have k4 : p + 1 <= maxLen := by unfold maxLen; omega
    have k5 : p + 1 + (ln - p) <= maxLen := by unfold maxLen; omega
    have K3 := Hd k3; have K4 := Hd k4; have K5 := Hd k5; clear hf hput hln hL hl1 hl3 k3 k4 k5; rcases Nat.eq_zero_or_pos ln with hz | hz
    · subst hz
      obtain rfl : p = 0 := by omega
      have hx0 : x.others = [] := List.length_eq_zero_iff.1 HLN.out
      have e13 : f 13 = .slice none 0 0 \/ ∃ g c, f 13 = .slice (some ⟨g, 0, none⟩) 0 c := by
       rcases HS2.out.at_.oth.2 with ⟨e1, _⟩ | ⟨g', cap, cur0, e1, _⟩
       · exact .inl e1
       · exact .inr ⟨g', cap, by rw [e1, HLN.out]⟩
      have hbl : b < w2.heap.size := HS2.out.at_.blk.lt; have hnil : ∀ (W : World) (a : Option Addr), Ki W a [] := fun W a j v hj => by simp at hj
      have HNIL := Hd hnil; have HX0 := Hd hx0; clear hx0 hnil
      have hc13 : ∃ a c, f 13 = .slice a 0 c /\ (a = none /\ c = 0 \/ ∃ g, a = some ⟨g, 0, none⟩) := by
       rcases e13 with e | ⟨g, c, e⟩
       · exact ⟨_, _, e, .inl ⟨rfl, rfl⟩⟩
       · exact ⟨_, _, e, .inr ⟨g, rfl⟩⟩
      obtain ⟨a, c, e, hac⟩ := hc13; have c13 : w2.cell? ⟨b, 13, none⟩ = some (.slice a 0 c) := by rw [<- e]; exact HS2.out.at_.blk.cell (by omega)
      have E13 := Hd e; clear e13 e; rcases hac with ⟨rfl, rfl⟩ | ⟨g, rfl⟩
      all_goals
       go_wp2_with (at_builtin; go_loud (refine Km _ rfl _ _ 89 rfl w2.heap.size 149 i0 _ 4 32 Tryz.underlying89 hi hz0 hz1 hz2 rfl (by decide) (.slice none 0 0) 0 [] rfl (World.ownsRow_nil _ _ _ _) _ 0 _ [] rfl rfl (HNIL.out _ _) (by simp) K3.out (by omega) (Nat.le_refl _) ?_))
       intro a3 c3 w3 hl3 hto3; have hB3 : Below w2.heap.size w2 w3 := Below.grown (Below.refl _ _) hto3.grown (Nat.le_refl _) (fun j hj => by simp [Value.ownBlock] at hj)
       have HL3a := Hd (hl3.alloc (.cells #[.int .i64 0, .int .i64 0, .int .i64 0, .int .i64 0] 149)); have HNEW := Hd (Jx w3 [.int .i64 0, .int .i64 0, .int .i64 0, .int .i64 0] 149); have HB3 := Hd hB3; have hsz3 := hB3.size; clear hl3 hto3 hB3; go_wp2_with (at_builtin; go_loud (refine Km _ rfl _ _ 89 rfl w2.heap.size 149 i0 _ 4 32 Tryz.underlying89 hi hz0 hz1 hz2 rfl (by decide) (.slice a3 0 c3) 0 _ rfl HL3a.out (some ⟨w3.heap.size, 0, none⟩) 1 1 _ rfl rfl HNEW.out (by simp [Value.oneCell']) K4.out (by omega) (by simp; omega) ?_))
       intro a4 c4 w4 hl4 hto4; have hB4 : Below w2.heap.size w2 w4 := (HB3.out.alloc hsz3 _).grown hto4.grown (by simp; omega) (fun j hj => (HL3a.out.lt j hj).1)
       have c13' := (hB4.cell (p := ⟨b, 13, none⟩) hbl).trans c13; have HL4 := Hd hl4; have HB4 := Hd hB4; have hsz4 := hB4.size; clear hl4 hto4 hB4; go_wp2_with (at_builtin; go_loud (refine Km _ rfl _ _ 89 rfl w2.heap.size 149 i0 _ 4 32 Tryz.underlying89 hi hz0 hz1 hz2 rfl (by decide) (.slice a4 1 c4) 1 _ rfl HL4.out _ 0 _ [] rfl rfl (HNIL.out _ _) (by simp) K5.out (by omega) (by omega) ?_))
       all_goals
        intro a5 c5 w5 hl5 hto5; have hB5 : Below w2.heap.size w2 w5 := HB4.out.grown hto5.grown (by omega) (fun j hj => (HL4.out.lt j hj).1)
        obtain ⟨y13, z13, hS5⟩ := HS2.out.inserted hBs (p := 0) (Nat.zero_le _) hB5 (n := 1) (by rw [HX0.out]; rfl) (by rw [HX0.out]; exact hl5)
        rw [E13.out] at y13; have HS5 := Hd hS5; have HB5 := Hd hB5; clear hl5 hto5 hB5 hS5; go_wp2; go_meet
        case rel => exact ⟨_, _, HS5.out, by rw [HL.out]; omega, by rw [HL.out]; omega, HPUT.out, by
         rw [Kj _ _ _ _ _ (by omega)]
         exact (HB5.out.block _ hsz2).trans HX2.out⟩
    · obtain ⟨g, c, e13⟩ := HS2.out.othAt (by rw [HLN.out]; exact hz)
      rw [HLN.out] at e13; have c13 : w2.cell? ⟨b, 13, none⟩ = some (.slice (some ⟨g, 0, none⟩) ln c) := by rw [<- e13]; exact HS2.out.at_.blk.cell (by omega)
      have hrow := HS2.out.at_.oth; rw [e13, HLN.out] at hrow
      have hlc : ln <= c := by
       rcases hrow.2 with ⟨e1, _⟩ | ⟨g', cap, cur0, e1, _, _, hnc, _⟩
       · simp at e1
       · simp only [Value.slice.injEq] at e1; rw [e1.2.2]; exact hnc
      have hsp : Jd x.others = [] ++ Jd (x.others.take p) ++ Jd (x.others.drop p) := by
       rw [List.nil_append, <- mrCells_app, List.take_append_drop]
      have hsp2 : Jd x.others = Jd (x.others.take p) ++ Jd (x.others.drop p) ++ [] := by
       rw [List.append_nil, <- mrCells_app, List.take_append_drop]
      have hsrc1 : Ki w2 (some ⟨g, 0, none⟩) (Jd (x.others.take p)) := Ki.part (by rw [<- hsp]; exact hrow) rfl
      have hsrc3 : Ki w2 (some ⟨g, p * 4, none⟩) (Jd (x.others.drop p)) := Ki.part (by rw [<- hsp2]; exact hrow) HL1.out
      have HSRC1 := Hd hsrc1; have HSRC3 := Hd hsrc3; have E13 := Hd e13; clear hrow hsp hsp2 hsrc1 hsrc3 e13; have hbl : b < w2.heap.size := HS2.out.at_.blk.lt; go_wp2_with (at_builtin; go_loud (refine Km _ rfl _ _ 89 rfl w2.heap.size 149 i0 _ 4 32 Tryz.underlying89 hi hz0 hz1 hz2 rfl (by decide) (.slice none 0 0) 0 [] rfl (World.ownsRow_nil _ _ _ _) (some ⟨g, 0, none⟩) p c _ rfl HL1.out HSRC1.out (mrCells_one _) K3.out (by omega) (Nat.le_refl _) ?_))
      intro a3 c3 w3 hl3 hto3; have hB3 : Below w2.heap.size w2 w3 := Below.grown (Below.refl _ _) hto3.grown (Nat.le_refl _) (fun j hj => by simp [Value.ownBlock] at hj)
      have HL3a := Hd (hl3.alloc (.cells #[.int .i64 0, .int .i64 0, .int .i64 0, .int .i64 0] 149)); have HNEW := Hd (Jx w3 [.int .i64 0, .int .i64 0, .int .i64 0, .int .i64 0] 149); have HB3 := Hd hB3; have hsz3 := hB3.size; clear hl3 hto3 hB3; go_wp2_with (at_builtin; go_loud (refine Km _ rfl _ _ 89 rfl w2.heap.size 149 i0 _ 4 32 Tryz.underlying89 hi hz0 hz1 hz2 rfl (by decide) (.slice a3 p c3) p _ rfl HL3a.out (some ⟨w3.heap.size, 0, none⟩) 1 1 _ rfl rfl HNEW.out (by simp [Value.oneCell']) K4.out (by omega) (by simp; omega) ?_))
      intro a4 c4 w4 hl4 hto4; have hB4 : Below w2.heap.size w2 w4 := (HB3.out.alloc hsz3 _).grown hto4.grown (by simp; omega) (fun j hj => (HL3a.out.lt j hj).1)
      have c13' := (hB4.cell (p := ⟨b, 13, none⟩) hbl).trans c13; have HL4 := Hd hl4; have HB4 := Hd hB4; have hsz4 := hB4.size; clear hl4 hto4 hB4
      have hsrc : Ki w4 (if c = p then some ⟨g, 0, none⟩ else some ⟨g, p * 4, none⟩) (Jd (x.others.drop p)) := by
       by_cases hck : c = p
       · have hd : x.others.drop p = [] := List.drop_eq_nil_of_le (by rw [HLN.out]; omega)
         rw [hd]; intro j v hj
         simp [Jd] at hj
       · rw [if_neg hck]; exact HSRC3.out.below HB4.out
      have HSRC := Hd hsrc; clear hsrc; go_wp2_with (at_builtin; go_loud (refine Km _ rfl _ _ 89 rfl w2.heap.size 149 i0 _ 4 32 Tryz.underlying89 hi hz0 hz1 hz2 rfl (by decide) (.slice a4 (p + 1) c4) (p + 1) _ rfl HL4.out (if c = p then some ⟨g, 0, none⟩ else some ⟨g, p * 4, none⟩) (ln - p) (c - p) _ rfl HL3.out HSRC.out (mrCells_one _) K5.out (by omega) (by omega) ?_))
      all_goals
       intro a5 c5 w5 hl5 hto5; have hB5 : Below w2.heap.size w2 w5 := HB4.out.grown hto5.grown (by omega) (fun j hj => (HL4.out.lt j hj).1)
       obtain ⟨y13, z13, hS5⟩ := HS2.out.inserted hBs (p := p) (by rw [HLN.out]; exact hple) hB5 (n := p + 1 + (ln - p)) (by rw [HLN.out]; omega) hl5
       rw [E13.out] at y13; have HS5 := Hd hS5; have HB5 := Hd hB5; clear hl5 hto5 hB5 hS5; go_wp2; go_meet
       case rel => exact ⟨_, _, HS5.out, by rw [HL.out]; omega, by rw [HL.out]; omega, HPUT.out, by
        rw [Kj _ _ _ _ _ (by omega)]
        exact (HB5.out.block _ hsz2).trans HX2.out⟩
 case rest =>
  obtain ⟨f1, L, hS3, hpL, hL7, hput, hx3⟩ := hcut; obtain ⟨g, c, e13⟩ := hS3.othAt (Nat.lt_of_le_of_lt (Nat.zero_le _) hpL); simp only at e13; obtain ⟨ln, hln⟩ : ∃ ln, L.length = ln := ⟨_, rfl⟩; rw [hln] at e13; have hpl : p < ln := by omega
  have hl7 : ln <= 7 := by omega
  have c13 : wc.cell? ⟨b, 13, none⟩ = some (.slice (some ⟨g, 0, none⟩) ln c) := by rw [<- e13]; exact hS3.at_.blk.cell (by omega)
  obtain ⟨m0, hm0⟩ : ∃ m0, L[p]? = some m0 := ⟨_, List.getElem?_eq_getElem hpL⟩; have hrow := hS3.at_.oth; simp only at hrow; rw [e13, hln] at hrow; obtain ⟨g', eg, hg, q0, q1, q2, q3⟩ := mr_at hrow hm0; cases eg
  have hfz := hS3.othFree e13; have d0 := Ka hx3 0; have d1 := Ka hx3 1; have d2 := Ka hx3 2; simp only [List.getElem?_toArray, List.getElem?_cons_succ, List.getElem?_cons_zero] at d0 d1 d2
  have hgb : g ≠ b := by
   rintro rfl; obtain ⟨cur, hgc, _⟩ := hS3.othBlk e13; obtain ⟨cs, hb'⟩ := hS3.at_.blk.block; rw [hgc] at hb'; simp only [Option.some.injEq, Obj.cells.injEq] at hb'; exact absurd hb'.2.1 (by decide)
  have hgx : g ≠ w.heap.size := by
   rintro rfl; obtain ⟨cur, hgc, _⟩ := hS3.othBlk e13; rw [hgc] at hx3; simp only [Option.some.injEq, Obj.cells.injEq] at hx3; exact absurd hx3.2.1 (by decide)
  have hS4 := (hS3.putMem e13 hpL ⟨⟨kid, kinc, kst⟩, 0⟩ (d := 0) (by unfold nrm; simp)).drewN 1
  simp only at hS4
  have hx4 : ((((wc.setCell ⟨g, p * 4, none⟩ (.int .i64 kid)).setCell ⟨g, p * 4 + 1, none⟩ (.int .i64 kinc)).setCell ⟨g, p * 4 + 2, none⟩ (.int .i64 kst)).setCell ⟨g, p * 4 + 3, none⟩ (.int .i64 0)).heap[w.heap.size]? = some (.cells #[.int .i64 kid, .int .i64 kinc, .int .i64 kst] 58 (0, 0)) := by
   rw [Kj _ _ _ _ _ (fun e => hgx e.symm), Kj _ _ _ _ _ (fun e => hgx e.symm), Kj _ _ _ _ _ (fun e => hgx e.symm), Kj _ _ _ _ _ (fun e => hgx e.symm)]
   exact hx3
  have HS4 := Hd hS4; have HX4 := Hd hx4; have HPUT := Hd hput; have HLN := Hd hln; have E13 := Hd e13; have hbg : b ≠ g := fun e => hgb e.symm
  have hxg : w.heap.size ≠ g := fun e => hgx e.symm
  have hszc : w.heap.size < wc.heap.size := Kb hx3; clear hS3 hpL hL7 hput hx3 hln hm0 hrow e13 hS4 hx4 HS2 HX2 HCASE hsz2; go_upto_region 13 with (fail)
  (refine Jj 8 (by kernel_rfl) (by kernel_rfl) ?_; simp only [List.take_succ_cons, List.take_zero, List.drop_succ_cons, List.drop_zero])
  iterate 8 still_step
  refine wpStill_nil ?_; go_upto_if 81 with (fail); obtain ⟨w4, hw4⟩ : ∃ w4, ((((wc.setCell ⟨g, p * 4, none⟩ (.int .i64 kid)).setCell ⟨g, p * 4 + 1, none⟩ (.int .i64 kinc)).setCell ⟨g, p * 4 + 2, none⟩ (.int .i64 kst)).setCell ⟨g, p * 4 + 3, none⟩ (.int .i64 0)).drew = w4 := ⟨_, rfl⟩; rw [hw4]; have hT4 : RSt Bo B b w f w4 f1 { x with others := L.set p ⟨⟨kid, kinc, kst⟩, 0⟩ } ps := by rw [<- hw4]; exact HS4.out
  have hy4 : w4.heap[w.heap.size]? = some (.cells #[.int .i64 kid, .int .i64 kinc, .int .i64 kst] 58 (0, 0)) := by rw [<- hw4]; exact HX4.out
  have HT4 := Hd hT4; have HY4 := Hd hy4; have hsz4 : w.heap.size < w4.heap.size := Kb hy4; clear hw4 hT4 hy4 HS4 HX4 c13 q0 q1 q2 q3 hfz d0 d1 d2; go_cut [] (fun wx => RSt Bo B b w f wx f1 { x with others := Js ⟨⟨kid, kinc, kst⟩, x.clock + x.c.susp⟩ x.others } ps /\ wx.heap[w.heap.size]? = some (.cells #[.int .i64 kid, .int .i64 kinc, .int .i64 kst] 58 (0, 0)))
  case first =>
   by_cases h2 : kst = 2
   · subst h2
     have hlL : (L.set p ⟨⟨kid, kinc, 2⟩, 0⟩)[p]? = some ⟨⟨kid, kinc, 2⟩, 0⟩ := List.getElem?_set_self (by rw [HLN.out]; exact hpl)
     have c13 : w4.cell? ⟨b, 13, none⟩ = some (.slice (some ⟨g, 0, none⟩) ln c) := by rw [<- E13.out]; exact HT4.out.at_.blk.cell (by omega)
     have c8 : w4.cell? ⟨b, 8, none⟩ = some (.int .i64 x.clock) := by rw [<- HT4.out.at_.n8]; exact HT4.out.at_.blk.cell (by omega)
     have c3 : w4.cell? ⟨b, 3, none⟩ = some (.int .i64 x.c.susp) := by rw [<- HT4.out.at_.c3]; exact HT4.out.at_.blk.cell (by omega)
     have hrow := HT4.out.at_.oth; simp only at hrow; rw [E13.out, List.length_set, HLN.out] at hrow; obtain ⟨g', eg, hg, q0, q1, q2, q3⟩ := mr_at hrow hlL; cases eg
     have hfz := HT4.out.othFree E13.out; have hcl := HBD.out.clock; have hcf := cfg_bounds' HO.out.cfg; have ws : IntKind.i64.wrap (x.clock + x.c.susp) = x.clock + x.c.susp := IntWalk.i64_in _ (by omega)
     have hD := (HT4.out.putDue E13.out hlL ⟨⟨kid, kinc, 2⟩, x.clock + x.c.susp⟩ rfl (d := x.clock + x.c.susp) (by unfold nrm; simp)).drewN 1
     simp only [List.set_set] at hD; rw [HPUT.out] at hD; have HD := Hd hD; have hy5 : (w4.setCell ⟨g, p * 4 + 3, none⟩ (.int .i64 (x.clock + x.c.susp))).heap[w.heap.size]? = some (.cells #[.int .i64 kid, .int .i64 kinc, .int .i64 2] 58 (0, 0)) := (Kj _ _ _ _ _ (fun e => hgx e.symm)).trans HY4.out
     have HY5 := Hd hy5; clear hlL hrow hD hy5 hcl hcf q0 q1 q2; go_upto_region 15 with (fail)
     (refine Jj 17 (by kernel_rfl) (by kernel_rfl) ?_; simp only [List.take_succ_cons, List.take_zero, List.drop_succ_cons, List.drop_zero])
     iterate 17 still_step
     refine wpStill_nil ?_; go_wp2; go_meet
     case rel => exact ⟨HD.out, HY5.out⟩
   · have h2b : (kst == 2) = false := by simpa using h2
     have hD := HT4.out.sameMr (l2 := L.set p ⟨⟨kid, kinc, kst⟩, x.clock + x.c.susp⟩) (by simp) (mrCells_set (by simp [mrF, nrm, h2]))
     rw [HPUT.out] at hD; have HD := Hd hD; clear hD h2; go_wp2; go_meet
     case rel => exact ⟨HD.out, HY4.out⟩
  case rest =>
   obtain ⟨hS5, hx5⟩ := hcut; have d2 := Ka hx5 2; simp only [List.getElem?_toArray, List.getElem?_cons_succ, List.getElem?_cons_zero] at d2; have HS5 := Hd hS5; have HX5 := Hd hx5; clear hS5 hx5 HT4 HY4 HPUT HLN E13; go_upto_if 101 with (fail); go_cut [8, 9] (fun s8 s9 wx => ∃ f2, RSt Bo B b w f wx f2 { x with others := Js ⟨⟨kid, kinc, kst⟩, x.clock + x.c.susp⟩ x.others, pass := if kst <= 2 then x.pass else x.pass.filter (fun n => n != kid) } ps /\ wx.heap[w.heap.size]? = some (.cells #[.int .i64 kid, .int .i64 kinc, .int .i64 kst] 58 (0, 0)))
   case first =>
    by_cases h2 : 2 < kst
    · have H2 := Hd h2
      obtain ⟨qa, qc, e14⟩ := Kg HS5.out.at_.pas; simp only at e14; obtain ⟨qn, hqn⟩ : ∃ qn, x.pass.length = qn := ⟨_, rfl⟩; have c14 : wc.cell? ⟨b, 14, none⟩ = some (.slice qa qn qc) := by rw [<- hqn, <- e14]; exact HS5.out.at_.blk.cell (by omega)
      have hque : wc.ownsRow B 3 1 (.slice qa qn qc) qn (x.pass.map (Value.int .i64)) := by have := HS5.out.at_.pas; rw [e14] at this; rw [<- hqn]; exact this
      have d0 := Ka HX5.out 0; simp only [List.getElem?_toArray, List.getElem?_cons_zero] at d0; have hq8 : qn <= 7 := by rw [<- hqn]; exact HO.out.pnd
      have hszc : w.heap.size <= wc.heap.size := HS5.out.chg.size; have hlx := Kb HX5.out; have hbc := HS5.out.at_.blk.lt; have HQUE := Hd hque; have HQN := Hd hqn; obtain ⟨i0, hi, hz0, hz1, hz2⟩ := info_parts info_int'; clear hque hqn e14
      try rw [decide_eq_true h2]
      go_wp2_with fail
      clear h2; go_loopw [8, 9] (fun s8 s9 wr => ∃ (i : Nat) (q : List Int), i <= qn /\ s9 = .int .i64 (i : Nat) /\ q = (x.pass.take i).filter (fun n => n != kid) /\ wr.ownsRow wc.heap.size 3 1 s8 q.length (q.map (Value.int .i64)) /\ Below wc.heap.size wc wr) (fun _ s9 _ => 20 - (intOf s9).toNat)
      case atStart => exact ⟨0, [], Nat.zero_le _, rfl, rfl, World.ownsRow_nil _ _ _ _, Below.refl _ _⟩
      case round =>
       obtain ⟨i, q, hiq, rfl, hqe, hrow, hb⟩ := hrel; obtain ⟨ra, rc, rfl⟩ := Kg hrow; obtain ⟨m, hm⟩ : ∃ m, q.length = m := ⟨_, rfl⟩; rw [hm] at hrow ⊢; have hmi : m <= i := by rw [<- hm, hqe]; exact Nat.le_trans (List.length_filter_le _ _) (by rw [List.length_take]; omega)
       have HQE := Hd hqe; have HROW := Hd hrow; have HB := Hd hb; have HM := Hd hm; have hsz := hb.size; have c14r := (hb.cell (p := ⟨b, 14, none⟩) hbc).trans c14; have e0 := (hb.cell (p := ⟨w.heap.size, 0, none⟩) hlx).trans d0; clear hqe hrow hb hm; by_cases hil : i < qn
       · obtain ⟨u, hu⟩ : ∃ u, x.pass[i]? = some u := ⟨_, List.getElem?_eq_getElem (by have := HQN.out; omega)⟩
         obtain ⟨g, rfl, hg, u0⟩ := i_at (Ks HQUE.out HB.out) hu; have HU := Hd hu
         have hne : ∀ (c : Bool), (u != kid) = c -> (x.pass.take (i + 1)).filter (fun n => n != kid) = q ++ if c then [u] else [] := fun c hc => by
          rw [filter_snoc _ _ HU.out, <- HQE.out, hc]
         have HNE := Hd hne; clear hu hne; cases hd : (u != kid) with
         | false =>
          go_wp2_with fail
          go_quiet (fail); go_wp2; go_roundw
          case rel => exact ⟨i + 1, q, by omega, by go_num, by rw [HNE.out _ hd]; simp, by rw [HM.out]; exact Je HROW.out (fun _ _ => rfl), ⟨HB.out.os, HB.out.tape, HB.out.output, HB.out.size, HB.out.block⟩⟩
          case measure => simp [intOf]; omega
         | true =>
          have hrw : ∀ n, ((wr.alloc (.cells #[.int .i64 u] 3)).drewN n).ownsRow wc.heap.size 3 1 (.slice ra m rc) m (q.map (Value.int .i64)) := fun n => Je (HROW.out.alloc _) (fun _ _ => rfl)
          have hnew : ∀ n, ∀ j v, [Value.int .i64 u][j]? = some v -> ((wr.alloc (.cells #[.int .i64 u] 3)).drewN n).cell? ((⟨wr.heap.size, 0, none⟩ : Addr).add j) = some v := fun n => Kt wr [.int .i64 u] 3 (n := wr.heap.size) rfl
          have HRW := Hd hrw; have HNEW := Hd hnew; have k3 : m + 1 <= maxLen := by unfold maxLen; omega
          have K3 := Hd k3; clear hrw hnew k3; go_wp2_with fail
          go_quiet (fail); go_wp2_with (at_builtin; refine wpList_append_own _ rfl _ _ 24 rfl wc.heap.size 3 i0 _ 1 8 Tryz.underlying24 hi hz0 hz1 hz2 rfl (by decide) (.slice ra m rc) m _ rfl (HRW.out _) ⟨wr.heap.size, 0, none⟩ 1 1 _ rfl rfl (HNEW.out _) (by simp [Value.oneCell']) K3.out (by omega) (by simp; omega) ?_)
          intro v' w1 hown1 hgrow1 _; have hb1 : Below wc.heap.size wc w1 := Below.grown (w := (wr.alloc (.cells #[.int .i64 u] 3)).drewN nq) (Below.drewR (HB.out.alloc hsz _) nq) hgrow1 (by simp; omega) (fun j hj => (HROW.out.lt j hj).1)
          have HOWN := Hd hown1; have HB1 := Hd hb1; clear hown1 hgrow1 hb1; go_wp2; go_roundw
          case rel => exact ⟨i + 1, q ++ [u], by omega, by go_num, by rw [HNE.out _ hd]; rfl, by rw [List.map_append, List.length_append, HM.out]; exact HOWN.out, HB1.out⟩
          case measure => simp [intOf]; omega
       · have hie : i = qn := by omega
         have hqf : q = x.pass.filter (fun n => n != kid) := by
          rw [HQE.out, List.take_of_length_le (by have := HQN.out; omega)]
         have hS6 := HS5.out.below HB.out; have f14 := hS6.at_.blk.free 14; have hS7 := hS6.cell (hS6.at_.setPass (l := q) (v := .slice ra m rc) (Jl (by rw [HM.out]; exact HROW.out) (by omega))) (by omega) (fun k hk _ => by have := (HROW.out.lt k hk).1; omega)
         simp only at hS7; rw [hqf] at hS7; have HS7 := Hd hS7
         have hy : (wr.setCell ⟨b, 14, none⟩ (.slice ra m rc)).heap[w.heap.size]? = some (.cells #[.int .i64 kid, .int .i64 kinc, .int .i64 kst] 58 (0, 0)) := by
          rw [Kj _ _ _ _ _ (by omega)]
          exact (HB.out.block _ hlx).trans HX5.out
         have HY := Hd hy; clear hqf hS6 hS7 hy hie; go_wp2; go_meet
         case rel => exact ⟨_, by rw [if_neg (by have := H2.out; omega)]; exact HS7.out, HY.out⟩
    · go_wp2
      go_meet
      case rel => exact ⟨f1, by rw [if_pos (by omega)]; exact HS5.out, HX5.out⟩
   case rest =>
    obtain ⟨f2, hS6, hx6⟩ := hcut; have d0 := Ka hx6 0; have d1 := Ka hx6 1; have d2 := Ka hx6 2; simp only [List.getElem?_toArray, List.getElem?_cons_succ, List.getElem?_cons_zero] at d0 d1 d2; have hch := rchanged_any hS6.at_ hS6.out HO.out.qlen HO.out.evs ⟨HBD.out.lost.1, by have := HBD.out.lost.2; show x.lost <= _; omega⟩ ⟨kid, kinc, kst⟩
    have HCH := Hd hch; have HS6 := Hd hS6; clear hch hS6 hx6; go_wp2_with (go_at_call 65; refine HCH.out.mono ?_; rintro e w9 ⟨rfl, f9, hT9⟩)
    ((try simp only [Exit.inBlock, Exit.then]); first | refine bodyPost_ret (results_none rfl _ _ _) rfl ?_ | refine bodyPost_end (results_none rfl _ _ _) rfl ?_)
    exact ⟨rfl, f9, HS6.out.trans hT9⟩
