/-
  Texts of the proof: Received. No condition.
-/
import Derived.Test.YtfngdplkcppabaaGreatDoorPart01
import Derived.Test.YtfngdplkcppabaaGreatDoorPart27
set_option linter.all false
set_option maxRecDepth 100000
set_option maxHeartbeats 4000000
namespace Go.Proofs.YtfngdplkcppabaaGreatDoor
open Go.RowKit
theorem PAt.en {Bh B0 b n : Nat} {w : World} {f : Nat -> Value} {d : Sd} {F : Nat -> Prop} {l : List En} (h : PAt Bh B0 b n w f d F l) {i : Nat} {e : En} (hi : l[i]? = some e) : EnAt w B0 e := h.e.at_ e (List.mem_of_getElem? hi)
theorem EnAt.ways {w : World} {B0 : Nat} {e : En} (h : EnAt w B0 e) : w.cell? ⟨e.nb, 0, none⟩ = some (.pointer (some ⟨e.p.g, 0, none⟩)) /\ w.cell? ⟨e.nb, 1, none⟩ = some (.pointer (some ⟨e.q.g, 0, none⟩)) /\ w.cell? ⟨e.nb, 2, none⟩ = some (.pointer (some ⟨e.b, 0, none⟩)) /\
  w.cell? ⟨e.p.g, 0, none⟩ = some (.pointer (some ⟨e.p.a.b, 0, none⟩)) /\ w.cell? ⟨e.q.g, 0, none⟩ = some (.pointer (some ⟨e.q.a.b, 0, none⟩)) :=
 ⟨by rw [Ka h.blk]; rfl, by rw [Ka h.blk]; rfl, by rw [Ka h.blk]; rfl, by rw [Ka h.p.box]; rfl, by rw [Ka h.q.box]; rfl⟩
theorem RSt.foot {B b : Nat} {w w' : World} {f f' : Nat -> Value} {x : Nd} {ps : List Pk} (h : RSt w.heap.size B b w f w' f' x ps) : Chg (fun k _ => RFoot b f k) w w' :=
 ⟨h.chg.os, h.chg.tape, h.chg.output, h.chg.size, fun k o ho hs => h.chg.kept k o ho (fun hk => hk.elim (fun hk => hs hk.foot) (fun hl => absurd (Kb ho) (by omega)))⟩
theorem RSt.typed {B b : Nat} {w w' : World} {f f' : Nat -> Value} {x y : Nd} {ps : List Pk} (h : RSt w.heap.size B b w f w' f' x ps) (hr : RfAt w B b f y) : Chg PartO w w' :=
 ⟨h.chg.os, h.chg.tape, h.chg.output, h.chg.size, fun k o hk hs => h.foot.kept k o hk (fun ho => hs (fun cs t fr e => by
  obtain ⟨cs', t', h1, h2⟩ := hr.foot_type ho; rw [hk, e] at h1; simp only [Option.some.injEq, Obj.cells.injEq] at h1; rw [h1.2.1]; simp only [List.mem_cons, List.not_mem_nil, or_false] at h2; rcases h2 with rfl | rfl | rfl | rfl | rfl | rfl <;> decide))⟩
theorem out_cells (ps : List Pk) : ps.flatMap pkCells = Kk (ps.map wirePk) := by
 unfold Kk; rw [List.flatMap_map]
 rfl
theorem RfAt.dsLen {w w' : World} {B B' b b' : Nat} {f f' : Nat -> Value} {x x' : Nd} (h : RfAt w B b f x) (h' : RfAt w' B' b' f' x') (e : f' 6 = f 6) : x'.ds.length = x.ds.length := by
 obtain ⟨a, c, e1, _⟩ := h.ds; obtain ⟨a', c', e2, _⟩ := h'.ds; rw [e1, e2] at e; simp only [Value.slice.injEq] at e; exact e.2.1
theorem PAt.alike {l : List En} {n m i : Nat} {e : En} (hl : ∀ e ∈ l, Alike n e) (hn : n <= m) (he : Alike m e) : ∀ e' ∈ l.set i e, Alike m e' := fun e' h => by
 rcases List.mem_or_eq_of_mem_set h with h | rfl
 · exact (hl e' h).mono hn
 · exact he
structure Outs (B : Nat) (w : World) (ps : List Pk) (va vb vl : Value) : Prop where
 a : w.ownsRow B 78 2 va ps.length (Kk (ps.map wirePk))
 b : w.ownsRow B 78 2 vb ps.length (Kk (ps.map wirePk))
 l : w.ownsRow B 60 2 vl ps.length (Kk (ps.map wirePk))
 ab : ∀ g, va.ownBlock = some g -> vb.ownBlock ≠ some g
theorem sends_outs {Bh B0 b n : Nat} {w w0 : World} {f : Nat -> Value} {d : Sd} {F : Nat -> Prop} {l : List En} (h : PAt Bh B0 b n w f d F l) (hn : n <= 100000) {ps : List Pk} {va vb vl : Value} (ho : Outs Bh w ps va vb vl) (hk : ps.length <= 20) (hp : ∀ p ∈ ps, PkOk p)
  (hl : ∀ e ∈ l, Alike (n + 1) e) (hw : Below B0 w0 w) (h15 : ∀ g, (f 15).ownBlock = some g -> g < Bh) :
  Calls Tryz.prog 38 #[.pointer (some ⟨b, 0, none⟩), va, vb, vl] w fun e w' => e = .returned (.bool true) /\ Zg B0 b (n + 1) w0 w' := by
 obtain ⟨aa, ac, rfl⟩ := Kg ho.a; obtain ⟨bb, bc, rfl⟩ := Kg ho.b; obtain ⟨la, lc, rfl⟩ := Kg ho.l; refine (sends_any B0 b n w f d h.s hn Bh h.hB h.hBw h.held (ps.map wirePk) ps.length (by simp) hk (fun p hpm => ?_) aa bb la ac bc lc ho.a ho.b ho.ab ho.l (fun g hg e => ?_)).mono ?_
 · obtain ⟨q, hq, rfl⟩ := List.mem_map.1 hpm
   exact bytes_size (hp q hq).1
 · have := h15 g hg
   have := (ho.l.lt g e).1; omega
 · rintro e w' ⟨rfl, f', d', hS, hK, hC⟩
   obtain ⟨F', hP⟩ := h.stepSQP hS hK hC (by omega)
   refine ⟨rfl, hw.trans ?_, f', d', F', l, hP, hl⟩
   exact hC.below h.B0w (fun k o hs => by
    rcases hs with hs | hs
    · exact hs.1
    · have := h.hB; omega)
theorem received_any {Bh B0 b n : Nat} {w : World} {f : Nat -> Value} {d : Sd} {F : Nat -> Prop} {l : List En} (h0 : PAt Bh B0 b n w f d F l) (hn : n <= 100000) (hl : ∀ e ∈ l, Alike n e) {i : Nat} {e : En} (hi : l[i]? = some e) (s : ByteArray) (hm : s.size <= maxLen) :
  Calls Tryz.prog 35 #[.pointer (some ⟨b, 0, none⟩), e.v, .string s] w fun e w' => e = .returned (.bool true) /\ Zg B0 b (n + 1) w w' := by
 have P0 := h0.base; have hB0w := P0.B0w; have E0 := P0.en hi; have h15 : ∀ g, (f 15).ownBlock = some g -> g < w.heap.size := fun g hg => (P0.s.orow.lt g hg).2
 obtain ⟨hp, hq, hok, hbd, hdl⟩ := hl e (List.mem_of_getElem? hi); have hil := (List.getElem?_eq_some_iff.1 hi).1; obtain ⟨nb, ⟨g0, a0, x0⟩, ⟨g1, a1, x1⟩, rb, rf, x⟩ := e; simp only at hp hq hok hbd hdl; subst hp; subst hq; have hgood := good_receive hok hbd (by omega) (Ja s.data.toList) (fun m h => decodeM_ok h)
 have hlen := receive_len x1 (Ja s.data.toList); obtain ⟨ov0, hn0⟩ := E0.p.node; have hpr := receive_any hok hbd (by omega) a0 ov0 w hn0 s hm (fun m h => decodeM_ok h)
 have hqr := fun ov w hn => receive_any hok hbd (by omega) a1 ov w hn s hm (fun m h => decodeM_ok h)
 have hrr := fun w (h : RfAt w B0 rb rf x1) hB => rreceive_any h hok hbd (by omega) hB s hm
 obtain ⟨r, hr⟩ : ∃ r, x1.receive (Ja s.data.toList) = r := ⟨_, rfl⟩; rw [hr] at hgood hlen hpr; simp only [hr] at hqr hrr; obtain ⟨c0, c1, c2, c3, c4⟩ := E0.ways; simp only at c0 c1 c2 c3 c4; have P0' := Hd P0; have HN0 := Hd hn0; have HPR := Hd hpr; have HQR := Hd hqr; have HRR := Hd hrr; have HI := Hd hi; have HL := Hd hl; have HG := Hd hgood; have HLEN := Hd hlen; have H15 := Hd h15; have HDL := Hd hdl; have HE0 := Hd E0; clear hr h0 P0 hn0 hpr hqr hrr hi hl hgood hlen h15 hdl E0; unfold En.v; go_enter Tryz.func35, Tryz.ntmps35; go_wp2_with fail
 refine HPR.out.mono ?_; rintro e w1 ⟨va, rfl, a0', ht, hoa⟩; have P1 := P0'.out.turnP HI.out ht; have hi1 : (l.set i ⟨nb, ⟨g0, a0', r.2⟩, ⟨g1, a1, x1⟩, rb, rf, x1⟩)[i]? = some _ := List.getElem?_set_self hil; have E1 := P1.en hi1; obtain ⟨ov1, hn1⟩ := E1.q.node; have hb1 : Below B0 w w1 := ht.chg.below hB0w (fun k o hk => HE0.out.p.low k (.inr hk))
 clear c0 c1 c2 c3 c4; obtain ⟨c0, c1, c2, c3, c4⟩ := E1.ways; simp only at c0 c1 c2 c3 c4 hn1; have HQR1 := Hd (HQR.out ov1 w1 hn1); have hs1 : w.heap.size <= w1.heap.size := ht.chg.size; have HOA := Hd hoa; have HP1 := Hd P1; have HI1 := Hd hi1; have HN1 := Hd hn1; have HB1 := Hd hb1; have HE1 := Hd E1; clear ht hoa P1 hi1 E1 hn1 hb1; go_wp2_with fail
 refine HQR1.out.mono ?_; rintro e w2 ⟨vb, rfl, a1', ht, hob⟩; have P2 := HP1.out.turnQ HI1.out ht; rw [List.set_set] at P2; have hi2 : (l.set i ⟨nb, ⟨g0, a0', r.2⟩, ⟨g1, a1', r.2⟩, rb, rf, x1⟩)[i]? = some _ := List.getElem?_set_self hil; have E2 := P2.en hi2; have hoa2 := own_parts HOA.out (ht.typed HN1.out) (by decide)
 have hb2 : Below B0 w w2 := HB1.out.trans (ht.chg.below (Nat.le_trans hB0w hs1) (fun k o hk => HE1.out.q.low k (.inr hk)))
 clear c0 c1 c2 c3 c4; obtain ⟨c0, c1, c2, c3, c4⟩ := E2.ways; simp only at c0 c1 c2 c3 c4; have hs2 : w1.heap.size <= w2.heap.size := ht.chg.size; have HRR2 := Hd (HRR.out w2 E2.r (by omega))
 have hab : ∀ g, va.ownBlock = some g -> vb.ownBlock ≠ some g := fun g h1 h2 => by
  have := (HOA.out.lt g h1).2; have := (hob.lt g h2).1; omega
 have HAB := Hd hab; have HOA2 := Hd hoa2; have HOB := Hd hob; have HP2 := Hd P2; have HI2 := Hd hi2; have HB2 := Hd hb2; have HE2 := Hd E2; clear ht hob P2 hi2 hoa2 hb2 E2 hab; go_wp2_with fail
 refine HRR2.out.mono ?_; rintro e w3 ⟨vl, rfl, rf', hst, hol⟩; have P3 := HP2.out.turnR HI2.out hst.at_ hst.foot hst.own hst.six; rw [List.set_set] at P3; have hoa3 := own_low (own_parts HOA2.out (hst.typed HE2.out.r) (by decide)) (Nat.le_refl _)
 have hob3 := own_low (own_parts HOB.out (hst.typed HE2.out.r) (by decide)) hs1
 have hb3 : Below B0 w w3 := HB2.out.trans (hst.foot.below (by omega) (fun k o hk => (HE2.out.r.foot_lt hk).1))
 unfold OutR at hol; rw [out_cells] at hoa3 hob3; have hdl' := HE2.out.r.dsLen hst.at_ hst.six; have hall := PAt.alike (i := i) HL.out (Nat.le_succ n) (e := ⟨nb, ⟨g0, a0', r.2⟩, ⟨g1, a1', r.2⟩, rb, rf', r.2⟩) ⟨rfl, rfl, HG.out.ok, HG.out.bd.mono (by omega), by rw [hdl']; exact HDL.out⟩
 have HSE := Hd (sends_outs P3 hn ⟨hoa3, hob3, own_low hol (by omega), HAB.out⟩ HLEN.out HG.out.pks hall hb3 H15.out)
 clear hst hol P3 hoa3 hob3 hb3 hdl' hall c0 c1 c2 c3 c4; go_wp2_with fail
 refine HSE.out.mono ?_; rintro e w4 ⟨rfl, hpost⟩; have HPO := Hd hpost; clear hpost; go_wp2; go_ret
 exact ⟨rfl, HPO.out⟩
