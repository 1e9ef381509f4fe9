/-
  Texts of the proof: RfAsked, RfTable, RfRecv, RfRecvB. No condition.
-/
import Derived.Test.YtfngdplkcppabaaGreatDoorPart01
import Derived.Test.YtfngdplkcppabaaGreatDoorPart22
import Derived.Test.YtfngdplkcppabaaGreatDoorPart15
import Derived.Deep.RegionHeld3
import Derived.Test.YtfngdplkcppabaaGreatDoorPart03
set_option linter.all false
set_option maxRecDepth 100000
set_option maxHeartbeats 4000000
namespace Go.Proofs.YtfngdplkcppabaaGreatDoor
open Go.RowKit
section
variable {Bo B b : Nat} {w w1 w2 : World} {f f1 : Nat -> Value} {x x1 : Nd} {ps : List Pk}
theorem RSt.appRelays (h : RSt Bo B b w f w1 f1 x1 ps) {g n c : Nat} {l : List Rel} (hto : AppTo w1 w2 (f1 20) g) (hv : w2.ownsRow B 147 5 (.slice (some ⟨g, 0, none⟩) n c) l.length (Za l)) :
  w2.cell? ⟨b, 20, none⟩ = some (f1 20) /\ w2.frozen? ⟨b, 20, none⟩ = false /\ RSt Bo B b w f (w2.setCell ⟨b, 20, none⟩ (.slice (some ⟨g, 0, none⟩) n c)) (upd f1 20 (.slice (some ⟨g, 0, none⟩) n c)) { x1 with relays := l } ps := by
 obtain ⟨e1, e2, e3⟩ := h.at_.appRelays hto hv; refine ⟨e1, e2, e3, ?_, ?_, ?_, ?_, (Kh _ _ _ (by omega)).trans h.six⟩
 · rw [Kh _ _ _ (by omega)]
   have hb2 : RB w2 b f1 := h.at_.blk.grown hto.grown (h.at_.blk.neOwn h.at_.rel (by decide))
   exact own_cell hb2 (OutR.other h.out hto h.at_.rel (by decide)) (by decide)
 · have hc : Chg (fun k o => RWr b f k \/ w.heap.size <= k \/ (Bo <= k /\ isPkR o)) w w2 :=
    (h.chg.mono (fun k o _ h => by rcases h with h | h; · exact .inl h
                                   · exact .inr (.inr h))).grown hto.grown (fun k o e _ => by
     rcases h.ownW k (.inr (.inr (.inl e))) with h | h
     · exact .inl h
     · exact .inr (.inl h))
   have hc2 : Chg (fun k o => RWr b f k \/ w.heap.size <= k \/ (Bo <= k /\ isPkR o)) w (w2.setCell ⟨b, 20, none⟩ (.slice (some ⟨g, 0, none⟩) n c)) := hc.setCell _ (fun _ _ => .inl (.inl rfl))
   exact hc2.mono (fun k o hk h => by
    rcases h with h | h | h
    · exact .inl h
    · omega
    · exact .inr h)
 · intro k hk
   unfold RFoot at hk; rcases hk with hk | hk | hk | hk | hk | hk
   · exact .inl (.inl hk)
   · rw [Kh _ _ _ (by omega)] at hk; exact h.own k (.inr (.inl hk))
   · rw [Kh _ _ _ (by omega)] at hk; exact h.own k (.inr (.inr (.inl hk)))
   · rw [Kh _ _ _ (by omega)] at hk; exact h.own k (.inr (.inr (.inr (.inl hk))))
   · rw [Ku] at hk
     simp only [Value.ownBlock, Option.some.injEq] at hk; subst hk; rcases hto with ⟨e, _⟩ | ⟨e, _⟩
     · exact h.own g (.inr (.inr (.inr (.inr (.inl e)))))
     · have := h.chg.size; exact .inr (by omega)
   · rw [Kh _ _ _ (by omega)] at hk; exact h.own k (.inr (.inr (.inr (.inr (.inr hk)))))
 · intro k hk
   unfold RWr at hk; rcases hk with hk | hk | hk | hk
   · exact .inl (.inl hk)
   · rw [Kh _ _ _ (by omega)] at hk; exact h.ownW k (.inr (.inl hk))
   · rw [Ku] at hk
     simp only [Value.ownBlock, Option.some.injEq] at hk; subst hk; rcases hto with ⟨e, _⟩ | ⟨e, _⟩
     · exact h.ownW g (.inr (.inr (.inl e)))
     · have := h.chg.size; exact .inr (by omega)
   · rw [Kh _ _ _ (by omega)] at hk; exact h.ownW k (.inr (.inr (.inr hk)))
end
theorem rasked_any {Bo B b : Nat} {w : World} {f : Nat -> Value} {x : Nd} {ps : List Pk} (h : RfAt w B b f x) (hout : OutR w Bo (f 24) ps) (ho : Ok x) {C : Int} (hbd : Bd C x) (hC : C <= 4000000000) (hB : B <= w.heap.size) (hBo : Bo <= w.heap.size) (hps : ps.length < 900) (m : M) (hm : MOk m) (hk : m.kind = 3) (ma : Option Addr) (mn mc : Nat) :
  Calls Tryz.prog 84 #[.pointer (some ⟨b, 0, none⟩), m.agg (.slice ma mn mc)] w fun e w' => e = .returned (.tuple #[]) /\ ∃ f', RSt Bo B b w f w' f' (x.asked m).2 (ps ++ (x.asked m).1) := by
 have hbl := h.blk.lt; have hmt := hm.tgt (.inr (.inr hk)); have hms := hm.seq; have hok2 := fun hl => ok_newRelay ho hbd.seq.1 hbd.clock.1 hm hk hl
 have HM := Hd hm; clear hk hm; obtain ⟨kind, frm, inc, seq, tgt, ups⟩ := m; simp only at hmt hms hok2; obtain ⟨w1, hw1⟩ : ∃ w1, w.alloc (.cells #[.int .i64 kind, .int .i64 frm, .int .i64 inc, .int .i64 seq, .int .i64 tgt, .slice ma mn mc] 33) = w1 := ⟨_, rfl⟩; have hb1 : Below w.heap.size w w1 := by rw [<- hw1]; exact (Below.refl _ _).alloc (Nat.le_refl _) _
 have hx1 : w1.heap[w.heap.size]? = some (.cells #[.int .i64 kind, .int .i64 frm, .int .i64 inc, .int .i64 seq, .int .i64 tgt, .slice ma mn mc] 33 (0, 0)) := by rw [<- hw1]; exact Kc w _
 have y1 := Ka hx1 1; have y3 := Ka hx1 3; have y4 := Ka hx1 4; simp only [List.getElem?_toArray, List.getElem?_cons_succ, List.getElem?_cons_zero] at y1 y3 y4; have hS1 := (RSt.refl h hout).below hb1; have c10 : w1.cell? ⟨b, 10, none⟩ = some (.int .i64 x.self.id) := by rw [<- hS1.at_.s10]; exact hS1.at_.blk.cell (by omega)
 have hsz1 : w1.heap.size = w.heap.size + 1 := by rw [<- hw1]; simp
 have HS1 := Hd hS1; have HX1 := Hd hx1; have HW1 := Hd hw1; have HO := Hd ho; have HBD := Hd hbd; have HSZ1 := Hd hsz1; have HOK2 := Hd hok2; clear h hout ho hbd hS1 hx1 hw1 hsz1 hok2 hb1; by_cases hself : tgt = x.self.id
 · have hsb : (tgt == x.self.id) = true := by simpa using hself
   have hask : x.asked ⟨kind, frm, inc, seq, tgt, ups⟩ = ([(frm, x.msg ⟨2, 0, 0, seq, x.self.id, []⟩)], x.sent ⟨2, 0, 0, seq, x.self.id, []⟩) := by
    unfold Nd.asked Nd.pinged; simp only; rw [if_pos hself, if_pos hself, hself]
   have HA := Hd hask; clear hask hself; unfold M.agg; go_enter Tryz.func84, Tryz.ntmps84; go_upto_region 1 with (fail); rw [HW1.out]; go_quiet (fail); go_upto_region 2 with (fail)
   (refine Jj 11 (by kernel_rfl) (by kernel_rfl) ?_; simp only [List.take_succ_cons, List.take_zero, List.drop_succ_cons, List.drop_zero])
   iterate 11 still_step
   refine wpStill_nil ?_; go_wp2_with fail
   refine (rsend_any (HS1.out.drewN (nq + 1)).at_ (HS1.out.drewN (nq + 1)).out HO.out (by have := HSZ1.out; show Bo <= w1.heap.size; omega) (by omega) frm 2 seq x.self.id hms [] none 0 0 rfl (by omega) (fun j' k' h' => by simp at h') (fun k' h' => by simp at h')).mono ?_
   rintro e w8 ⟨rfl, f8, hS8⟩; have HS8 := Hd ((HS1.out.drewN (nq + 1)).trans hS8); clear hS8; go_wp2
   ((try simp only [Exit.inBlock, Exit.then]); first | refine bodyPost_ret (results_none rfl _ _ _) rfl ?_ | refine bodyPost_end (results_none rfl _ _ _) rfl ?_)
   exact ⟨rfl, f8, by rw [HA.out]; exact HS8.out⟩
 · have hsb : (tgt == x.self.id) = false := by simpa using hself
   obtain ⟨ra, rc, e20⟩ := Kg HS1.out.at_.rel; obtain ⟨rn, hrn⟩ : ∃ rn, x.relays.length = rn := ⟨_, rfl⟩; rw [hrn] at e20; have c20 : w1.cell? ⟨b, 20, none⟩ = some (.slice ra rn rc) := by rw [<- e20]; exact HS1.out.at_.blk.cell (by omega)
   have hrl : rn <= 4 := by rw [<- hrn]; exact HO.out.rlen
   have HRN := Hd hrn; have E20 := Hd e20; clear hrn e20; by_cases h4 : rn = 4
   · have hask : x.asked ⟨kind, frm, inc, seq, tgt, ups⟩ = ([], x) := by
      unfold Nd.asked; simp only; rw [if_neg hself, if_pos (HRN.out.trans h4)]
     have HA := Hd hask; clear hask hself; subst h4; unfold M.agg; go_enter Tryz.func84, Tryz.ntmps84; go_upto_region 1 with (fail); rw [HW1.out]; go_quiet (fail); go_wp2
     ((try simp only [Exit.inBlock, Exit.then]); first | refine bodyPost_ret (results_none rfl _ _ _) rfl ?_ | refine bodyPost_end (results_none rfl _ _ _) rfl ?_)
     exact ⟨rfl, f, by rw [HA.out, List.append_nil]; exact HS1.out.drewN _⟩
   · have h4b : ((rn : Int) == 4) = false := by simp; omega
     have hsq := HBD.out.seq; have hcl := HBD.out.clock; have hper := (cfg_bounds' HO.out.cfg).2.1; obtain ⟨y, hy⟩ : ∃ y : Nd, { x.next with relays := x.relays ++ [⟨x.seq + 1, tgt, frm, seq, x.clock + x.c.period⟩] } = y := ⟨_, rfl⟩
     have hask : x.asked ⟨kind, frm, inc, seq, tgt, ups⟩ = ([(tgt, y.msg ⟨1, 0, 0, x.seq + 1, tgt, []⟩)], y.sent ⟨1, 0, 0, x.seq + 1, tgt, []⟩) := by
      unfold Nd.asked; simp only; rw [if_neg hself, if_neg (fun e => h4 (by rw [<- HRN.out]; exact e)), hy]
     have hoky : Ok y := by rw [<- hy]; exact HOK2.out (fun e => h4 (by rw [<- HRN.out]; exact e))
     have HA := Hd hask; have HY := Hd hy; have HOKY := Hd hoky; obtain ⟨i0, hi, hz0, hz1, hz2⟩ := info_parts info_rel; clear hask hself hy hoky h4; unfold M.agg; go_enter Tryz.func84, Tryz.ntmps84; go_upto_region 1 with (fail); rw [HW1.out]; go_quiet (fail); go_wp2_with fail
     refine (rnext_any (HS1.out.drewN nq).at_ (HS1.out.drewN nq).out (by omega)).mono ?_
     rintro e w3 ⟨rfl, f3, hS3⟩; have hx3 := hS3.kept (w := w1.drewN nq) HX1.out (HS1.out.drewN nq).at_ (by decide) (by decide)
     have hS3' := (HS1.out.drewN nq).trans hS3; have z1 := Ka hx3 1; have z3 := Ka hx3 3; have z4 := Ka hx3 4; simp only [List.getElem?_toArray, List.getElem?_cons_succ, List.getElem?_cons_zero] at z1 z3 z4; obtain ⟨ra2, rc2, e20⟩ := Kg hS3'.at_.rel; have e20' : f3 20 = .slice ra2 rn rc2 := by rw [e20]; show Value.slice ra2 x.relays.length rc2 = _; rw [HRN.out]
     have d20 : w3.cell? ⟨b, 20, none⟩ = some (.slice ra2 rn rc2) := by rw [<- e20']; exact hS3'.at_.blk.cell (by omega)
     have d8 : w3.cell? ⟨b, 8, none⟩ = some (.int .i64 x.clock) := by rw [show Value.int .i64 x.clock = f3 8 from hS3'.at_.n8.symm]; exact hS3'.at_.blk.cell (by omega)
     have d1 : w3.cell? ⟨b, 1, none⟩ = some (.int .i64 x.c.period) := by rw [show Value.int .i64 x.c.period = f3 1 from hS3'.at_.c1.symm]; exact hS3'.at_.blk.cell (by omega)
     obtain ⟨ed, hed⟩ : ∃ ed, x.clock + x.c.period = ed := ⟨_, rfl⟩; have wa : IntKind.i64.wrap (x.clock + x.c.period) = ed := by rw [IntWalk.i64_in _ (by omega)]; exact hed
     have hrw : w3.ownsRow B 147 5 (.slice ra2 rn rc2) rn (Za x.relays) := by
      have := hS3'.at_.rel; rw [e20'] at this; rw [show x.next.relays = x.relays from rfl, HRN.out] at this; exact this
     have hrw4 : (w3.alloc (.cells #[.int .i64 (x.seq + 1), .int .i64 tgt, .int .i64 frm, .int .i64 seq, .int .i64 ed] 147)).drew.ownsRow B 147 5 (.slice ra2 rn rc2) rn (Za x.relays) := (hrw.alloc _).drew; have HNEW : Hid (∀ j u, [Value.int .i64 (x.seq + 1), .int .i64 tgt, .int .i64 frm, .int .i64 seq, .int .i64 ed][j]? = some u -> (w3.alloc (.cells #[.int .i64 (x.seq + 1), .int .i64 tgt, .int .i64 frm, .int .i64 seq, .int .i64 ed] 147)).drew.cell? ((⟨w3.heap.size, 0, none⟩ : Addr).add j) = some u) := Kt w3 [.int .i64 (x.seq + 1), .int .i64 tgt, .int .i64 frm, .int .i64 seq, .int .i64 ed] 147 (n := w3.heap.size) rfl; have hS4 := hS3'.below (((Below.refl _ w3).alloc (Nat.le_refl _) (.cells #[.int .i64 (x.seq + 1), .int .i64 tgt, .int .i64 frm, .int .i64 seq, .int .i64 ed] 147)).drew); have k3 : rn + 1 <= maxLen := by unfold maxLen; omega
     have K3 := Hd k3; have hb3 := hS3'.at_.blk.lt
     have HK : Hid (∀ W' : World, W'.heap[b]? = w3.heap[b]? -> W'.heap[w.heap.size]? = w3.heap[w.heap.size]? -> (W'.cell? ⟨b, 20, none⟩ = some (.slice ra2 rn rc2) /\ W'.cell? ⟨w.heap.size, 4, none⟩ = some (.int .i64 tgt) /\ W'.cell? ⟨w.heap.size, 1, none⟩ = some (.int .i64 frm) /\ W'.cell? ⟨w.heap.size, 3, none⟩ = some (.int .i64 seq) /\ W'.cell? ⟨b, 8, none⟩ = some (.int .i64 x.clock) /\ W'.cell? ⟨b, 1, none⟩ = some (.int .i64 x.c.period))) := Hd (fun W' h1 h2 => by
      unfold World.cell? at *; simp only [h1, h2]; exact ⟨d20, z4, z1, z3, d8, d1⟩)
     have HRW4 := Hd hrw4
     have HNB : Hid ((Value.slice ra2 rn rc2).ownBlock ≠ some b /\ (Value.slice ra2 rn rc2).ownBlock ≠ some w.heap.size) := Hd ⟨hS3'.at_.blk.neOwn hrw (by decide), fun e => by
      obtain ⟨_, cur, hg⟩ := Ke hrw e; rw [hx3] at hg; simp only [Option.some.injEq, Obj.cells.injEq] at hg; exact absurd hg.2.1 (by decide)⟩
     have HS4 := Hd hS4; have HX3 := Hd hx3; have HED := Hd hed; have HE20 := Hd e20'; have hsz3 := hS3'.chg.size; have hxl3 := Kb hx3; clear hS3 hS3' hx3 e20 e20' hed hrw hrw4 hS4 k3 c20 y1 y3 y4 c10; go_upto_region 5 with (fail); go_cut [5] (fun s5 wx => ∃ g gc, s5 = .slice (some ⟨g, 0, none⟩) (rn + 1) gc /\ wx.ownsRow B 147 5 (.slice (some ⟨g, 0, none⟩) (rn + 1) gc) (rn + 1) (Za x.relays ++ [.int .i64 (x.seq + 1), .int .i64 tgt, .int .i64 frm, .int .i64 seq, .int .i64 ed]) /\ AppTo (w3.alloc (.cells #[.int .i64 (x.seq + 1), .int .i64 tgt, .int .i64 frm, .int .i64 seq, .int .i64 ed] 147)).drew wx (.slice ra2 rn rc2) g)
     case first =>
      go_region_held3 (fun W' => W'.cell? ⟨b, 20, none⟩ = some (.slice ra2 rn rc2) /\ W'.cell? ⟨w.heap.size, 4, none⟩ = some (.int .i64 tgt) /\ W'.cell? ⟨w.heap.size, 1, none⟩ = some (.int .i64 frm) /\ W'.cell? ⟨w.heap.size, 3, none⟩ = some (.int .i64 seq) /\ W'.cell? ⟨b, 8, none⟩ = some (.int .i64 x.clock) /\ W'.cell? ⟨b, 1, none⟩ = some (.int .i64 x.c.period))
       (first | exact HK.out _ rfl rfl | exact HK.out _ (Below.heap_alloc _ _ _ hb3) (Below.heap_alloc _ _ _ hxl3) | exact HK.out _ ((HTO5.out.block (by simp; omega) HNB.out.1).trans (Below.heap_alloc _ _ _ hb3)) ((HTO5.out.block (by simp; omega) HNB.out.2).trans (Below.heap_alloc _ _ _ hxl3)))
       ((go_loud (refine Ji rfl _ _ _ rfl B 147 i0 _ 5 40 Tryz.underlying91 hi hz0 hz1 hz2 rfl (by decide) (.slice ra2 rn rc2) rn _ rfl HRW4.out ⟨w3.heap.size, 0, none⟩ 1 1 _ rfl rfl HNEW.out (by simp [Value.oneCell']) (by omega) K3.out (by omega) (by simp; omega) ?_; intro g gc w5 hl5 hto5; have HL5 := Hd hl5; have HTO5 := Hd hto5; clear hl5 hto5)))
      all_goals
       go_wp2; go_meet
       case rel => exact ⟨g, gc, rfl, HL5.out, HTO5.out⟩
     case rest =>
      obtain ⟨g, gc, rfl, hl5, hto5⟩ := hcut; have hcells : Za (x.relays ++ [⟨x.seq + 1, tgt, frm, seq, ed⟩]) = Za x.relays ++ [.int .i64 (x.seq + 1), .int .i64 tgt, .int .i64 frm, .int .i64 seq, .int .i64 ed] := by rw [relCells_snoc]
      have hlen : (x.relays ++ [(⟨x.seq + 1, tgt, frm, seq, ed⟩ : Rel)]).length = rn + 1 := by rw [List.length_append, HRN.out]; rfl
      obtain ⟨ct, ft, hS5⟩ := HS4.out.appRelays (l := x.relays ++ [⟨x.seq + 1, tgt, frm, seq, ed⟩]) (by rw [HE20.out]; exact hto5) (by rw [hlen, hcells]; exact hl5)
      rw [HE20.out] at ct; have hxc : wc.heap[w.heap.size]? = some (.cells #[.int .i64 kind, .int .i64 frm, .int .i64 inc, .int .i64 seq, .int .i64 tgt, .slice ma mn mc] 33 (0, 0)) := (hto5.block (by simp; omega) HNB.out.2).trans ((Below.heap_alloc _ _ _ hxl3).trans HX3.out)
      have hx6 : (wc.setCell ⟨b, 20, none⟩ (.slice (some ⟨g, 0, none⟩) (rn + 1) gc)).heap[w.heap.size]? = some (.cells #[.int .i64 kind, .int .i64 frm, .int .i64 inc, .int .i64 seq, .int .i64 tgt, .slice ma mn mc] 33 (0, 0)) := by
       rw [Kj _ _ _ _ _ (by omega)]; exact hxc
      obtain ⟨w6, hw6⟩ : ∃ w6, wc.setCell ⟨b, 20, none⟩ (.slice (some ⟨g, 0, none⟩) (rn + 1) gc) = w6 := ⟨_, rfl⟩; rw [hw6] at hS5 hx6; have v4 := Ka hx6 4; simp only [List.getElem?_toArray, List.getElem?_cons_succ, List.getElem?_cons_zero] at v4; have hye : ({ x.next with relays := x.relays ++ [⟨x.seq + 1, tgt, frm, seq, ed⟩] } : Nd) = y := by rw [<- HED.out]; exact HY.out
      rw [hye] at hS5; have HS6 := Hd hS5; have HW6 := Hd hw6; clear hl5 hto5 hcells hlen hS5 hxc hx6 hw6 hye z1 z3 z4 d20 d8 d1 wa; go_upto_region 7 with (fail); rw [HW6.out]; go_wp2_with fail
      refine (rsend_any HS6.out.at_ HS6.out.out HOKY.out (by have := HS6.out.chg.size; omega) (by omega) tgt 1 (x.seq + 1) tgt (by omega) [] none 0 0 rfl (by omega) (fun j' k' h' => by simp at h') (fun k' h' => by simp at h')).mono ?_
      rintro e w8 ⟨rfl, f8, hS8⟩; have HS8 := Hd (HS6.out.trans hS8); clear hS8; go_wp2
      ((try simp only [Exit.inBlock, Exit.then]); first | refine bodyPost_ret (results_none rfl _ _ _) rfl ?_ | refine bodyPost_end (results_none rfl _ _ _) rfl ?_)
      exact ⟨rfl, f8, by rw [HA.out]; exact HS8.out⟩
def TabI (x : Nd) (i : Nat) (pt : Bool) (q : List K) : Prop :=
 (pt = false /\ q = (x.others.take i).map (·.k) /\ ∀ k ∈ (x.others.take i).map (·.k), k.id < x.self.id) \/ (pt = true /\ q = putK x.self ((x.others.take i).map (·.k)) /\ ∃ k ∈ (x.others.take i).map (·.k), ¬ k.id < x.self.id)
theorem tab_snoc {x : Nd} {i : Nat} {u : Mem} (hu : x.others[i]? = some u) : (x.others.take (i + 1)).map (·.k) = (x.others.take i).map (·.k) ++ [u.k] := by
 rw [List.take_add_one, hu, List.map_append]; rfl
theorem TabI.more {x : Nd} {i : Nat} {q : List K} {u : Mem} (h : TabI x i true q) (hu : x.others[i]? = some u) : TabI x (i + 1) true (q ++ [u.k]) := by
 rcases h with ⟨e, _⟩ | ⟨_, e, k, hk, hn⟩
 · cases e
 · refine .inr ⟨rfl, ?_, k, by rw [tab_snoc hu]; exact List.mem_append_left _ hk, hn⟩
   rw [tab_snoc hu, putK_snoc ⟨k, hk, hn⟩, e]
theorem TabI.less {x : Nd} {i : Nat} {q : List K} {u : Mem} (h : TabI x i false q) (hu : x.others[i]? = some u) (hl : u.k.id < x.self.id) : TabI x (i + 1) false (q ++ [u.k]) := by
 rcases h with ⟨_, e, ha⟩ | ⟨e, _⟩
 · refine .inl ⟨rfl, by rw [tab_snoc hu, e], fun k hk => ?_⟩
   rw [tab_snoc hu] at hk; rcases List.mem_append.1 hk with hk | hk
   · exact ha k hk
   · rw [List.mem_singleton] at hk; rw [hk]; exact hl
 · cases e
theorem TabI.put {x : Nd} {i : Nat} {q : List K} {u : Mem} (h : TabI x i false q) (hu : x.others[i]? = some u) (hl : x.self.id < u.k.id) : TabI x (i + 1) true (q ++ [x.self] ++ [u.k]) := by
 rcases h with ⟨_, e, ha⟩ | ⟨e, _⟩
 · refine .inr ⟨rfl, ?_, u.k, by rw [tab_snoc hu]; simp, by omega⟩
   rw [tab_snoc hu, putK_before ha (by omega), e, List.append_assoc]; rfl
 · cases e
theorem TabI.done {x : Nd} {i : Nat} {pt : Bool} {q : List K} (h : TabI x i pt q) (hi : x.others.length <= i) : (if pt then q else q ++ [x.self]) = putK x.self (x.others.map (·.k)) := by
 unfold TabI at h; rw [List.take_of_length_le hi] at h; rcases h with ⟨rfl, e, ha⟩ | ⟨rfl, e, _⟩
 · rw [putK_last ha, <- e]; rfl
 · exact e
theorem rtable_any {Bo B b : Nat} {w : World} {f : Nat -> Value} {x : Nd} {ps : List Pk} (h : RfAt w B b f x) (hout : OutR w Bo (f 24) ps) (ho : Ok x) (hBo : Bo <= w.heap.size) (hps : ps.length < 900) (m : M) (hm : MOk m) (ma : Option Addr) (mn mc : Nat) :
  Calls Tryz.prog 85 #[.pointer (some ⟨b, 0, none⟩), m.agg (.slice ma mn mc)] w fun e w' => e = .returned (.tuple #[]) /\ ∃ f', RSt Bo B b w f w' f' (x.joined m).2 (ps ++ (x.joined m).1) := by
 have hms := hm.seq; clear hm; have hjo : x.joined m = ([(m.frm, x.msg ⟨5, 0, 0, m.seq, 0, putK x.self (x.others.map (·.k))⟩)], x) := rfl; obtain ⟨kind, frm, inc, seq, tgt, ups⟩ := m; simp only at hms hjo; obtain ⟨w1, hw1⟩ : ∃ w1, w.alloc (.cells #[.int .i64 kind, .int .i64 frm, .int .i64 inc, .int .i64 seq, .int .i64 tgt, .slice ma mn mc] 33) = w1 := ⟨_, rfl⟩; have hb1 : Below w.heap.size w w1 := by rw [<- hw1]; exact (Below.refl _ _).alloc (Nat.le_refl _) _
 have hx1 : w1.heap[w.heap.size]? = some (.cells #[.int .i64 kind, .int .i64 frm, .int .i64 inc, .int .i64 seq, .int .i64 tgt, .slice ma mn mc] 33 (0, 0)) := by rw [<- hw1]; exact Kc w _
 have hS1 := (RSt.refl h hout).below hb1; have hsz1 : w1.heap.size = w.heap.size + 1 := by rw [<- hw1]; simp
 obtain ⟨oa, oc, e13⟩ := Kg hS1.at_.oth; obtain ⟨ln, hln⟩ : ∃ ln, x.others.length = ln := ⟨_, rfl⟩; have hrow := hS1.at_.oth; rw [e13, hln] at hrow; rw [hln] at e13; have hl7 : ln <= 7 := by rw [<- hln]; exact ho.len
 have c13 : w1.cell? ⟨b, 13, none⟩ = some (.slice oa ln oc) := by rw [<- e13]; exact hS1.at_.blk.cell (by omega)
 have c10 : w1.cell? ⟨b, 10, none⟩ = some (.int .i64 x.self.id) := by rw [<- hS1.at_.s10]; exact hS1.at_.blk.cell (by omega)
 have c11 : w1.cell? ⟨b, 11, none⟩ = some (.int .i64 x.self.inc) := by rw [<- hS1.at_.s11]; exact hS1.at_.blk.cell (by omega)
 have c12 : w1.cell? ⟨b, 12, none⟩ = some (.int .i64 x.self.st) := by rw [<- hS1.at_.s12]; exact hS1.at_.blk.cell (by omega)
 have hb1l := hS1.at_.blk.lt; obtain ⟨i0, hi, hz0, hz1, hz2⟩ := info_parts info_rkey; have HS1 := Hd hS1; have HX1 := Hd hx1; have HW1 := Hd hw1; have HO := Hd ho; have HROW := Hd hrow; have HLN := Hd hln; have HJ := Hd hjo; have HSZ1 := Hd hsz1; clear h hout ho hS1 hx1 hw1 hb1 hrow hln e13 hjo hsz1; unfold M.agg; go_enter Tryz.func85, Tryz.ntmps85; go_wp2_with fail
 rw [HW1.out]; go_loopw [4, 5, 6] (fun s4 s5 s6 wr => ∃ (i : Nat) (q : List K) (pt : Bool), i <= ln /\ s6 = .int .i64 (i : Nat) /\ s5 = .bool pt /\ q.length <= i + 1 /\ TabI x i pt q /\ wr.ownsRow w1.heap.size 58 3 s4 q.length (Kd q) /\ Below w1.heap.size w1 wr) (fun _ _ s6 _ => 20 - (intOf s6).toNat)
 case atStart => exact ⟨0, [], false, Nat.zero_le _, rfl, rfl, by simp, .inl ⟨rfl, rfl, by simp⟩, World.ownsRow_nil _ _ _ _, Below.refl _ _⟩
 case round =>
  obtain ⟨i, q, pt, hiq, rfl, rfl, hqi, htab, hrw, hb⟩ := hrel; obtain ⟨qa, qc, rfl⟩ := Kg hrw; obtain ⟨mm, hmm⟩ : ∃ mm, q.length = mm := ⟨_, rfl⟩; rw [hmm] at hrw hqi ⊢; have HTAB := Hd htab; have HRW := Hd hrw; have HB := Hd hb; have HM := Hd hmm; have hszr := hb.size; have d13 := (hb.cell (p := ⟨b, 13, none⟩) hb1l).trans c13; have d10 := (hb.cell (p := ⟨b, 10, none⟩) hb1l).trans c10; have d11 := (hb.cell (p := ⟨b, 11, none⟩) hb1l).trans c11; have d12 := (hb.cell (p := ⟨b, 12, none⟩) hb1l).trans c12; clear htab hrw hb hmm; by_cases hil : i < ln
  · obtain ⟨u, hu⟩ : ∃ u, x.others[i]? = some u := ⟨_, List.getElem?_eq_getElem (by have := HLN.out; omega)⟩
    obtain ⟨g, rfl, hg, u0, u1, u2, _⟩ := mr_at (Ks HROW.out HB.out) hu; have hne := HO.out.notSelf u (List.mem_of_getElem? hu); have hgl : g < w1.heap.size := (HROW.out.lt g rfl).2; have v0 := (HB.out.cell (p := ⟨g, i * 4, none⟩) hgl).symm.trans u0; have v1 := (HB.out.cell (p := ⟨g, i * 4 + 1, none⟩) hgl).symm.trans u1; have v2 := (HB.out.cell (p := ⟨g, i * 4 + 2, none⟩) hgl).symm.trans u2; have HU := Hd hu; clear hu; obtain ⟨⟨uid, uinc, ust⟩, udue⟩ := u; simp only at u0 u1 u2 v0 v1 v2 hne; have k3 : mm + 1 <= maxLen := by unfold maxLen; omega
    have K3 := Hd k3; clear k3; go_upto_region 6 with (fail); go_cut [34] (fun s34 wx => ∃ bc n, s34 = .bool bc /\ bc = (!pt && decide (x.self.id < uid)) /\ wx = wr.drewN n)
    case first =>
     cases pt with
     | true =>
      go_quiet (fail); go_wp2; go_meet
      case rel => exact ⟨_, nq, rfl, rfl, rfl⟩
     | false =>
      by_cases hlt : x.self.id < uid
      · have hb : decide (x.self.id < uid) = true := by simpa using hlt
        clear hlt; go_quiet (fail); go_wp2; go_meet
        case rel => exact ⟨_, nq, rfl, by simp [hb], rfl⟩
      · have hb : decide (x.self.id < uid) = false := by simpa using hlt
        clear hlt; go_quiet (fail); go_wp2; go_meet
        case rel => exact ⟨_, nq, rfl, by simp [hb], rfl⟩
    case rest =>
    obtain ⟨bc, nq, rfl, hbc, rfl⟩ := hcut; have HBC := Hd hbc; clear hbc; go_upto_if 34 with (fail); go_cut [4, 5] (fun s4 s5 wx => ∃ (q1 : List K) (pt1 : Bool), s5 = .bool pt1 /\ q1.length <= i + 1 /\ TabI x (i + 1) pt1 (q1 ++ [⟨uid, uinc, ust⟩]) /\ wx.ownsRow w1.heap.size 58 3 s4 q1.length (Kd q1) /\ Below w1.heap.size w1 wx)
    case first =>
     cases bc with
     | true =>
      have hb := HBC.out; cases pt with
      | true => simp at hb
      | false =>
       have hlt : x.self.id < uid := by simpa using hb
       have htab := HTAB.out.put HU.out hlt
       have hml : mm <= i := by
        rcases HTAB.out with ⟨_, e, _⟩ | ⟨e, _⟩
        · rw [<- HM.out, e, List.length_map, List.length_take]; omega
        · cases e
       have HT2 := Hd htab; have hrw : ((wr.alloc (.cells #[.int .i64 x.self.id, .int .i64 x.self.inc, .int .i64 x.self.st] 58)).drewN nq).ownsRow w1.heap.size 58 3 (.slice qa mm qc) mm (Kd q) := Je (HRW.out.alloc _) (fun _ _ => rfl)
       have hnew : Ki ((wr.alloc (.cells #[.int .i64 x.self.id, .int .i64 x.self.inc, .int .i64 x.self.st] 58)).drewN nq) (some ⟨wr.heap.size, 0, none⟩) [.int .i64 x.self.id, .int .i64 x.self.inc, .int .i64 x.self.st] := Jx wr [.int .i64 x.self.id, .int .i64 x.self.inc, .int .i64 x.self.st] 58; have HRW2 := Hd hrw; have HNEW := Hd hnew; clear hb hlt htab hrw hnew; go_wp2_with (at_builtin; go_loud (refine Km _ rfl _ _ 31 rfl w1.heap.size 58 i0 _ 3 24 Tryz.underlying31 hi hz0 hz1 hz2 rfl (by decide) (.slice qa mm qc) mm _ rfl HRW2.out (some ⟨wr.heap.size, 0, none⟩) 1 1 _ rfl rfl HNEW.out (by simp [Value.oneCell']) K3.out (by omega) (by simp; omega) ?_))
       intro a7 c7 w7 hl7 hto7; have hb7 : Below w1.heap.size w1 w7 := (Below.drewR (HB.out.alloc hszr _) _).grown hto7.grown (by simp; omega) (fun j hj => (HRW.out.lt j hj).1)
       have HL7 := Hd hl7; have HB7 := Hd hb7; clear hl7 hto7 hb7; go_wp2; go_meet
       case rel => exact ⟨q ++ [x.self], true, rfl, by rw [List.length_append, HM.out]; show mm + 1 <= _; omega, HT2.out, by rw [List.length_append, HM.out, rkeys_snoc]; exact HL7.out, HB7.out⟩
     | false =>
      have hb := HBC.out
      have htab : TabI x (i + 1) pt (q ++ [⟨uid, uinc, ust⟩]) /\ q.length <= i + 1 := by
       cases pt with
       | true => exact ⟨HTAB.out.more HU.out, by rw [HM.out]; exact hqi⟩
       | false =>
        have hnl : ¬ x.self.id < uid := by simpa using hb
        exact ⟨HTAB.out.less HU.out (by show uid < x.self.id; omega), by rw [HM.out]; exact hqi⟩
      have HT2 := Hd htab; clear hb htab; go_wp2; go_meet
      case rel => exact ⟨q, pt, rfl, HT2.out.2, HT2.out.1, by rw [HM.out]; exact Je HRW.out (fun _ _ => rfl), Below.drewR HB.out _⟩
    case rest =>
     obtain ⟨q1, pt1, rfl, hq1, htab, hrw1, hbc1⟩ := hcut; obtain ⟨qa1, qc1, rfl⟩ := Kg hrw1; obtain ⟨m1, hm1⟩ : ∃ m1, q1.length = m1 := ⟨_, rfl⟩; rw [hm1] at hrw1 hq1 ⊢; have hszc := hbc1.size; have k3 : m1 + 1 <= maxLen := by unfold maxLen; omega
     have K3' := Hd k3; have e13 := (hbc1.cell (p := ⟨b, 13, none⟩) hb1l).trans c13; have z0 := (hbc1.cell (p := ⟨g, i * 4, none⟩) hgl).trans v0; have z1 := (hbc1.cell (p := ⟨g, i * 4 + 1, none⟩) hgl).trans v1; have z2 := (hbc1.cell (p := ⟨g, i * 4 + 2, none⟩) hgl).trans v2; have hrw2 : (wc.alloc (.cells #[.int .i64 uid, .int .i64 uinc, .int .i64 ust] 58)).ownsRow w1.heap.size 58 3 (.slice qa1 m1 qc1) m1 (Kd q1) := hrw1.alloc _; have hnew : Ki (wc.alloc (.cells #[.int .i64 uid, .int .i64 uinc, .int .i64 ust] 58)) (some ⟨wc.heap.size, 0, none⟩) [.int .i64 uid, .int .i64 uinc, .int .i64 ust] := Jx wc [.int .i64 uid, .int .i64 uinc, .int .i64 ust] 58; have HRW2 := Hd hrw2; have HRW1 := Hd hrw1; have HNEW := Hd hnew; have HT2 := Hd htab; have HBC1 := Hd hbc1; have HM1 := Hd hm1; clear htab hrw1 hrw2 hnew hbc1 hm1 k3 HRW HTAB HB u0 u1 u2 d13 d10 d11 d12; go_wp2_with (at_builtin; go_loud (refine Km _ rfl _ _ 31 rfl w1.heap.size 58 i0 _ 3 24 Tryz.underlying31 hi hz0 hz1 hz2 rfl (by decide) (.slice qa1 m1 qc1) m1 _ rfl HRW2.out (some ⟨wc.heap.size, 0, none⟩) 1 1 _ rfl rfl HNEW.out (by simp [Value.oneCell']) K3'.out (by omega) (by simp; omega) ?_))
     intro a7 c7 w7 hl7 hto7; have hb7 : Below w1.heap.size w1 w7 := (HBC1.out.alloc hszc _).grown hto7.grown (by simp; omega) (fun j hj => (HRW1.out.lt j hj).1)
     have HL7 := Hd hl7; have HB7 := Hd hb7; clear hl7 hto7 hb7; go_wp2; go_roundw
     case rel => exact ⟨i + 1, q1 ++ [⟨uid, uinc, ust⟩], pt1, by omega, by go_num, rfl, by rw [List.length_append, HM1.out]; show m1 + 1 <= _; omega, HT2.out, by rw [List.length_append, HM1.out, rkeys_snoc]; exact HL7.out, HB7.out⟩
     case measure => simp [intOf]; omega
  · have hdone := HTAB.out.done (by have := HLN.out; omega)
    obtain ⟨L, hL⟩ : ∃ L, putK x.self (x.others.map (·.k)) = L := ⟨_, rfl⟩; have hLl : L.length = ln + 1 := by rw [<- hL, putK_len, List.length_map, HLN.out]
    have hLk : ∀ k ∈ L, Jp k := fun k hk => by
     rw [<- hL] at hk; rcases mem_putK.1 hk with rfl | hk
     · exact HO.out.self
     · obtain ⟨m, hm, rfl⟩ := List.mem_map.1 hk
       exact HO.out.key m hm
    rw [hL] at hdone; have HDN := Hd hdone; have HLL := Hd hLl; have HLK := Hd hLk; have HL := Hd hL; have k3 : mm + 1 <= maxLen := by unfold maxLen; omega
    have K3 := Hd k3; clear hdone hLl hLk hL k3; go_upto_if 54 with (fail); go_cut [4] (fun s4 wx => wx.ownsRow w1.heap.size 58 3 s4 L.length (Kd L) /\ Below w1.heap.size w1 wx)
    case first =>
     cases pt with
     | true =>
      have he : q = L := by have := HDN.out; simpa using this
      have HE := Hd he; clear he; go_wp2; go_meet
      case rel => exact ⟨by rw [<- HE.out, HM.out]; exact HRW.out, HB.out⟩
     | false =>
      have he : q ++ [x.self] = L := by have := HDN.out; simpa using this
      have HE := Hd he; have hrw : (wr.alloc (.cells #[.int .i64 x.self.id, .int .i64 x.self.inc, .int .i64 x.self.st] 58)).ownsRow w1.heap.size 58 3 (.slice qa mm qc) mm (Kd q) := HRW.out.alloc _; have hnew : Ki (wr.alloc (.cells #[.int .i64 x.self.id, .int .i64 x.self.inc, .int .i64 x.self.st] 58)) (some ⟨wr.heap.size, 0, none⟩) [.int .i64 x.self.id, .int .i64 x.self.inc, .int .i64 x.self.st] := Jx wr [.int .i64 x.self.id, .int .i64 x.self.inc, .int .i64 x.self.st] 58; have HRW2 := Hd hrw; have HNEW := Hd hnew; clear he hrw hnew; go_wp2_with (at_builtin; go_loud (refine Km _ rfl _ _ 31 rfl w1.heap.size 58 i0 _ 3 24 Tryz.underlying31 hi hz0 hz1 hz2 rfl (by decide) (.slice qa mm qc) mm _ rfl HRW2.out (some ⟨wr.heap.size, 0, none⟩) 1 1 _ rfl rfl HNEW.out (by simp [Value.oneCell']) K3.out (by omega) (by simp; omega) ?_))
      intro a7 c7 w7 hl7 hto7; have hb7 : Below w1.heap.size w1 w7 := (HB.out.alloc hszr _).grown hto7.grown (by simp; omega) (fun j hj => (HRW.out.lt j hj).1)
      have HL7 := Hd hl7; have HB7 := Hd hb7; clear hl7 hto7 hb7; go_wp2; go_meet
      case rel => exact ⟨by rw [<- HE.out, List.length_append, HM.out, rkeys_snoc]; exact HL7.out, HB7.out⟩
    case rest =>
     obtain ⟨hrwL, hbL⟩ := hcut; obtain ⟨la, lc, rfl⟩ := Kg hrwL; have hxc := (hbL.block _ (by have := HSZ1.out; omega)).trans HX1.out
     have y1 := Ka hxc 1; have y3 := Ka hxc 3; simp only [List.getElem?_toArray, List.getElem?_cons_succ, List.getElem?_cons_zero] at y1 y3; have hS2 := HS1.out.below hbL; have hkl := keysRow_at hrwL; have hszL := hbL.size; obtain ⟨nl, hnl⟩ : ∃ nl, L.length = nl := ⟨_, rfl⟩; rw [hnl]; have HS2 := Hd hS2; have HKL := Hd hkl; have HNL := Hd hnl; clear hrwL hbL hxc hS2 hkl hnl HRW HTAB HB d13 d10 d11 d12; go_wp2_with fail
     refine (rsend_any HS2.out.at_ HS2.out.out HO.out (by have := HSZ1.out; omega) (by omega) frm 5 seq 0 hms L la nl lc HNL.out (by have := HNL.out; have := HLL.out; omega) HKL.out (fun k hk => by have := (HLK.out k hk).2.1; omega)).mono ?_
     rintro e w8 ⟨rfl, f8, hS8⟩; have HS8 := Hd (HS2.out.trans hS8); clear hS8; go_wp2
     ((try simp only [Exit.inBlock, Exit.then]); first | refine bodyPost_ret (results_none rfl _ _ _) rfl ?_ | refine bodyPost_end (results_none rfl _ _ _) rfl ?_)
     refine ⟨rfl, f8, ?_⟩; rw [HJ.out, HL.out]; exact HS8.out
section
variable {B b : Nat} {w : World} {f : Nat -> Value} {x : Nd}
theorem RfAt.noOut (h : RfAt w B b f x) : RSt w.heap.size B b w f (w.setCell ⟨b, 24, none⟩ (.slice none 0 0)) (upd f 24 (.slice none 0 0)) x [] := by
 refine ⟨h.setOut none 0 0, by rw [Ku]; exact World.ownsRow_nil _ _ _ _, (Chg.refl _ _).setCell _ (fun _ _ => .inl (.inl rfl)), fun k hk => .inl ?_, fun k hk => .inl ?_, Kh _ _ _ (by omega)⟩
 · unfold RFoot at hk
   rw [Kh _ _ _ (by omega), Kh _ _ _ (by omega), Kh _ _ _ (by omega), Kh _ _ _ (by omega), Kh _ _ _ (by omega)] at hk
   exact hk
 · unfold RWr at hk
   rw [Kh _ _ _ (by omega), Kh _ _ _ (by omega), Kh _ _ _ (by omega)] at hk
   exact hk
end
def RGives (B b : Nat) (w : World) (f : Nat -> Value) (r : List Pk × Nd) (v : Value) (w' : World) : Prop := ∃ f', RSt w.heap.size B b w f w' f' r.2 r.1 /\ OutR w' w.heap.size v r.1
theorem rreceive_no {B b : Nat} {w : World} {f : Nat -> Value} {x : Nd} (h : RfAt w B b f x) {C : Int} (hbd : Bd C x) (hC : C <= 1000000000000) (s : ByteArray) (hm : s.size <= maxLen) (hd : Ja s.data.toList = none \/ ∃ m, Ja s.data.toList = some m /\ m.frm = x.self.id) :
  Calls Tryz.prog 57 #[.pointer (some ⟨b, 0, none⟩), .string s] w fun e w' => ∃ v, e = .returned v /\ RGives B b w f ([], { x with dropped := x.dropped + 1 }) v w' := by
 obtain ⟨oa, on, oc, e24⟩ := h.o24; have c24 : w.cell? ⟨b, 24, none⟩ = some (.slice oa on oc) := by rw [<- e24]; exact h.blk.cell (by omega)
 have f24 := h.blk.free 24; have hS1 := h.noOut; obtain ⟨w1, hw1⟩ : ∃ w1, w.setCell ⟨b, 24, none⟩ (.slice none 0 0) = w1 := ⟨_, rfl⟩; rw [hw1] at hS1; have hdr := hbd.dropped; have wd : IntKind.i64.wrap (x.dropped + 1) = x.dropped + 1 := IntWalk.i64_in _ (by omega)
 have hdec := rdecode_any s w1 hm; have HW1 := Hd hw1; have HS1 := Hd hS1; have HDEC := Hd hdec; have HD := Hd hd; clear h hS1 hw1 hdec hd e24; go_enter Tryz.func57, Tryz.ntmps57; go_wp2_with fail
 rw [HW1.out]; refine HDEC.out.mono ?_; rintro e w2 ⟨hb2, hp2⟩; have hS2 := HS1.out.below hb2; rcases hp2 with ⟨hdn, rfl⟩ | ⟨hds, v, rfl, hrow⟩
 · have hS3 := hS2.below ((Below.refl _ w2).alloc (Nat.le_refl _) (.cells #[.int .i64 0, .int .i64 0, .int .i64 0, .int .i64 0, .int .i64 0, .slice none 0 0] 33))
   have d21 : ∀ n, ((w2.alloc (.cells #[.int .i64 0, .int .i64 0, .int .i64 0, .int .i64 0, .int .i64 0, .slice none 0 0] 33)).drewN n).cell? ⟨b, 21, none⟩ = some (.int .i64 x.dropped) := fun n => by rw [<- hS3.at_.n21]; exact (hS3.drewN n).at_.blk.cell (by omega)
   have f21 : ∀ n, ((w2.alloc (.cells #[.int .i64 0, .int .i64 0, .int .i64 0, .int .i64 0, .int .i64 0, .slice none 0 0] 33)).drewN n).frozen? ⟨b, 21, none⟩ = false := fun n => (hS3.drewN n).at_.blk.free 21
   have HS3 := Hd hS3; clear hb2 hS2 hS3 hdn; unfold noMsg; go_upto_region 3 with (fail); go_quiet (fail); go_wp2; go_ret
   have hS4 := HS3.out.drewN nq; exact ⟨_, rfl, _, hS4.cell (hS4.at_.setDropped (x.dropped + 1)) (by omega) (fun k hk => by simp [Value.ownBlock] at hk), World.ownsRow_nil _ _ _ _⟩
 · obtain ⟨m, hm', hf⟩ : ∃ m, Ja s.data.toList = some m /\ m.frm = x.self.id := by
    rcases HD.out with h | h
    · rw [hds] at h; cases h
    · exact h
   rw [hds] at hm'; simp only [Option.some.injEq] at hm'; rw [hm'] at hrow ⊢; obtain ⟨ka, kc, rfl⟩ := Kg hrow; obtain ⟨kind, frm, inc, seq, tgt, ups⟩ := m; simp only at hf hrow; have hS3 := hS2.below ((Below.refl _ w2).alloc (Nat.le_refl _) (.cells #[.int .i64 kind, .int .i64 frm, .int .i64 inc, .int .i64 seq, .int .i64 tgt, .slice ka ups.length kc] 33)); have d21 : ∀ n, ((w2.alloc (.cells #[.int .i64 kind, .int .i64 frm, .int .i64 inc, .int .i64 seq, .int .i64 tgt, .slice ka ups.length kc] 33)).drewN n).cell? ⟨b, 21, none⟩ = some (.int .i64 x.dropped) := fun n => by rw [<- hS3.at_.n21]; exact (hS3.drewN n).at_.blk.cell (by omega)
   have f21 : ∀ n, ((w2.alloc (.cells #[.int .i64 kind, .int .i64 frm, .int .i64 inc, .int .i64 seq, .int .i64 tgt, .slice ka ups.length kc] 33)).drewN n).frozen? ⟨b, 21, none⟩ = false := fun n => (hS3.drewN n).at_.blk.free 21
   have d10 : (w2.alloc (.cells #[.int .i64 kind, .int .i64 frm, .int .i64 inc, .int .i64 seq, .int .i64 tgt, .slice ka ups.length kc] 33)).cell? ⟨b, 10, none⟩ = some (.int .i64 x.self.id) := by rw [<- hS3.at_.s10]; exact hS3.at_.blk.cell (by omega)
   have hfb : (frm == x.self.id) = true := by simpa using hf
   have HS3 := Hd hS3; clear hb2 hS2 hS3 hds hm' hrow hf; unfold M.agg; go_upto_region 3 with (fail); go_quiet (fail); go_wp2; go_ret
   have hS4 := HS3.out.drewN nq; exact ⟨_, rfl, _, hS4.cell (hS4.at_.setDropped (x.dropped + 1)) (by omega) (fun k hk => by simp [Value.ownBlock] at hk), World.ownsRow_nil _ _ _ _⟩
theorem RGives.of {B b : Nat} {w w' : World} {f f' : Nat -> Value} {x' : Nd} {ps : List Pk} {v : Value} (h : RSt w.heap.size B b w f w' f' x' ps) (hv : f' 24 = v) : RGives B b w f (ps, x') v w' := ⟨f', h, hv ▸ h.out⟩
theorem RSt.outCell {Bo B b : Nat} {w w' : World} {f f' : Nat -> Value} {x' : Nd} {ps : List Pk} (h : RSt Bo B b w f w' f' x' ps) : ∃ a n c, f' 24 = .slice a n c /\ w'.cell? ⟨b, 24, none⟩ = some (.slice a n c) := by
 obtain ⟨a, n, c, e⟩ := h.at_.o24; exact ⟨a, n, c, e, by rw [<- e]; exact h.at_.blk.cell (by omega)⟩
theorem rreceive_other {B b : Nat} {w : World} {f : Nat -> Value} {x : Nd} (h : RfAt w B b f x) (ho : Ok x) {C : Int} (hbd : Bd C x) (hC : C <= 3000000000) (hB : B <= w.heap.size) (s : ByteArray) (hm : s.size <= maxLen) (m : M) (hd : Ja s.data.toList = some m) (hf : m.frm ≠ x.self.id) (hmok : MOk m) :
  Calls Tryz.prog 57 #[.pointer (some ⟨b, 0, none⟩), .string s] w fun e w' => ∃ v, e = .returned v /\ RGives B b w f (x.receive (some m)) v w' := by
 obtain ⟨oa, on, oc, e24⟩ := h.o24; have c24 : w.cell? ⟨b, 24, none⟩ = some (.slice oa on oc) := by rw [<- e24]; exact h.blk.cell (by omega)
 have f24 := h.blk.free 24; have hS1 := h.noOut; have hbl := h.blk.lt; have hre := receive_some hf; have hml := hmok.len; have hkk := hmok.kind; obtain ⟨w1, hw1⟩ : ∃ w1, w.setCell ⟨b, 24, none⟩ (.slice none 0 0) = w1 := ⟨_, rfl⟩; have hsz1 : w1.heap.size = w.heap.size := by rw [<- hw1]; simp
 rw [hw1] at hS1; obtain ⟨f1, hf1⟩ : ∃ f1, upd f 24 (.slice none 0 0) = f1 := ⟨_, rfl⟩; rw [hf1] at hS1; have hdec := rdecode_any s w1 hm; have HMOK := Hd hmok; have HRE := Hd hre; have HW1 := Hd hw1; have HS1 := Hd hS1; have HDEC := Hd hdec; have HO := Hd ho; have HBD := Hd hbd; have HSZ1 := Hd hsz1; clear h hS1 hw1 hdec e24 hf1 ho hbd hmok hre hsz1; go_enter Tryz.func57, Tryz.ntmps57; go_wp2_with fail
 rw [HW1.out]; refine HDEC.out.mono ?_; rintro e w2 ⟨hb2, hp2⟩; have hS2 := HS1.out.below hb2
 obtain ⟨v, rfl, hrow⟩ : ∃ v, e = .returned (.tuple #[m.agg v, .int .i64 0]) /\ w2.ownsRow w1.heap.size 58 3 v m.ups.length (Kd m.ups) := by
  rcases hp2 with ⟨hdn, _⟩ | ⟨hds, v, rfl, hrow⟩
  · rw [hd] at hdn; cases hdn
  · rw [hd] at hds
    simp only [Option.some.injEq] at hds; rw [<- hds] at hrow ⊢; exact ⟨v, rfl, hrow⟩
 obtain ⟨ka, kc, rfl⟩ := Kg hrow; obtain ⟨kind, frm, inc, seq, tgt, ups⟩ := m; simp only at hf hrow hml hkk; have hfb : (frm == x.self.id) = false := by simpa using hf
 obtain ⟨n, hn⟩ : ∃ n, ups.length = n := ⟨_, rfl⟩; rw [hn] at hrow hml
 first | rw [hn] | rw [show (⟨kind, frm, inc, seq, tgt, ups⟩ : M).ups.length = n from hn]
 obtain ⟨w3, hw3⟩ : ∃ w3, w2.alloc (.cells #[.int .i64 kind, .int .i64 frm, .int .i64 inc, .int .i64 seq, .int .i64 tgt, .slice ka n kc] 33) = w3 := ⟨_, rfl⟩; have hx3 : w3.heap[w2.heap.size]? = some (.cells #[.int .i64 kind, .int .i64 frm, .int .i64 inc, .int .i64 seq, .int .i64 tgt, .slice ka n kc] 33 (0, 0)) := by rw [<- hw3]; exact Kc w2 _
 have hS3 := hS2.below ((Below.refl _ w2).alloc (Nat.le_refl _) (.cells #[.int .i64 kind, .int .i64 frm, .int .i64 inc, .int .i64 seq, .int .i64 tgt, .slice ka n kc] 33)); have hrow3 : w3.ownsRow w1.heap.size 58 3 (.slice ka n kc) n (Kd ups) := by rw [<- hw3]; exact hrow.alloc _
 rw [hw3] at hS3; have d10 : w3.cell? ⟨b, 10, none⟩ = some (.int .i64 x.self.id) := by rw [<- hS3.at_.s10]; exact hS3.at_.blk.cell (by omega)
 have d1 := Ka hx3 1; have d2 := Ka hx3 2; simp only [List.getElem?_toArray, List.getElem?_cons_succ, List.getElem?_cons_zero] at d1 d2; have hsz2 := hb2.size; have hft : ∀ k, RWr b f1 k -> k < w1.heap.size := fun k hk => (HS1.out.at_.foot_lt hk.foot).2
 have HFT := Hd hft; have HW3 := Hd hw3; have HX3 := Hd hx3; have HROW3 := Hd hrow3; have HS3 := Hd hS3; have HN := Hd hn; clear hw3 hx3 hS3 hrow3 hrow hft hS2 hb2 hn hp2 hd hf c24 f24; unfold M.agg; go_upto_region 3 with (fail); rw [HW3.out]; go_quiet (fail)
 have HKEEP : Hid (∀ (wr : World) (fr : Nat -> Value) (xr : Nd) (pr : List Pk), RSt w.heap.size B b (w3.drewN nq) f1 wr fr xr pr -> ∀ (g : Nat) (cs : Array Value) (t : TypeId), w3.heap[g]? = some (.cells cs t (0, 0)) -> w1.heap.size <= g -> t ≠ 60 -> wr.heap[g]? = some (.cells cs t (0, 0))) := Hd (fun wr fr xr pr hR g cs t hg hl ht =>
  hR.chg.kept g _ hg (fun hs => by
   rcases hs with hs | ⟨_, c, f', e⟩
   · have := HFT.out g hs; omega
   · simp only [Obj.cells.injEq] at e; exact ht e.2.1))
 have hk0 : Jp ⟨frm, inc, 1⟩ := ⟨HMOK.out.frm, HMOK.out.inc, by show (1 : Int) <= 1 /\ (1 : Int) <= 4; omega⟩
 obtain ⟨x1, hx1⟩ : ∃ x1, x.hear ⟨frm, inc, 1⟩ = x1 := ⟨_, rfl⟩; have hok1 : Ok x1 := by rw [<- hx1]; exact HO.out.hear HBD.out.clock.1 hk0
 have hbd1 : Bd (C + 1) x1 := by rw [<- hx1]; exact HBD.out.hear _
 have hcl1 : 0 <= x1.clock := by rw [<- hx1, (same_hear _ _).clock]; exact HBD.out.clock.1
 have hhd := rheard_any (HS3.out.drewN nq).at_ (HS3.out.drewN nq).out HO.out HBD.out (by omega) ⟨frm, inc, 1⟩ hk0
 rw [hx1] at hhd; have HX1 := Hd hx1; have HOK1 := Hd hok1; have HBD1 := Hd hbd1; have HHD := Hd hhd; have HCL1 := Hd hcl1; clear hk0 hx1 hok1 hbd1 hhd hcl1; go_wp2_with fail
 refine HHD.out.mono ?_; rintro e w4 ⟨rfl, f4, hS4⟩; have hx4 := HKEEP.out w4 f4 x1 [] hS4 _ _ _ HX3.out (by omega) (by decide)
 have b5 := Ka hx4 5; simp only [List.getElem?_toArray, List.getElem?_cons_succ, List.getElem?_cons_zero] at b5; have HS4 := Hd hS4; clear hS4 hx4; go_wp2_with fail
 go_loopw [7] (fun s7 wr => ∃ (k : Nat) (fr : Nat -> Value), k <= n /\ s7 = .int .i64 (k : Nat) /\ RSt w.heap.size B b (w3.drewN nq) f1 wr fr ((ups.take k).foldl Nd.hear x1) []) (fun s7 _ => n - (intOf s7).toNat)
 case atStart => exact ⟨0, f4, Nat.zero_le _, rfl, HS4.out⟩
 case round =>
  obtain ⟨k, fr, hk, rfl, hT⟩ := hrel; have hxr := HKEEP.out wr fr _ [] hT _ _ _ HX3.out (by omega) (by decide)
  have hrowr : wr.ownsRow w1.heap.size 58 3 (.slice ka n kc) n (Kd ups) := Je HROW3.out (fun j hj => by
   obtain ⟨q1, cu, q2⟩ := Ke HROW3.out hj; rw [q2]; exact HKEEP.out wr fr _ [] hT j _ _ q2 q1 (by decide))
  have a5 := Ka hxr 5; simp only [List.getElem?_toArray, List.getElem?_cons_succ, List.getElem?_cons_zero] at a5; have hsub : ∀ q ∈ ups.take k, Jp q := fun q hq => HMOK.out.ups q (List.mem_of_mem_take hq)
  have hokk : Ok ((ups.take k).foldl Nd.hear x1) := HOK1.out.hears HCL1.out _ hsub; have hbdk : Bd (C + 9) ((ups.take k).foldl Nd.hear x1) := (Bd.hears (ups.take k) HBD1.out).mono (by rw [List.length_take]; omega)
  have HT := Hd hT; have HXR := Hd hxr; have HROWR := Hd hrowr; have HOKK := Hd hokk; have HBDK := Hd hbdk; clear hT hxr hrowr hsub hokk hbdk; by_cases hlt : k < n
  · obtain ⟨q, hu⟩ : ∃ q, ups[k]? = some q := ⟨_, List.getElem?_eq_getElem (by have := HN.out; omega)⟩
    obtain ⟨g, off, hma, hg, k0, k1, k2⟩ := keysRow_at HROWR.out k q hu; subst hma; have hqk : Jp q := HMOK.out.ups q (List.mem_of_getElem? hu); obtain ⟨q1, q2, q3⟩ := q; simp only at k0 k1 k2; have HU := Hd hu; have HQK := Hd hqk; clear hu hqk; go_wp2_with fail
    refine (rheard_any HT.out.at_ HT.out.out HOKK.out HBDK.out (by omega) ⟨q1, q2, q3⟩ HQK.out).mono ?_
    rintro e w5 ⟨rfl, f5, hS5⟩; have HS5 := Hd (HT.out.trans hS5); clear hS5; go_wp2; go_roundw
    case rel =>
     refine ⟨k + 1, f5, by omega, by go_num, ?_⟩
     rw [List.take_add_one, HU.out, List.foldl_append]; exact HS5.out
    case measure => simp [intOf]; omega
  · have hall : ups.take k = ups := List.take_of_length_le (by have := HN.out; omega)
    obtain ⟨xn, hxn⟩ : ∃ xn, ups.foldl Nd.hear x1 = xn := ⟨_, rfl⟩; have hxm : xn = x.heardAll ⟨kind, frm, inc, seq, tgt, ups⟩ := by rw [<- hxn, <- HX1.out]; rfl
    have hT2 := HT.out; have hokn := HOKK.out; have hbdn := HBDK.out; rw [hall, hxn] at hT2 hokn hbdn; have hre2 : x.receive (some ⟨kind, frm, inc, seq, tgt, ups⟩) = xn.answer ⟨kind, frm, inc, seq, tgt, ups⟩ := by rw [HRE.out, hxm]
    have HRE2 := Hd hre2; have a0 := Ka HXR.out 0; have a1 := Ka HXR.out 1; have a2 := Ka HXR.out 2; have a3 := Ka HXR.out 3; have a4 := Ka HXR.out 4; simp only [List.getElem?_toArray, List.getElem?_cons_succ, List.getElem?_cons_zero] at a0 a1 a2 a3 a4; have hTT := (HS3.out.drewN nq).trans hT2; have hszr : w.heap.size <= wr.heap.size := by have := hTT.chg.size; omega
    have e10 : wr.cell? ⟨b, 10, none⟩ = some (.int .i64 xn.self.id) := by rw [<- hTT.at_.s10]; exact hTT.at_.blk.cell (by omega)
    obtain ⟨ra, rn, rc, e24, c24⟩ := hTT.outCell; have HTT := Hd hTT; have HOKN := Hd hokn; have HBDN := Hd hbdn; have E24 := Hd e24; have hBr : B <= wr.heap.size := by omega
    clear hre2 hall hxn hxm hT2 hokn hbdn hTT e24 HT HOKK HBDK b5 d10 d1 d2; rcases (show kind = 1 \/ kind = 2 \/ kind = 3 \/ kind = 4 \/ kind = 5 by omega) with rfl | rfl | rfl | rfl | rfl
    · by_cases hself : tgt = xn.self.id
      · have hsb : (tgt == xn.self.id) = true := by simpa using hself
        have hms := HMOK.out.seq
        have hp : xn.answer ⟨1, frm, inc, seq, tgt, ups⟩ = ([(frm, xn.msg ⟨2, 0, 0, seq, xn.self.id, []⟩)], xn.sent ⟨2, 0, 0, seq, xn.self.id, []⟩) := by
         show xn.pinged _ = _
         unfold Nd.pinged; simp only; rw [if_pos hself, hself]
        have HP := Hd hp; clear hself hp; go_upto_region 13 with (fail); go_quiet (fail); go_upto_region 14 with (fail)
        (refine Jj 11 (by kernel_rfl) (by kernel_rfl) ?_; simp only [List.take_succ_cons, List.take_zero, List.drop_succ_cons, List.drop_zero])
        iterate 11 still_step
        refine wpStill_nil ?_; go_wp2_with fail
        refine (rsend_any (HTT.out.drewN _).at_ (HTT.out.drewN _).out HOKN.out (by show w.heap.size <= wr.heap.size; omega) (by simp) frm 2 seq xn.self.id hms [] none 0 0 rfl (by omega) (fun j' k' h' => by simp at h') (fun k' h' => by simp at h')).mono ?_
        rintro e w6 ⟨rfl, f6, hS6⟩; have hS7 := (HTT.out.drewN _).trans hS6; obtain ⟨oa7, on7, oc7, e7, c7⟩ := hS7.outCell; have HS7 := Hd hS7; have E7 := Hd e7; clear hS6 hS7 e7; go_wp2; go_ret
        refine ⟨_, rfl, ?_⟩; rw [HRE2.out, HP.out]; exact RGives.of HS7.out E7.out
      · have hsb : (tgt == xn.self.id) = false := by simpa using hself
        have hp : xn.answer ⟨1, frm, inc, seq, tgt, ups⟩ = ([], xn) := by
         show xn.pinged _ = _
         unfold Nd.pinged; simp only; rw [if_neg hself]
        have HP := Hd hp; clear hself hp; go_upto_region 13 with (fail); go_quiet (fail); go_wp2; go_ret
        refine ⟨_, rfl, ?_⟩; rw [HRE2.out, HP.out]; exact RGives.of (HTT.out.drewN _) E24.out
    · have hans : xn.answer ⟨2, frm, inc, seq, tgt, ups⟩ = xn.acked ⟨2, frm, inc, seq, tgt, ups⟩ := rfl
      rw [hans] at HRE2; clear hans; go_wp2_with fail
      refine (racked_any HTT.out.at_ HTT.out.out HOKN.out hBr hszr (by simp) ⟨2, frm, inc, seq, tgt, ups⟩ ka n kc).mono ?_
      rintro e w6 ⟨rfl, f6, hS6⟩; have hS7 := HTT.out.trans hS6; obtain ⟨oa7, on7, oc7, e7, c7⟩ := hS7.outCell; have HS7 := Hd hS7; have E7 := Hd e7; clear hS6 hS7 e7; go_wp2; go_ret
      refine ⟨_, rfl, ?_⟩; rw [HRE2.out]; exact RGives.of HS7.out E7.out
    · have hans : xn.answer ⟨3, frm, inc, seq, tgt, ups⟩ = xn.asked ⟨3, frm, inc, seq, tgt, ups⟩ := rfl
      rw [hans] at HRE2; clear hans; go_wp2_with fail
      refine (rasked_any HTT.out.at_ HTT.out.out HOKN.out HBDN.out (by omega) hBr hszr (by simp) ⟨3, frm, inc, seq, tgt, ups⟩ HMOK.out rfl ka n kc).mono ?_
      rintro e w6 ⟨rfl, f6, hS6⟩; have hS7 := HTT.out.trans hS6; obtain ⟨oa7, on7, oc7, e7, c7⟩ := hS7.outCell; have HS7 := Hd hS7; have E7 := Hd e7; clear hS6 hS7 e7; go_wp2; go_ret
      refine ⟨_, rfl, ?_⟩; rw [HRE2.out]; exact RGives.of HS7.out E7.out
    · have hans : xn.answer ⟨4, frm, inc, seq, tgt, ups⟩ = xn.joined ⟨4, frm, inc, seq, tgt, ups⟩ := rfl
      rw [hans] at HRE2; clear hans; go_wp2_with fail
      refine (rtable_any HTT.out.at_ HTT.out.out HOKN.out hszr (by simp) ⟨4, frm, inc, seq, tgt, ups⟩ HMOK.out ka n kc).mono ?_
      rintro e w6 ⟨rfl, f6, hS6⟩; have hS7 := HTT.out.trans hS6; obtain ⟨oa7, on7, oc7, e7, c7⟩ := hS7.outCell; have HS7 := Hd hS7; have E7 := Hd e7; clear hS6 hS7 e7; go_wp2; go_ret
      refine ⟨_, rfl, ?_⟩; rw [HRE2.out]; exact RGives.of HS7.out E7.out
    · have hans : xn.answer ⟨5, frm, inc, seq, tgt, ups⟩ = ([], xn) := rfl
      rw [hans] at HRE2; clear hans; go_wp2; go_ret
      refine ⟨_, rfl, ?_⟩; rw [HRE2.out]; exact RGives.of HTT.out E24.out
theorem rreceive_any {B b : Nat} {w : World} {f : Nat -> Value} {x : Nd} (h : RfAt w B b f x) (ho : Ok x) {C : Int} (hbd : Bd C x) (hC : C <= 3000000000) (hB : B <= w.heap.size) (s : ByteArray) (hm : s.size <= maxLen) :
  Calls Tryz.prog 57 #[.pointer (some ⟨b, 0, none⟩), .string s] w fun e w' => ∃ v, e = .returned v /\ RGives B b w f (x.receive (Ja s.data.toList)) v w' := by
 cases hd : Ja s.data.toList with
 | none => exact rreceive_no h hbd (by omega) s hm (.inl hd)
 | some m =>
  by_cases hf : m.frm = x.self.id
  · have e : x.receive (some m) = ([], { x with dropped := x.dropped + 1 }) := by unfold Nd.receive; simp only; rw [if_pos hf]
    rw [e]; exact rreceive_no h hbd (by omega) s hm (.inr ⟨m, hd, hf⟩)
  · exact rreceive_other h ho hbd hC hB s hm m hd hf (mok_of (by
     unfold Ja at hd
     split at hd
     · rename_i hc; cases hd; exact hc.2
     · cases hd))
