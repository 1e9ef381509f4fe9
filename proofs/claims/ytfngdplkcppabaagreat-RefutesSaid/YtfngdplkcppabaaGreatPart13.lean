/-
  node.acked: what an Ack does.
  table.Map of members: their keys, their ids; node.key, node.id, table.All, table.Here.
  slices.SortFunc of keys, as node.joined sorts them.
-/
import Derived.Test.YtfngdplkcppabaaGreatPart12
import Derived.Deep.DeepCutAuto
set_option linter.all false
namespace Go.Proofs.YtfngdplkcppabaaGreat
open Go.RowKit

def Ad.atPrb (a : Ad) (nb : Nat) : Ad := { a with pb := nb }
/-- A probe is written: it was there, or it is new. -/
theorem NodeAt.setPrb {w w' : World} {a : Ad} {ov : Value} {x : Nd} (h : NodeAt w a ov x) (p : Prb) (nb : Nat) (hnb : (x.probe.isSome = true ∧ nb = a.pb) ∨ w.heap.size ≤ nb) (e : Apart w w' (fun j => j = a.b ∨ j = nb))
    (hb : NB w' a.b (nodeF (a.atPrb nb) ov { x with probe := some p })) (hp : w'.heap[nb]? = some (.cells (prbCells p) 89 (0, 0))) : NodeAt w' (a.atPrb nb) ov { x with probe := some p } := by
  obtain ⟨es, n, hm⟩ := h.news.isMap
  obtain ⟨es1, n1, hb1⟩ := h.others.isMap
  obtain ⟨es2, n2, hb2⟩ := h.relays.isMap
  obtain ⟨s, r, hc⟩ := h.chan
  obtain ⟨cs, h1⟩ := h.blk.block
  have nbP : nb < w.heap.size → ∃ p0, w.heap[nb]? = some (.cells (prbCells p0) 89 (0, 0)) := fun hlt => by
    rcases hnb with ⟨hs, rfl⟩ | hge
    · obtain ⟨p0, hp0⟩ := Option.isSome_iff_exists.1 hs
      exact ⟨p0, h.prb p0 hp0⟩
    · omega
  have nt : ∀ {b : Nat} {cs' : Array Value} {t : TypeId} {f : Nat × Nat}, w.heap[b]? = some (.cells cs' t f) → t ≠ 79 → t ≠ 89 → ¬ (b = a.b ∨ b = nb) := by
    rintro b cs' t f h2 ht ht' (rfl | rfl)
    · rw [h2] at h1; simp only [Option.some.injEq, Obj.cells.injEq] at h1; exact ht h1.2.1
    · obtain ⟨p0, hg⟩ := nbP (heap_lt h2)
      rw [h2] at hg; simp only [Option.some.injEq, Obj.cells.injEq] at hg; exact ht' hg.2.1
  have nm : ∀ {b : Nat} {o : Obj}, w.heap[b]? = some o → (∀ cs t f, o ≠ .cells cs t f) → ¬ (b = a.b ∨ b = nb) := by
    rintro b o h2 hno (rfl | rfl)
    · rw [h2] at h1; exact hno _ _ _ (Option.some.inj h1)
    · obtain ⟨p0, hg⟩ := nbP (heap_lt h2)
      rw [h2] at hg; exact hno _ _ _ (Option.some.inj hg)
  exact
    { h with
      blk := hb
      others := h.others.heap (e.at hb1 (nm hb1 (by simp)))
      mems := fun m hm => (e.at (h.mems m hm) (nt (h.mems m hm) (by decide) (by decide))).trans (h.mems m hm)
      queue := (e.at h.queue (nt h.queue (by decide) (by decide))).trans h.queue
      news := h.news.heap (e.at hm (nm hm (by simp)))
      chan := ⟨s, r, (e.at hc (nm hc (by simp))).trans hc⟩
      pass := h.pass.heap (fun k hk => by obtain ⟨cur, hg⟩ := h.pass.blk hk; exact e.at hg (nt hg (by decide) (by decide)))
      prb := fun q hq => by cases hq; exact hp
      relays := h.relays.heap (e.at hb2 (nm hb2 (by simp)))
      box1 := (e.at h.box1 (nt h.box1 (by decide) (by decide))).trans h.box1
      box2 := (e.at h.box2 (nt h.box2 (by decide) (by decide))).trans h.box2
      ds := h.ds.heap (fun k hk => by obtain ⟨cur, hg⟩ := h.ds.blk hk; exact e.at hg (nt hg (by decide) (by decide))) }
def zeroRel : Value := .agg #[.int .i64 0, .int .i64 0, .int .i64 0, .int .i64 0]
theorem zero_rel (w : World) : (zeroValue 91).run Tryz.prog w = .ok zeroRel w := by kernel_rfl
theorem look_rel {w : World} {a : Ad} {ov : Value} {x : Nd} (h : NodeAt w a ov x) {s : Int} (hs : fitsI s) :
    (∀ r ∈ x.relays, r.seq = s → (Instr.lookup 75 (.map (some a.br)) (.int .i64 s) true).run Tryz.prog w = .ok (.tuple #[r.v, .bool true]) w) ∧
    ((∀ r ∈ x.relays, r.seq ≠ s) → (Instr.lookup 75 (.map (some a.br)) (.int .i64 s) true).run Tryz.prog w = .ok (.tuple #[zeroRel, .bool false]) w) := by
  obtain ⟨h1, h2⟩ := h.relays.look Tryz.underlying3 Tryz.underlying75 zero_rel s (wf_of_fits hs)
  refine ⟨fun r hr e => ?_, fun hn => (h2 (fun hin => ?_)).2⟩
  · subst e
    exact (h1 _ (List.mem_map.2 ⟨r, hr, rfl⟩)).2
  · obtain ⟨p, hp, e⟩ := List.mem_map.1 hin
    obtain ⟨r, hr, rfl⟩ := List.mem_map.1 hp
    exact hn r hr e
theorem rPairs_del (l : List Rel) (s : Int) : (rPairs l).filter (fun p => p.1 != s) = rPairs (l.filter (fun r => !(r.seq == s))) := by
  simp only [rPairs, List.filter_map]
  rfl
/-- Is it the probe's? -/
def hitB (p : Option Prb) (seq tgt : Int) : Bool := match p with
  | none => false
  | some p => p.seq == seq && p.tgt == tgt
theorem ackProbe_hit {p : Option Prb} {m : M} : ackProbe p m = if hitB p m.seq m.tgt = true then p.map (fun p => { p with acked := true }) else p := by
  cases p with
  | none => simp [ackProbe, hitB]
  | some p =>
    simp only [ackProbe, hitB, Option.map_some, Bool.and_eq_true, beq_iff_eq]
    split
    · rfl
    · rfl

set_option maxRecDepth 100000 in
set_option maxHeartbeats 4000000 in
theorem acked_any {x : Nd} (ho : Ok x) (a : Ad) (ov : Value) (B : Nat) (ps : List Pk) (w : World) (h : NodeAt w a ov x) (hout : OutRow w B ov ps) (hB : B ≤ w.heap.size) (hps : ps.length < 1000) (m : M) (hm : MOk m) (ma : Option Addr) (mn mc : Nat) :
    Calls Tryz.prog 70 #[.pointer (some ⟨a.b, 0, none⟩), m.agg (.slice ma mn mc)] w (Does B w a x ps (x.acked m)) := by
  obtain ⟨kind, frm, inc, seq, tgt, ups⟩ := m
  have HL : Hid (∀ k, Owns a x k → k < w.heap.size) := Lib.hid (fun k hk => h.owns_lt hk)
  obtain ⟨w1, hw1⟩ : ∃ w1, w.alloc (.cells #[.int .i64 kind, .int .i64 frm, .int .i64 inc, .int .i64 seq, .int .i64 tgt, .slice ma mn mc] 29) = w1 := ⟨_, rfl⟩
  have T := (St.refl h hout).alloc (.cells #[.int .i64 kind, .int .i64 frm, .int .i64 inc, .int .i64 seq, .int .i64 tgt, .slice ma mn mc] 29)
  rw [hw1] at T
  have hs1 : w.heap.size ≤ w1.heap.size := by rw [← hw1]; simp
  have hx1 : w1.heap[w.heap.size]? = some (.cells #[.int .i64 kind, .int .i64 frm, .int .i64 inc, .int .i64 seq, .int .i64 tgt, .slice ma mn mc] 29 (0, 0)) := by rw [← hw1]; exact heap_alloc_eq w _
  have d3 := cells_at hx1 3
  have d4 := cells_at hx1 4
  simp only [List.getElem?_toArray, List.getElem?_cons_succ, List.getElem?_cons_zero] at d3 d4
  obtain ⟨pv, hpv⟩ : ∃ pv, prbV a x.probe = pv := ⟨_, rfl⟩
  have c16 : ∀ o, (w.alloc o).cell? ⟨a.b, 16, none⟩ = some pv := fun o => by rw [← hpv]; exact (h.blk.alloc o).cell (by omega)
  obtain ⟨tb, htb⟩ : ∃ tb, hitB x.probe seq tgt = tb := ⟨_, rfl⟩
  have hsq := hm.seq
  have HT := Lib.hid T
  have HW1 := Lib.hid hw1
  have HX1 := Lib.hid hx1
  have HPV := Lib.hid hpv
  have HTB := Lib.hid htb
  have HM := Lib.hid hm
  have HO := Lib.hid ho
  have hlt := heap_lt hx1
  have hab := h.blk.lt
  have hbr := h.relays.lt
  simp only at hsq
  clear T hw1 hx1 h hout hpv htb hm ho
  unfold M.agg
  go_enter Tryz.func70, Tryz.ntmps70
  go_wp2
  rw [HW1.out]
  clear c16
  go_cut [30] (fun s30 wx => s30 = .bool tb ∧ ∃ n, wx = w1.drewN n)
  case first =>
    have hpv := HPV.out
    have htb := HTB.out
    rcases hp : x.probe with _ | p
    · rw [hp] at hpv htb
      simp only [prbV, hitB] at hpv htb
      subst hpv htb
      go_quiet (fail)
      go_wp2
      go_meet
      case rel => exact ⟨rfl, _, rfl⟩
    · have hpb := HT.out.node.prb p hp
      have q0 := cells_at hpb 0
      have q1 := cells_at hpb 1
      simp only [prbCells, List.getElem?_toArray, List.getElem?_cons_succ, List.getElem?_cons_zero] at q0 q1
      rw [hp] at hpv htb
      simp only [prbV, hitB] at hpv htb
      subst hpv htb
      clear hpb hp
      cases h1 : (p.seq == seq) with
      | false =>
        go_quiet (fail)
        go_wp2
        go_meet
        case rel => exact ⟨by simp [h1], _, rfl⟩
      | true =>
        cases h2 : (p.tgt == tgt) with
        | false =>
          go_quiet (fail)
          go_wp2
          go_meet
          case rel => exact ⟨by simp [h1, h2], _, rfl⟩
        | true =>
          go_quiet (fail)
          go_wp2
          go_meet
          case rel => exact ⟨by simp [h1, h2], _, rfl⟩
  case rest =>
    obtain ⟨rfl, n0, rfl⟩ := hcut
    obtain ⟨x1, hx1⟩ : ∃ x1 : Nd, { x with probe := ackProbe x.probe ⟨kind, frm, inc, seq, tgt, ups⟩ } = x1 := ⟨_, rfl⟩
    have HX := Lib.hid hx1
    clear hx1
    go_upto_if 30 with (fail)
    go_cut [4] (fun s4 wx => s4 = pv ∧ St B w a x wx a x1 ov ps ∧ wx.heap[w.heap.size]? = some (.cells #[.int .i64 kind, .int .i64 frm, .int .i64 inc, .int .i64 seq, .int .i64 tgt, .slice ma mn mc] 29 (0, 0)))
    case first =>
      cases tb with
      | false =>
        have e1 : x1 = x := by
          rw [← HX.out]
          have := ackProbe_hit (p := x.probe) (m := ⟨kind, frm, inc, seq, tgt, ups⟩)
          rw [if_neg (by simp only; rw [HTB.out]; simp)] at this
          rw [this]
        go_wp2
        go_meet
        case rel => exact ⟨rfl, by rw [e1]; exact HT.out.drewN n0, HX1.out⟩
      | true =>
        have htb := HTB.out
        have hpv := HPV.out
        obtain ⟨p, hp⟩ : ∃ p, x.probe = some p := by
          rcases Option.eq_none_or_eq_some x.probe with e | e
          · rw [e] at htb; cases htb
          · exact e
        have e1 : x1 = { x with probe := some { p with acked := true } } := by
          rw [← HX.out]
          have := ackProbe_hit (p := x.probe) (m := ⟨kind, frm, inc, seq, tgt, ups⟩)
          rw [if_pos (by simp only; exact htb)] at this
          rw [this, hp]; rfl
        rw [hp] at hpv
        simp only [prbV] at hpv
        subst hpv
        have hpb : w1.heap[a.pb]? = _ := HT.out.node.prb p hp
        have q3 := cells_at hpb 3
        have f3 := unfrozen hpb
        simp only [prbCells, List.getElem?_toArray, List.getElem?_cons_succ, List.getElem?_cons_zero] at q3
        have hpo : Owns a x a.pb := .inr (.inr (.inr (.inr (.inr (.inr (.inr (.inr (.inl ⟨by rw [hp]; rfl, rfl⟩))))))))
        have HP := Lib.hid hp
        have HPO := Lib.hid hpo
        have HPB := Lib.hid hpb
        have HE := Lib.hid e1
        clear hp hpo hpb e1 htb
        go_wp2
        go_meet
        case rel =>
          have hap : Chg (fun j _ => j = a.pb) (w1.drewN n0) ((w1.drewN n0).setCell ⟨a.pb, 3, none⟩ (.bool true)) := (Chg.refl _ _).setCell _ (fun _ _ => rfl)
          have hN := (HT.out.drewN n0).node
          have hh : ((w1.drewN n0).setCell ⟨a.pb, 3, none⟩ (.bool true)).heap[a.pb]? = some (.cells (prbCells { p with acked := true }) 89 (0, 0)) := heap_setCell_eq HPB.out
          have hb : NB ((w1.drewN n0).setCell ⟨a.pb, 3, none⟩ (.bool true)) a.b (nodeF (a.atPrb a.pb) ov { x with probe := some { p with acked := true } }) := by
            obtain ⟨cs, hcs⟩ := hN.blk.block
            refine (hN.blk.other (fun e => cells_ne HPB.out hcs (by decide) e) _).congr (by rw [show x = { x with probe := some p } by rw [← HP.out]]; (intro i hi; rcases i with _ | _ | _ | _ | _ | _ | _ | _ | _ | _ | _ | _ | _ | _ | _ | _ | _ | _ | _ | _ | _ | _ | _ | _ | _ | _ | _ | i <;> first | rfl | exact absurd hi (by omega)))
          have hT2 : Turned ov (w1.drewN n0) a x ((w1.drewN n0).setCell ⟨a.pb, 3, none⟩ (.bool true)) a { x with probe := some { p with acked := true } } :=
            ⟨hN.setPrb { p with acked := true } a.pb (.inl ⟨by rw [HP.out]; rfl, rfl⟩) (fun j hj hl => apart_of_chg hap j (fun e => hj (.inr e)) hl) hb hh, hap.mono (fun j _ _ e => by have e : j = a.pb := e; subst e; exact HPO.out), fun k hk => .inl (by
              rcases hk with e | e | e | e | e | e | e | e | ⟨_, e⟩ | e
              · exact .inl e
              · exact .inr (.inl e)
              · exact .inr (.inr (.inl e))
              · exact .inr (.inr (.inr (.inl e)))
              · exact .inr (.inr (.inr (.inr (.inl e))))
              · exact .inr (.inr (.inr (.inr (.inr (.inl e)))))
              · exact .inr (.inr (.inr (.inr (.inr (.inr (.inl e))))))
              · exact .inr (.inr (.inr (.inr (.inr (.inr (.inr (.inl e)))))))
              · subst e; exact HPO.out
              · exact .inr (.inr (.inr (.inr (.inr (.inr (.inr (.inr (.inr e))))))))), rfl⟩
          refine ⟨rfl, ?_, ?_⟩
          · rw [HE.out]
            exact (HT.out.drewN n0).trans (St.turned hN (HT.out.drewN n0).out hT2)
          · exact hap.kept _ _ HX1.out (fun e => by have := HL.out _ HPO.out; omega)
    case rest =>
      obtain ⟨rfl, hT2, hx2⟩ := hcut
      have hxr : x1.relays = x.relays := by rw [← HX.out]
      have hok1 : Ok x1 := by rw [← HX.out]; exact HO.out.ackProbe _
      have hac : x.acked ⟨kind, frm, inc, seq, tgt, ups⟩ = match x1.relays.find? (fun r => r.seq == seq && r.tgt == tgt) with
          | none => ([], x1)
          | some r => ([(r.orig, Nd.msg { x1 with relays := x1.relays.filter (fun r => !(r.seq == seq)) } ⟨2, 0, 0, r.oseq, r.tgt, []⟩)], Nd.sent { x1 with relays := x1.relays.filter (fun r => !(r.seq == seq)) } ⟨2, 0, 0, r.oseq, r.tgt, []⟩) := by
        rw [← HX.out]; rfl
      have e3 := cells_at hx2 3
      have e4 := cells_at hx2 4
      simp only [List.getElem?_toArray, List.getElem?_cons_succ, List.getElem?_cons_zero] at e3 e4
      have c17 : wc.cell? ⟨a.b, 17, none⟩ = some (.map (some a.br)) := hT2.node.blk.cell (by omega)
      have hlk := look_rel (w := wc.drew) (hT2.drewN 1).node (s := seq) (by unfold fitsI; omega)
      have hla := fun o => look_rel (w := (wc.alloc o).drew) ((hT2.alloc o).drewN 1).node (s := seq) (by unfold fitsI; omega)
      have e4a : ∀ o, (wc.alloc o).cell? ⟨w.heap.size, 4, none⟩ = some (.int .i64 tgt) := fun o => by rw [World.cell?_alloc_lt _ _ _ (heap_lt hx2)]; exact e4
      have c17a : ∀ o, (wc.alloc o).cell? ⟨a.b, 17, none⟩ = some (.map (some a.br)) := fun o => ((hT2.alloc o).node).blk.cell (by omega)
      have e3a : ∀ o, (wc.alloc o).cell? ⟨w.heap.size, 3, none⟩ = some (.int .i64 seq) := fun o => by rw [World.cell?_alloc_lt _ _ _ (heap_lt hx2)]; exact e3
      have HT2 := Lib.hid hT2
      have HX2 := Lib.hid hx2
      have hlt2 := heap_lt hx2
      have HOK := Lib.hid hok1
      clear hT2 hx2 hxr hok1
      cases hf : x1.relays.find? (fun r => r.seq == seq && r.tgt == tgt) with
      | none =>
        rw [hf] at hac
        simp only at hac
        have HAC := Lib.hid hac
        rw [List.find?_eq_none] at hf
        by_cases hex : ∃ r ∈ x1.relays, r.seq = seq
        · obtain ⟨r, hr, hrs⟩ := hex
          have hl := hlk.1 r hr hrs
          have hlA := fun o => (hla o).1 r hr hrs
          have htg : (r.tgt == tgt) = false := by
            have := hf r hr
            simp only [hrs, beq_self_eq_true, Bool.true_and, Bool.not_eq_true] at this
            exact this
          obtain ⟨rs, rt, ro, rq, re⟩ := r
          simp only [Rel.v] at hl hlA htg
          clear hf hlk hla hac hr hrs
          go_wp2
          go_region
          all_goals
            go_wp2
            ((try simp only [Exit.inBlock, Exit.then]); first | refine bodyPost_ret (results_none rfl _ _ _) rfl ?_ | refine bodyPost_end (results_none rfl _ _ _) rfl ?_)
            rw [HAC.out]
            exact Does.of (by rw [List.append_nil]; exact (HT2.out.alloc _).drewN 1)
        · have hno : ∀ r ∈ x1.relays, r.seq ≠ seq := fun r hr e => hex ⟨r, hr, e⟩
          have hl := hlk.2 hno
          have hlA := fun o => (hla o).2 hno
          simp only [zeroRel] at hl hlA
          clear hf hlk hla hac hno hex
          go_wp2
          go_region
          all_goals
            go_wp2
            ((try simp only [Exit.inBlock, Exit.then]); first | refine bodyPost_ret (results_none rfl _ _ _) rfl ?_ | refine bodyPost_end (results_none rfl _ _ _) rfl ?_)
            rw [HAC.out]
            exact Does.of (by rw [List.append_nil]; exact (HT2.out.alloc _).drewN 1)
      | some r =>
        rw [hf] at hac
        simp only at hac
        have HAC := Lib.hid hac
        have hr := List.mem_of_find?_eq_some hf
        have hrp := List.find?_some hf
        simp only [Bool.and_eq_true, beq_iff_eq] at hrp
        obtain ⟨hrs, hrt⟩ := hrp
        have hl := hlk.1 r hr hrs
        have hlA := fun o => (hla o).1 r hr hrs
        have htg : (r.tgt == tgt) = true := by simpa using hrt
        have hok2 : Ok { x1 with relays := x1.relays.filter (fun r => !(r.seq == seq)) } := HOK.out.relaysOf List.filter_sublist
        have HOK2 := Lib.hid hok2
        obtain ⟨rs, rt, ro, rq, re⟩ := r
        simp only [Rel.v] at hl hlA htg
        obtain ⟨w3, hw3⟩ : ∃ w3, (wc.alloc (.cells #[.int .i64 rt, .int .i64 ro, .int .i64 rq, .int .i64 re] 91)).drew = w3 := ⟨_, rfl⟩
        have T3 := (HT2.out.alloc (.cells #[.int .i64 rt, .int .i64 ro, .int .i64 rq, .int .i64 re] 91)).drewN 1
        have hT3 : St B w a x w3 a x1 ov ps := by rw [← hw3]; exact T3
        have hs3 : w3.heap.size = wc.heap.size + 1 := by rw [← hw3]; simp
        have hx3 : w3.heap[w.heap.size]? = some (.cells #[.int .i64 kind, .int .i64 frm, .int .i64 inc, .int .i64 seq, .int .i64 tgt, .slice ma mn mc] 29 (0, 0)) := by
          rw [← hw3]; exact (Below.heap_alloc _ _ _ (heap_lt HX2.out)).trans HX2.out
        have hy3 : w3.heap[wc.heap.size]? = some (.cells #[.int .i64 rt, .int .i64 ro, .int .i64 rq, .int .i64 re] 91 (0, 0)) := by rw [← hw3]; exact heap_alloc_eq wc _
        have hm3 : MapAt Tryz.prog 3 w3.drew a.br (rPairs x1.relays) := hT3.node.relays
        obtain ⟨w4, hr4, hm4, hg4, hs4⟩ := hm3.drop Tryz.underlying3 Tryz.underlying75 seq (wf_of_fits (by unfold fitsI; omega)) 0
        rw [rPairs_del] at hm4
        have hc4 : Chg (fun j _ => j = a.br) w3 w4 := ((Chg.refl _ w3).drew).grown hg4 (fun k o e _ => by cases e; rfl)
        have hy4 := hc4.kept _ _ hy3 (by have := hT3.node.relays.lt; have := HT2.out.node.relays.lt; omega)
        have c30 := cells_at hy3 0
        have c317 : w3.cell? ⟨a.b, 17, none⟩ = some (.map (some a.br)) := hT3.node.blk.cell (by omega)
        have c33 := cells_at hx3 3
        have c34 := cells_at hx3 4
        have c40 := cells_at hy4 0
        have c41 := cells_at hy4 1
        have c42 := cells_at hy4 2
        simp only [List.getElem?_toArray, List.getElem?_cons_succ, List.getElem?_cons_zero] at c30 c33 c34 c40 c41 c42
        have HT4 : Hid (Turned ov w3 a x1 w4 a { x1 with relays := x1.relays.filter (fun r => !(r.seq == seq)) }) := Lib.hid ⟨hT3.node.setRelays (apart_of_chg hc4) hm4, hc4.mono (fun j _ _ e => by have e : j = a.br := e; subst e; exact .inr (.inr (.inr (.inr (.inr (.inl rfl)))))), fun _ => .inl, rfl⟩
        have HT5 := Lib.hid (hT3.trans (St.turned hT3.node hT3.out HT4.out))
        have HW3 := Lib.hid hw3
        have hBw : B ≤ w4.heap.size := by
          have e1 : w4.heap.size = w3.heap.size := hs4
          have := HT2.out.chg.size
          omega
        clear hf hlk hla hac hr hrs hrt hok2 hw3 T3 hT3 hx3 hy3 hm3 hm4 hg4 hc4 hy4 hs3 hs4
        go_wp2
        go_region
        all_goals
          rw [HW3.out]
          go_wp2
          go_region
          all_goals
            go_wp2_with (go_at_call 35; refine (send_low HOK2.out a ov B ps _ HT5.out.node HT5.out.out hBw hps ro 2 0 0 rq rt (by omega)).mono ?_; rintro e w5 ⟨rfl, ov', hT6⟩)
            ((try simp only [Exit.inBlock, Exit.then]); first | refine bodyPost_ret (results_none rfl _ _ _) rfl ?_ | refine bodyPost_end (results_none rfl _ _ _) rfl ?_)
            rw [HAC.out]
            exact Does.of (HT5.out.trans hT6)
end Go.Proofs.YtfngdplkcppabaaGreat
namespace Go.Proofs.YtfngdplkcppabaaGreat
open Go.RowKit

set_option maxHeartbeats 1000000 in
theorem all_any (b : Nat) (w : World) : Calls Tryz.prog 28 #[.pointer (some ⟨b, 0, none⟩)] w fun e w' => e = .returned (.bool true) ∧ w' = w := by
  go_enter Tryz.func28, Tryz.ntmps28
  go_wp2
  go_ret
  exact ⟨rfl, rfl⟩
set_option maxHeartbeats 1000000 in
theorem id_any (b : Nat) (id : Int) (w : World) (c : w.cell? ⟨b, 0, none⟩ = some (.int .i64 id)) : Calls Tryz.prog 55 #[.pointer (some ⟨b, 0, none⟩)] w fun e w' => e = .returned (.int .i64 id) ∧ w' = w := by
  go_enter Tryz.func55, Tryz.ntmps55
  go_wp2
  go_ret
  exact ⟨rfl, rfl⟩
set_option maxHeartbeats 1000000 in
theorem key_any (b : Nat) (k : K) (w : World) (c0 : w.cell? ⟨b, 0, none⟩ = some (.int .i64 k.id)) (c1 : w.cell? ⟨b, 1, none⟩ = some (.int .i64 k.inc)) (c2 : w.cell? ⟨b, 2, none⟩ = some (.int .i64 k.st)) :
    Calls Tryz.prog 29 #[.pointer (some ⟨b, 0, none⟩)] w fun e w' => e = .returned (.agg #[.int .i64 k.id, .int .i64 k.inc, .int .i64 k.st]) ∧ Below w.heap.size w w' := by
  have hlt : b < w.heap.size := World.block_lt_of_cell? _ _ c0
  have a0 : ∀ o, (w.alloc o).cell? ⟨b, 0, none⟩ = some (.int .i64 k.id) := fun o => by rw [World.cell?_alloc_lt _ _ _ hlt]; exact c0
  have a1 : ∀ o, (w.alloc o).cell? ⟨b, 1, none⟩ = some (.int .i64 k.inc) := fun o => by rw [World.cell?_alloc_lt _ _ _ hlt]; exact c1
  have a2 : ∀ o, (w.alloc o).cell? ⟨b, 2, none⟩ = some (.int .i64 k.st) := fun o => by rw [World.cell?_alloc_lt _ _ _ hlt]; exact c2
  go_enter Tryz.func29, Tryz.ntmps29
  go_wp2
  refine bodyPost_ret (v := .agg #[.int .i64 k.id, .int .i64 k.inc, .int .i64 k.st]) (by simp [results, Tryz.results29, go_sem]) rfl ⟨rfl, ?_⟩
  exact (Below.refl _ _).alloc (Nat.le_refl _) _
/-- Members, as a row of pointers to them. -/
def Ptrs (w : World) (v : Value) (mem : Int → Nat) (l : List Mem) : Prop := ∃ B, w.ownsRow B 83 1 v l.length (l.map (fun m => encT (mem m.k.id)))
def MemsAt (w : World) (mem : Int → Nat) (l : List Mem) : Prop := ∀ m ∈ l, w.heap[mem m.k.id]? = some (.cells (memCells m) 93 (0, 0))
theorem Ptrs.cell {w : World} {mem : Int → Nat} {l : List Mem} {a : Option Addr} {n c : Nat} (h : Ptrs w (.slice a n c) mem l) {k : Nat} {m : Mem} (hk : l[k]? = some m) : ∃ g, a = some ⟨g, 0, none⟩ ∧ g < w.heap.size ∧ w.cell? ⟨g, k, none⟩ = some (.pointer (some ⟨mem m.k.id, 0, none⟩)) := by
  obtain ⟨B, h⟩ := h
  have hn : l.length = n := by
    rcases h.2 with ⟨e, e'⟩ | ⟨g, cp, cur, e, _⟩ <;> simp only [Value.slice.injEq] at e <;> omega
  rw [hn] at h
  obtain ⟨b, off, ea, hb, hc⟩ := CellsAt.row h k (encT (mem m.k.id)) (by rw [List.getElem?_map, hk]; rfl)
  rcases h.2 with ⟨e, _⟩ | ⟨g, cp, cur, e, _⟩
  · simp only [Value.slice.injEq] at e; rw [e.1] at ea; cases ea
  · simp only [Value.slice.injEq] at e
    rw [e.1] at ea
    simp only [Option.some.injEq, Addr.mk.injEq] at ea
    obtain ⟨rfl, rfl, _⟩ := ea
    exact ⟨g, e.1, hb, by simpa [encT] using hc⟩
theorem Ptrs.sl {w : World} {mem : Int → Nat} {l : List Mem} {v : Value} (h : Ptrs w v mem l) : ∃ a c, v = .slice a l.length c := by obtain ⟨B, h⟩ := h; exact ownsRow_sl h
structure MapI (w : World) (ks : List Value) (sz e : Nat) (k : Nat) (vo : Value) (wr : World) : Prop where
  out : wr.ownsRow w.heap.size e sz vo k ks
  below : Below w.heap.size w wr

set_option maxRecDepth 100000 in
set_option maxHeartbeats 2000000 in
theorem mapK_any (mem : Int → Nat) (l : List Mem) (v : Value) (w : World) (hP : Ptrs w v mem l) (hM : MemsAt w mem l) (hl : l.length < 1000000) :
    Calls Tryz.prog 26 #[v, .func (.func 29) #[] #[]] w fun e w' =>
      ∃ v', e = .returned v' ∧ w'.ownsRow w.heap.size 31 3 v' l.length (keyCells (l.map (·.k))) ∧ Below w.heap.size w w' := by
  obtain ⟨a, c, rfl⟩ := hP.sl
  have HP := Lib.hid hP
  have HM := Lib.hid hM
  clear hP hM
  go_enter Tryz.func26, Tryz.ntmps26
  go_wp2
  go_loopw [5, 10] (fun o i wr => ∃ (k : Nat), k ≤ l.length ∧ i = .int .i64 k ∧ MapI w (keyCells ((l.take k).map (·.k))) 3 31 k o wr) (fun _ i _ => l.length - (intOf i).toNat)
  case atStart => exact ⟨0, Nat.zero_le _, rfl, ⟨rfl, .inl ⟨rfl, rfl⟩⟩, Below.refl _ _⟩
  case round =>
    obtain ⟨k, hk, rfl, hI⟩ := hrel
    have HI := Lib.hid hI
    clear hI
    by_cases hlt : k < l.length
    · have hu := List.getElem?_eq_getElem hlt
      obtain ⟨m, hme⟩ : ∃ m, l[k] = m := ⟨_, rfl⟩
      rw [hme] at hu
      obtain ⟨g, rfl, hg, c0⟩ := HP.out.cell hu
      have hmm := HM.out m (List.mem_of_getElem? hu)
      have hcr : wr.cell? ⟨g, k, none⟩ = some (.pointer (some ⟨mem m.k.id, 0, none⟩)) := (HI.out.below.cell (p := ⟨g, k, none⟩) hg).trans c0
      have hmr : wr.heap[mem m.k.id]? = some (.cells (memCells m) 93 (0, 0)) := (HI.out.below.block _ (heap_lt hmm)).trans hmm
      have m0 := cells_at hmr 0
      have m1 := cells_at hmr 1
      have m2 := cells_at hmr 2
      simp only [memCells, List.getElem?_toArray, List.getElem?_cons_succ, List.getElem?_cons_zero] at m0 m1 m2
      have HU := Lib.hid hu
      have hwsz : w.heap.size ≤ wr.heap.size := HI.out.below.size
      have K3 := Lib.hid (show k + 1 ≤ maxLen by unfold maxLen; omega)
      obtain ⟨i0, hi, hz0, hz1, hz2⟩ := info_parts info_key
      obtain ⟨⟨kid, kinc, kst⟩, kdue⟩ := m
      simp only at m0 m1 m2 hcr
      clear hmm hmr c0 hme hu
      go_wp2_with (first
        | (go_at_call 29; refine (key_any (mem kid) ⟨kid, kinc, kst⟩ wr m0 m1 m2).mono ?_; rintro e w2 ⟨rfl, hb2⟩
           have HB2 := Lib.hid hb2
           have HSZ := Lib.hid hb2.size
           have HO := Lib.hid (World.ownsRow.alloc (own_under HI.out.out hb2) (.cells #[.int .i64 kid, .int .i64 kinc, .int .i64 kst] 31))
           have HNW := Lib.hid (cells_new w2 [.int .i64 kid, .int .i64 kinc, .int .i64 kst] 31 (n := w2.heap.size) rfl)
           clear hb2)
        | (at_builtin; refine wpList_append_own _ rfl _ _ 27 rfl w.heap.size 31 i0 _ 3 24 Tryz.underlying27 hi hz0 hz1 hz2 rfl (by decide) u5 k _ rfl HO.out ⟨w2.heap.size, 0, none⟩ 1 1 _ rfl rfl HNW.out (by simp [Value.oneCell']) K3.out (by omega) (by have := HSZ.out; simp; omega) ?_; intro v' w5 hown5 hg5 hnil5
           obtain ⟨ad', cp', rfl⟩ := ownsRow_sl hown5))
      go_roundw
      case rel =>
        have ek : keyCells ((l.take (k + 1)).map (·.k)) = keyCells ((l.take k).map (·.k)) ++ [.int .i64 kid, .int .i64 kinc, .int .i64 kst] := by
          rw [List.take_add_one, HU.out, List.map_append]
          exact keyCells_snoc _ _
        refine ⟨k + 1, by omega, by go_num, by rw [ek]; exact hown5, ?_⟩
        have h2 : Below w.heap.size w w2 := HI.out.below.trans (HB2.out.mono hwsz)
        exact (h2.alloc h2.size _).grown hg5 (by have := h2.size; simp; omega) (fun j e => (HI.out.out.lt j e).1)
      case measure => simp [intOf]; omega
    · have hkn : k = l.length := by omega
      subst hkn
      go_wp2
      go_ret
      have h := HI.out.out
      rw [List.take_length] at h
      exact ⟨_, rfl, h, HI.out.below⟩
theorem info_int : (Tryz.prog.info? 3).map (fun i => (i.zero, i.size, i.bytes)) = some (some (.int .i64 0), 1, 8) := by kernel_rfl
set_option maxRecDepth 100000 in
set_option maxHeartbeats 2000000 in
theorem mapI_any (mem : Int → Nat) (l : List Mem) (v : Value) (w : World) (hP : Ptrs w v mem l) (hM : MemsAt w mem l) (hl : l.length < 1000000) :
    Calls Tryz.prog 53 #[v, .func (.func 55) #[] #[]] w fun e w' =>
      ∃ v', e = .returned v' ∧ w'.ownsRow w.heap.size 3 1 v' l.length (l.map (fun m => Value.int .i64 m.k.id)) ∧ Below w.heap.size w w' := by
  obtain ⟨a, c, rfl⟩ := hP.sl
  have HP := Lib.hid hP
  have HM := Lib.hid hM
  clear hP hM
  go_enter Tryz.func53, Tryz.ntmps53
  go_wp2
  go_loopw [5, 10] (fun o i wr => ∃ (k : Nat), k ≤ l.length ∧ i = .int .i64 k ∧ MapI w ((l.take k).map (fun m => Value.int .i64 m.k.id)) 1 3 k o wr) (fun _ i _ => l.length - (intOf i).toNat)
  case atStart => exact ⟨0, Nat.zero_le _, rfl, ⟨rfl, .inl ⟨rfl, rfl⟩⟩, Below.refl _ _⟩
  case round =>
    obtain ⟨k, hk, rfl, hI⟩ := hrel
    have HI := Lib.hid hI
    clear hI
    by_cases hlt : k < l.length
    · have hu := List.getElem?_eq_getElem hlt
      obtain ⟨m, hme⟩ : ∃ m, l[k] = m := ⟨_, rfl⟩
      rw [hme] at hu
      obtain ⟨g, rfl, hg, c0⟩ := HP.out.cell hu
      have hmm := HM.out m (List.mem_of_getElem? hu)
      have hcr : wr.cell? ⟨g, k, none⟩ = some (.pointer (some ⟨mem m.k.id, 0, none⟩)) := (HI.out.below.cell (p := ⟨g, k, none⟩) hg).trans c0
      have hmr : wr.heap[mem m.k.id]? = some (.cells (memCells m) 93 (0, 0)) := (HI.out.below.block _ (heap_lt hmm)).trans hmm
      have m0 := cells_at hmr 0
      simp only [memCells, List.getElem?_toArray, List.getElem?_cons_zero] at m0
      have HU := Lib.hid hu
      have hwsz : w.heap.size ≤ wr.heap.size := HI.out.below.size
      have K3 := Lib.hid (show k + 1 ≤ maxLen by unfold maxLen; omega)
      obtain ⟨i0, hi, hz0, hz1, hz2⟩ := info_parts info_int
      obtain ⟨⟨kid, kinc, kst⟩, kdue⟩ := m
      simp only at m0 hcr
      clear hmm hmr c0 hme hu
      go_wp2_with (first
        | (go_at_call 55; refine (id_any (mem kid) kid wr m0).mono ?_; rintro e w2 ⟨rfl, rfl⟩
           have HO := Lib.hid (World.ownsRow.alloc HI.out.out (.cells #[.int .i64 kid] 3))
           have HNW := Lib.hid (cells_new w2 [.int .i64 kid] 3 (n := w2.heap.size) rfl))
        | (at_builtin; refine wpList_append_own _ rfl _ _ 22 rfl w.heap.size 3 i0 _ 1 8 Tryz.underlying22 hi hz0 hz1 hz2 rfl (by decide) u5 k _ rfl HO.out ⟨w2.heap.size, 0, none⟩ 1 1 _ rfl rfl HNW.out (by simp [Value.oneCell']) K3.out (by omega) (by simp; omega) ?_; intro v' w5 hown5 hg5 hnil5
           obtain ⟨ad', cp', rfl⟩ := ownsRow_sl hown5))
      go_roundw
      case rel =>
        have ek : (l.take (k + 1)).map (fun m => Value.int .i64 m.k.id) = (l.take k).map (fun m => Value.int .i64 m.k.id) ++ [.int .i64 kid] := by
          rw [List.take_add_one, HU.out, List.map_append]; rfl
        refine ⟨k + 1, by omega, by go_num, by rw [ek]; exact hown5, ?_⟩
        have h2 : Below w.heap.size w w2 := HI.out.below
        exact (h2.alloc h2.size _).grown hg5 (by have := h2.size; simp; omega) (fun j e => (HI.out.out.lt j e).1)
      case measure => simp [intOf]; omega
    · have hkn : k = l.length := by omega
      subst hkn
      go_wp2
      go_ret
      have h := HI.out.out
      rw [List.take_length] at h
      exact ⟨_, rfl, h, HI.out.below⟩
end Go.Proofs.YtfngdplkcppabaaGreat
namespace Go.Proofs.YtfngdplkcppabaaGreat
open Go.RowKit
def kCells (k : K) : List Value := [.int .i64 k.id, .int .i64 k.inc, .int .i64 k.st]
theorem keyCells_flat (l : List K) : keyCells l = l.flatMap kCells := rfl
set_option maxRecDepth 100000 in
set_option maxHeartbeats 1000000 in
theorem cmpJ_any (x y : K) (hx : idOk x.id) (hy : idOk y.id) (w : World) :
    Calls Tryz.prog 81 #[.agg (kCells x).toArray, .agg (kCells y).toArray] w fun e w' => e = .returned (.int .i64 (x.id - y.id)) ∧ ∃ q os, w' = Sort.grow (w.drewN q) os := by
  obtain ⟨x1, x2, x3⟩ := x
  obtain ⟨y1, y2, y3⟩ := y
  simp only [kCells]
  have e : IntKind.i64.wrap (x1 - y1) = x1 - y1 := IntWalk.i64_in _ (by unfold idOk at *; simp only at *; omega)
  clear hx hy
  go_enter Tryz.func81, Tryz.ntmps81
  go_wp2
  go_ret
  exact ⟨rfl, 0, #[_, _], rfl⟩
def leJ (x y : K) : Bool := decide (x.id ≤ y.id)
def subI (x y : K) : Int := x.id - y.id
theorem ltOf_subI {α : Type} (f : α → K) (x y : α) : ltOf (fun x y => subI (f x) (f y)) x y = decide ((f x).id < (f y).id) := by
  show decide ((f x).id - (f y).id < 0) = _
  rw [decide_eq_decide]; omega
open Go.Sort in
theorem subI_swo {α : Type} (f : α → K) : SWO (ltOf fun x y => subI (f x) (f y)) :=
  ⟨fun x => by rw [ltOf_subI]; simp, fun x y z h1 h2 => by rw [ltOf_subI, decide_eq_true_eq] at *; omega, fun x y z h1 h2 => by rw [ltOf_subI, decide_eq_false_iff_not] at *; omega⟩
theorem not_ltOf_subI (x y : K) : (!ltOf subI y x) = leJ x y := by
  rw [ltOf_subI (fun k : K => k), ← decide_not]
  unfold leJ
  rw [decide_eq_decide]; omega
set_option maxRecDepth 100000 in
theorem sortJ_any (l : List K) (hok : ∀ k ∈ l, idOk k.id) (hnd : (l.map (·.id)).Nodup) (hne : l ≠ []) (hl : l.length < 1000000) (B : Nat) (v : Value) (w : World) (hrow : w.ownsRow B 31 3 v l.length (keyCells l)) :
    Calls Tryz.prog 80 #[v, .func (.func 81) #[] #[]] w fun e w' =>
      e = .returned (.tuple #[]) ∧ w'.ownsRow B 31 3 v l.length (keyCells (l.mergeSort leJ)) ∧ Chg (fun j _ => v.ownBlock = some j) w w' := by
  rcases hrow.2 with ⟨rfl, hz⟩ | ⟨g, cap, cur, rfl, hbase, hgb, hr1, hr2, hr3, hr4⟩
  · exact absurd (List.eq_nil_of_length_eq_zero hz) hne
  · have eg : ∀ args w, (callFunc 81 args).run Tryz.prog w = .ok (.enter 81 args) w := enters_of Tryz.func81 (by kernel_rfl) rfl
    have hinj : ∀ x ∈ l, ∀ y ∈ l, x.id = y.id → x = y := by
      clear hrow hr4 hr1 hok hne hl
      induction l with
      | nil => intro x hx; simp at hx
      | cons c r ih =>
        have h1 := List.nodup_cons.1 (show (c.id :: r.map (·.id)).Nodup from hnd)
        intro x hx y hy e
        rcases List.mem_cons.1 hx with ex | hx1
        · rcases List.mem_cons.1 hy with ey | hy1
          · rw [ex, ey]
          · exact absurd (List.mem_map.2 ⟨y, hy1, by rw [← e, ex]⟩) h1.1
        · rcases List.mem_cons.1 hy with ey | hy1
          · exact absurd (List.mem_map.2 ⟨x, hx1, by rw [e, ey]⟩) h1.1
          · exact ih h1.2 x hx1 y hy1 e
    have hS := sortK_row laySortK 3 (fun w => by kernel_rfl) (fun w => by kernel_rfl) kCells (fun _ => rfl) (fun x v hv => by simp only [kCells, List.mem_cons, List.not_mem_nil, or_false] at hv; rcases hv with rfl | rfl | rfl <;> rfl) subI 81 eg l (subI_swo fun x : { x : K // x ∈ l } => x.1)
      (fun x hx y hy W => (cmpJ_any x y (hok x hx) (hok y hy) W).mono fun e W' h => h)
      (fun x hx y hy h1 h2 => by
        rw [ltOf_subI (fun k : K => k), decide_eq_false_iff_not] at h1 h2
        exact hinj x hx y hy (by omega)) hne hl 31 g cap w cur hgb hr4
    change Calls Tryz.prog 80 _ _ _ at hS
    have hfun : (fun x y : K => !ltOf subI y x) = leJ := by funext x y; exact not_ltOf_subI x y
    rw [hfun] at hS
    refine hS.mono ?_
    rintro e w' ⟨rfl, hC, cur', hg', hs', hcur'⟩
    refine ⟨rfl, ⟨by rw [keyCells_length, List.length_mergeSort, Nat.mul_comm], .inr ⟨g, cap, cur', rfl, hbase, hg', hr1, hr2, by omega, hcur'⟩⟩, hC.mono (fun j _ _ e => by have e : j = g := e; subst e; rfl)⟩
theorem putK_perm (k : K) (l : List K) : (l ++ [k]).Perm (putK k l) := by
  induction l with
  | nil => exact List.Perm.refl _
  | cons a r ih =>
    unfold putK
    split
    · exact List.Perm.cons _ ih
    · exact List.perm_append_singleton k (a :: r)
theorem putK_rise (k : K) {l : List K} (h : (l.map (·.id)).Pairwise (· < ·)) (hn : k.id ∉ l.map (·.id)) : ((putK k l).map (·.id)).Pairwise (· < ·) := by
  induction l with
  | nil => simp [putK]
  | cons a r ih =>
    have h1 : (∀ n ∈ r.map (·.id), a.id < n) ∧ (r.map (·.id)).Pairwise (· < ·) := List.pairwise_cons.1 h
    have hne : k.id ≠ a.id := fun e => hn (by simp [e])
    have hnr : k.id ∉ r.map (·.id) := fun e => hn (by simp only [List.map_cons, List.mem_cons]; exact .inr e)
    unfold putK
    split
    · rename_i hlt
      refine List.pairwise_cons.2 ⟨fun n hn' => ?_, ih h1.2 hnr⟩
      obtain ⟨b, hb, rfl⟩ := List.mem_map.1 hn'
      rcases mem_putK.1 hb with rfl | hb
      · exact hlt
      · exact h1.1 _ (List.mem_map.2 ⟨b, hb, rfl⟩)
    · rename_i hlt
      refine List.pairwise_cons.2 ⟨fun n hn' => ?_, h⟩
      have : a.id ≤ n := by
        rcases List.mem_cons.1 hn' with e | e
        · have e : n = a.id := e
          omega
        · have := h1.1 n e; omega
      show k.id < n
      omega
theorem sort_putK (k : K) {l : List K} (h : (l.map (·.id)).Pairwise (· < ·)) (hn : k.id ∉ l.map (·.id)) : (l ++ [k]).mergeSort leJ = putK k l := by
  have h1 := List.pairwise_mergeSort (le := leJ) (by intro a b c h1 h2; simp only [leJ, decide_eq_true_eq] at *; omega) (by intro a b; simp only [leJ, Bool.or_eq_true, decide_eq_true_eq]; omega) (l ++ [k])
  have h2 := putK_rise k h hn
  have h3 : (putK k l).Pairwise (fun a b => a.id < b.id) := List.pairwise_map.1 h2
  have hp := (List.mergeSort_perm (l ++ [k]) leJ).trans (putK_perm k l)
  refine hp.eq_of_pairwise (le := fun a b => leJ a b = true) (fun a b ha hb h1 h2 => ?_) h1 (h3.imp (by intro a b hab; simp only [leJ, decide_eq_true_eq]; omega))
  simp only [leJ, decide_eq_true_eq] at h1 h2
  have e : a.id = b.id := by omega
  have ha' : a ∈ putK k l := hp.mem_iff.1 ha
  have hdis : ∀ (L : List K), L.Pairwise (fun a b => a.id < b.id) → ∀ a ∈ L, ∀ b ∈ L, a.id = b.id → a = b := by
    intro L
    induction L with
    | nil => intro _ a ha; simp at ha
    | cons c r ih =>
      intro hL a ha b hb e
      have hc := List.pairwise_cons.1 hL
      rcases List.mem_cons.1 ha with ea | ha1
      · rcases List.mem_cons.1 hb with eb | hb1
        · rw [ea, eb]
        · have := hc.1 b hb1; rw [ea] at e; omega
      · rcases List.mem_cons.1 hb with eb | hb1
        · have := hc.1 a ha1; rw [eb] at e; omega
        · exact ih hc.2 a ha1 b hb1 e
  exact hdis _ h3 a ha' b hb e
end Go.Proofs.YtfngdplkcppabaaGreat
