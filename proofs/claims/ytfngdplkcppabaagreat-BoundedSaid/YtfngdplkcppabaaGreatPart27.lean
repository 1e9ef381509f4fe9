/-
  Blocks that are no node's (states, messages, keys): a node's call leaves them; a store into one leaves the nodes.
  gossipkeep.Bounded. THE WALK.
  An argument that is a message by value (five integers and a slice of keys), opened. (open_keys and open_msg turn the guide's plain theorems on structs, extra-structs.md, to these types.)
  Arguments that are rows of texts, or rows of raw messages, opened. (open_keys and elems_of: in XOpenMsg.)
-/
import Derived.Test.YtfngdplkcppabaaGreatPart25
import Derived.Test.YtfngdplkcppabaaGreatPart26
import Derived.Test.YtfngdplkcppabaaGreatPart20
import Derived.Deep.Slices
import Derived.Deep.Fields
import Derived.ChangeSame
import Derived.Lib.SmallJoins
import Derived.ProofKit
import Derived.Test.YtfngdplkcppabaaGreatPart04
set_option linter.all false
namespace Go.Proofs.YtfngdplkcppabaaGreat
open Go.RowKit

/-- The types of a node's own blocks. -/
def nodeTypes : List TypeId := [79, 106, 93, 3, 89, 22]
theorem NodeAt.notT {w : World} {a : Ad} {ov : Value} {x : Nd} (h : NodeAt w a ov x) {k : Nat} {c : Array Value} {t : TypeId} {f : Nat × Nat} (hk : w.heap[k]? = some (.cells c t f)) (ht : t ∉ nodeTypes) : ¬ Owns a x k := by
  have nc : ∀ {b : Nat} {cs : Array Value} {t' : TypeId} {g : Nat × Nat}, w.heap[b]? = some (.cells cs t' g) → t' ∈ nodeTypes → k ≠ b := by
    rintro b cs t' g h1 ht' rfl; rw [hk] at h1; simp only [Option.some.injEq, Obj.cells.injEq] at h1; exact ht (h1.2.1 ▸ ht')
  have nm : ∀ {b : Nat} {o : Obj}, w.heap[b]? = some o → (∀ cs t f, o ≠ .cells cs t f) → k ≠ b := by
    rintro b o h1 hno rfl; rw [hk] at h1; exact hno _ _ _ (Option.some.inj h1).symm
  obtain ⟨es, n, hm⟩ := h.news.isMap
  obtain ⟨es1, n1, hb1⟩ := h.others.isMap
  obtain ⟨es2, n2, hb2⟩ := h.relays.isMap
  obtain ⟨s, r, hc⟩ := h.chan
  obtain ⟨cs, h0⟩ := h.blk.block
  intro ho
  rcases ho with e | e | e | e | e | e | ⟨m, hmm, e⟩ | e | ⟨hp, e⟩ | e | e | e
  · exact nc h0 (by simp [nodeTypes]) e
  · exact nm hb1 (by simp) e
  · exact nc h.queue (by simp [nodeTypes]) e
  · exact nm hm (by simp) e
  · exact nm hc (by simp) e
  · exact nm hb2 (by simp) e
  · exact nc (h.mems m hmm) (by simp [nodeTypes]) e
  · obtain ⟨cur, hg⟩ := h.pass.blk e; exact nc hg (by simp [nodeTypes]) rfl
  · obtain ⟨p, hp⟩ := Option.isSome_iff_exists.1 hp
    exact nc (h.prb p hp) (by simp [nodeTypes]) e
  · exact nc h.box1 (by simp [nodeTypes]) e
  · exact nc h.box2 (by simp [nodeTypes]) e
  · obtain ⟨cur, hg⟩ := h.ds.blk e; exact nc hg (by simp [nodeTypes]) rfl
theorem Turned.keepT {w w' : World} {a a' : Ad} {x x' : Nd} {ov v : Value} (ht : Turned v w a x w' a' x') (h0 : NodeAt w a ov x) {k : Nat} {c : Array Value} {t : TypeId} {f : Nat × Nat} (hk : w.heap[k]? = some (.cells c t f)) (hn : t ∉ nodeTypes) : w'.heap[k]? = some (.cells c t f) :=
  ht.chg.kept _ _ hk (h0.notT hk hn)
theorem Turned.keepRow {w w' : World} {a a' : Ad} {x x' : Nd} {ov v u : Value} (ht : Turned v w a x w' a' x') (h0 : NodeAt w a ov x) {B e s n : Nat} {xs : List Value} (ho : w.ownsRow B e s u n xs) (hn : e ∉ nodeTypes) : w'.ownsRow B e s u n xs :=
  own_chg ho ht.chg (fun g o hg hk => by obtain ⟨_, c, hc⟩ := ownsRow_blk ho hg; exact h0.notT hc hn hk)
/-- A box alone. -/
theorem BxAt.alone {w : World} {B0 : Nat} {q : Bx} (h : BxAt w B0 q) : Bxs w B0 [q] := ⟨fun p hp => by rw [List.mem_singleton] at hp; subst hp; exact h, List.pairwise_singleton _ _⟩
theorem BxAt.turn {w w' : World} {B0 : Nat} {q : Bx} (h : BxAt w B0 q) (hB : B0 ≤ w.heap.size) {v : Value} {a' : Ad} {x' : Nd} (ht : Turned v w q.a q.x w' a' x') : BxAt w' B0 ⟨q.g, a', x'⟩ ∧ Below B0 w w' :=
  ⟨(h.alone.turn hB (j := 0) rfl ht).1.at_ _ (by simp), h.alone.under hB (by simp) ht⟩
theorem BxAt.below {w w' : World} {B0 : Nat} {q : Bx} (h : BxAt w B0 q) (hb : Below w.heap.size w w') : BxAt w' B0 q := h.keep (fun k hk => hb.block k (h.lt hk))
theorem BxAt.drewN {w : World} {B0 : Nat} {q : Bx} (h : BxAt w B0 q) (n : Nat) : BxAt (w.drewN n) B0 q := h.keep (fun _ _ => rfl)
/-- A store elsewhere. -/
theorem BxAt.other {w w' : World} {B0 k : Nat} {q : Bx} (h : BxAt w B0 q) (hc : Chg (fun j _ => j = k) w w') {c : Array Value} {t : TypeId} {f : Nat × Nat} (hk : w.heap[k]? = some (.cells c t f)) (hn : t ∉ nodeTypes) (hg : t ≠ 40) : BxAt w' B0 q := by
  obtain ⟨ov, hnode⟩ := h.node
  refine h.keep (fun j hj => ?_)
  have hne : j ≠ k := by
    rintro rfl
    rcases hj with rfl | hj
    · have := h.box
      rw [hk] at this
      simp only [Option.some.injEq, Obj.cells.injEq] at this
      exact hg this.2.1
    · exact hnode.notT hk hn hj
  have hlt := h.lt hj
  obtain ⟨o, ho⟩ : ∃ o, w.heap[j]? = some o := ⟨_, Array.getElem?_eq_getElem hlt⟩
  rw [ho]; exact hc.kept j o ho hne
/-- What See told, in a block. -/
def stCells (x : Nd) (va : Option Addr) (vc : Nat) : Array Value :=
  #[.int .i64 x.clock, .int .i64 x.self.id, .int .i64 x.self.inc, .int .i64 x.self.st, .slice va x.others.length vc, .int .i64 (prbTgt x.probe), .int .i64 (x.queue.length : Nat), .int .i64 (x.relays.length : Nat), .int .i64 x.dropped, .int .i64 x.lost]
/-- The node in its box g, and what See told of it last in block A0. -/
structure BdRel (w : World) (g A0 i l : Nat) (W : World) : Prop where
  ex : ∃ q va vc, BxAt W w.heap.size q ∧ q.g = g ∧ BInv l (10000 + 100 * (i : Int)) q.x ∧ W.heap[A0]? = some (.cells (stCells q.x va vc) 46 (0, 0)) ∧ W.ownsRow w.heap.size 31 3 (.slice va q.x.others.length vc) q.x.others.length (keyCells (q.x.others.map (·.k)))
  lo : w.heap.size ≤ A0
  below : Below w.heap.size w W
theorem decpost_any {w w' : World} {bs : List UInt8} {e : Ending} (h : DecPost w bs e w') :
    ∃ (m : M) (a : Option Addr) (n c : Nat) (ev : Value), e = .returned (.tuple #[.agg #[.int .i64 m.kind, .int .i64 m.frm, .int .i64 m.inc, .int .i64 m.seq, .int .i64 m.tgt, .slice a n c], ev]) ∧
      ((decodeM bs = none ∧ ev = .iface 67 (.int .i64 2)) ∨ (decodeM bs = some m ∧ ev = .nilIface)) ∧ Below w.heap.size w w' := by
  obtain ⟨hb, ⟨h, rfl⟩ | ⟨h, v, rfl, hrow⟩⟩ := h
  · exact ⟨⟨0, 0, 0, 0, 0, []⟩, none, 0, 0, _, rfl, .inl ⟨h, rfl⟩, hb⟩
  · obtain ⟨a, cap, rfl⟩ := ownsRow_sl hrow
    exact ⟨rawMsg bs, a, _, cap, _, rfl, .inr ⟨h, rfl⟩, hb⟩
theorem decodeM_ok {bs : List UInt8} {m : M} (h : decodeM bs = some m) : MOk m := by
  unfold decodeM at h
  split at h
  · rename_i hc
    cases h
    exact mok_of hc.2
  · cases h
end Go.Proofs.YtfngdplkcppabaaGreat
namespace Go.Proofs.YtfngdplkcppabaaGreat
open Go.RowKit

set_option maxRecDepth 100000 in
set_option maxHeartbeats 8000000 in
theorem bounded_any (c : Int) (hc : -9223372036854775808 ≤ c ∧ c ≤ 9223372036854775807) (ds : List Int) (hfit : ∀ v ∈ ds, fitsI v) (da : Option Addr) (dn dc : Nat) (w : World) (hdn : ds.length = dn) (hl : dn ≤ 9223372036854775807) (hd : CellsAt w da (ds.map (Value.int .i64)))
    (l : List ByteArray) (la : Option Addr) (ln lc : Nat) (hll : l.length = ln) (_hln : ln ≤ 9223372036854775807) (hla : CellsAt w la (l.map Value.string)) (hls : ∀ s ∈ l, s.size ≤ maxLen) :
    Calls Tryz.prog 6 #[.int .i64 c, .slice da dn dc, .slice la ln lc] w fun e w' => e = .returned (.bool true) ∧ Below w.heap.size w w' := by
  have hmade := made_any 3 (by omega) c hc ds hfit da dn dc w hdn hl hd
  have HM := Lib.hid hmade
  have HLA := Lib.hid hla
  have HLS := Lib.hid hls
  have HLL := Lib.hid hll
  clear hmade hd hdn hfit hla hls hll
  go_enter Tryz.func6, Tryz.ntmps6
  go_wp2_with fail
  refine HM.out.mono ?_
  rintro e w1 ⟨v, L, rfl, hNs, hMid, hb1⟩
  have hLl : L.length = 3 := by rw [← hMid.len, List.length_map]
  obtain ⟨rg, cp, rfl⟩ := hNs.sl (by omega)
  rw [hLl] at hNs ⊢
  obtain ⟨q, hq⟩ : ∃ q, L[0]? = some q := ⟨L[0], List.getElem?_eq_getElem (by omega)⟩
  have cq := hNs.cell hq
  have cb := hNs.box hq
  have hqa := hNs.bxs.at_ q (List.mem_of_getElem? hq)
  have hinv := binv_made hMid (by omega) (x_at hq)
  obtain ⟨ov, hnode⟩ := hqa.node
  have hsee := see_any hinv.ok q.a ov w1 hnode
  have HSEE := Lib.hid hsee
  have HQA := Lib.hid hqa
  have HINV := Lib.hid hinv
  have HB1 := Lib.hid hb1
  have hsz1 := hb1.size
  clear hNs hMid hb1 hq hqa hinv hnode hsee hLl
  go_wp2_with fail
  refine HSEE.out.mono ?_
  rintro e w2 ⟨v, rfl, hrow2, hb2⟩
  obtain ⟨va, vc, rfl⟩ := ownsRow_sl hrow2
  have hba : Below w2.heap.size w2 (w2.alloc (.cells (stCells q.x va vc) 46)) := (Below.refl _ _).alloc (Nat.le_refl _) _
  have hsz2 := hb2.size
  have HREL := Lib.hid (show BdRel w q.g w2.heap.size 0 2 (w2.alloc (.cells (stCells q.x va vc) 46)) from
    ⟨⟨q, va, vc, (HQA.out.below hb2).below hba, rfl, by simpa using HINV.out, heap_alloc_eq w2 _, own_below (own_under hrow2 hba) (by omega)⟩, by omega, (HB1.out.trans (hb2.mono hsz1)).trans (hba.mono (by omega))⟩)
  clear hrow2 hb2 hba cq cb
  unfold seeV
  unfold stCells at HREL
  go_wp2_with fail
  go_loopw [10] (fun s10 wr => ∃ i : Nat, i ≤ ln ∧ i ≤ 60 ∧ s10 = .int .i64 (i : Nat) ∧ BdRel w q.g w2.heap.size i 2 wr) (fun s10 _ => 100 - (intOf s10).toNat)
  case atStart => exact ⟨0, Nat.zero_le _, Nat.zero_le _, rfl, HREL.out⟩
  case round =>
    clear HREL HSEE HQA HINV HB1
    obtain ⟨i, hil, hi60, rfl, hR⟩ := hrel
    obtain ⟨⟨q1, va1, vc1, hq1, hg1, hv1, hA1, hrow1⟩, hlo, hbw⟩ := hR
    have hszw := hbw.size
    by_cases hin : i < ln
    · by_cases hi6 : i < 60
      · obtain ⟨s, hs⟩ : ∃ s, l[i]? = some s := ⟨_, List.getElem?_eq_getElem (by have := HLL.out; omega)⟩
        obtain ⟨lb, lo, rfl, hlb, hlc⟩ := HLA.out i (.string s) (by rw [List.getElem?_map, hs]; rfl)
        rw [← hbw.cell hlb] at hlc
        have hsm := HLS.out s (List.mem_of_getElem? hs)
        have HQ1 := Lib.hid hq1
        have HG1 := Lib.hid hg1
        have HV1 := Lib.hid hv1
        have HA1 := Lib.hid hA1
        have HBW := Lib.hid hbw
        have hltA := heap_lt hA1
        clear hq1 hg1 hv1 hA1 hrow1 hbw hs
        go_wp2_with fail
        refine (decode_any s wr hsm).mono ?_
        intro e w3 hdec
        obtain ⟨m, ma, mn, mc, ev, rfl, hcase, hb3⟩ := decpost_any hdec
        have hmok : ∀ m', decodeM s.data.toList = some m' → MOk m' := fun m' h => decodeM_ok h
        obtain ⟨W, hW⟩ : ∃ W, (w3.alloc (.cells #[.int .i64 m.kind, .int .i64 m.frm, .int .i64 m.inc, .int .i64 m.seq, .int .i64 m.tgt, .slice ma mn mc] 29)) = W := ⟨_, rfl⟩
        have hbW : Below wr.heap.size wr W := by rw [← hW]; exact hb3.alloc hb3.size _
        have hxW : W.heap[w3.heap.size]? = some (.cells #[.int .i64 m.kind, .int .i64 m.frm, .int .i64 m.inc, .int .i64 m.seq, .int .i64 m.tgt, .slice ma mn mc] 29 (0, 0)) := by rw [← hW]; exact heap_alloc_eq w3 _
        have hqW := HQ1.out.below hbW
        have cbW := cells_at hqW.box 0
        rw [HG1.out] at cbW
        simp only [List.getElem?_toArray, List.getElem?_cons_zero] at cbW
        obtain ⟨ovW, hnW⟩ := (hqW.drewN 1).node
        have hAW : W.heap[w2.heap.size]? = _ := (hbW.block _ hltA).trans HA1.out
        have hlW : W.cell? ⟨lb, lo + i, none⟩ = some (.string s) := (hbW.cell (by show lb < _; omega)).trans hlc
        obtain ⟨r, hr⟩ : ∃ r, q1.x.receive (decodeM s.data.toList) = r := ⟨_, rfl⟩
        have hrec := receive_any HV1.out.ok HV1.out.bd (by omega) q1.a ovW (W.drewN 1) hnW s hsm hmok
        obtain ⟨hv4, hup4, hbl, hwh⟩ := HV1.out.receive (o := decodeM s.data.toList) (by omega) hmok
        rw [hr] at hrec hv4 hbl hwh
        obtain ⟨bk, x4⟩ := r
        simp only at hrec hv4 hbl hwh
        -- odd, or a packet
        have hodd : (ev = .iface 67 (.int .i64 2) ∧ bk.length = 0 ∧ x4 = { q1.x with dropped := q1.x.dropped + 1 }) ∨ (ev = .nilIface ∧ (m.frm == 1) = true ∧ bk.length = 0 ∧ x4 = { q1.x with dropped := q1.x.dropped + 1 }) ∨ (ev = .nilIface ∧ (m.frm == 1) = false) := by
          rcases hcase with ⟨h1, h2⟩ | ⟨h1, h2⟩
          · have e := hr.symm.trans (receive_odd (fun m' hm' => by rw [h1] at hm'; cases hm'))
            simp only [Prod.mk.injEq] at e
            exact .inl ⟨h2, by rw [e.1]; rfl, e.2⟩
          · by_cases hf : m.frm = 1
            · have e := hr.symm.trans (receive_odd (fun m' hm' => by rw [h1] at hm'; cases hm'; rw [HV1.out.one]; exact hf))
              simp only [Prod.mk.injEq] at e
              exact .inr (.inl ⟨h2, by simpa using hf, by rw [e.1]; rfl, e.2⟩)
            · exact .inr (.inr ⟨h2, by simpa using hf⟩)
        have HREC := Lib.hid hrec
        have HV4 := Lib.hid hv4
        have HWH := Lib.hid hwh
        have HBW3 := Lib.hid hbW
        have HXW := Lib.hid hxW
        have HQW := Lib.hid hqW
        have HNW := Lib.hid hnW
        have HAW := Lib.hid hAW
        have HWe := Lib.hid hW
        have hlen := HV4.out.ok.len
        have hqlen := HV4.out.ok.qlen
        have hrlen := HV4.out.ok.rlen
        have hdrp := HV1.out.bd.dropped
        have wdr : IntKind.i64.wrap (q1.x.dropped + 1) = q1.x.dropped + 1 := IntWalk.i64_in _ (by omega)
        have hszW := hbW.size
        clear hdec hb3 hcase hmok hbW hxW hqW hnW hAW hrec hv4 hup4 hwh hW hr hlc
        obtain ⟨bl, hbk⟩ : ∃ bl, bk.length = bl := ⟨_, rfl⟩
        rw [hbk] at hodd hbl
        have HBK := Lib.hid hbk
        clear hbk
        rcases hodd with ⟨rfl, hl0, hro⟩ | ⟨rfl, hfr, hl0, hro⟩ | ⟨rfl, hfr⟩
        all_goals
          try subst hl0
          try subst hro
          go_upto_region 10 with (fail)
          rw [HWe.out]
          (refine wp_tail 8 (by kernel_rfl) (by kernel_rfl) ?_; simp only [List.take_succ_cons, List.take_zero, List.drop_succ_cons, List.drop_zero])
          iterate 8 still_step
          refine wpStill_nil ?_
          go_wp2_with fail
          refine HREC.out.mono ?_
          rintro e w4 ⟨v, rfl, a4, hT4, hO4⟩
          obtain ⟨ba, bc, rfl⟩ := hO4.sl
          rw [HBK.out]
          have hsz4 : W.heap.size ≤ w4.heap.size := hT4.chg.size
          obtain ⟨hq4, hb4⟩ := (HQW.out.drewN 1).turn (show w.heap.size ≤ W.heap.size by omega) hT4
          have hx4 := hT4.keepT HNW.out (show (W.drewN 1).heap[w3.heap.size]? = _ from HXW.out) (by decide)
          have hA4 := hT4.keepT HNW.out (show (W.drewN 1).heap[w2.heap.size]? = _ from HAW.out) (by decide)
          have cb4 := cells_at hq4.box 0
          simp only [List.getElem?_toArray, List.getElem?_cons_zero, HG1.out] at cb4
          obtain ⟨ov4, hn4⟩ := hq4.node
          have HSEE4 := Lib.hid (see_any HV4.out.ok a4 ov4 w4 hn4)
          have HQ4 := Lib.hid hq4
          have HX4 := Lib.hid hx4
          have HA4 := Lib.hid hA4
          have HO4 := Lib.hid hO4
          have HB4 := Lib.hid (HBW.out.trans ((HBW3.out.mono hszw).trans (below_ofDrew hb4)))
          clear hT4 hO4 hq4 hb4 hx4 hA4 hn4
          go_wp2_with fail
          refine HSEE4.out.mono ?_
          rintro e w5 ⟨v, rfl, hrow5, hb5⟩
          obtain ⟨va5, vc5, rfl⟩ := ownsRow_sl hrow5
          have hb5a : ∀ o, Below w4.heap.size w4 (w5.alloc o) := fun o => hb5.alloc hb5.size o
          have am : ∀ o (k : Nat), (w5.alloc o).cell? ⟨w3.heap.size, k, none⟩ = (#[.int .i64 m.kind, .int .i64 m.frm, .int .i64 m.inc, .int .i64 m.seq, .int .i64 m.tgt, .slice ma mn mc] : Array Value)[k]? := fun o k => cells_at (((hb5a o).block _ (heap_lt HX4.out)).trans HX4.out) k
          have aa : ∀ o (k : Nat), (w5.alloc o).cell? ⟨w2.heap.size, k, none⟩ = (#[.int .i64 q1.x.clock, .int .i64 q1.x.self.id, .int .i64 q1.x.self.inc, .int .i64 q1.x.self.st, .slice va1 q1.x.others.length vc1, .int .i64 (prbTgt q1.x.probe), .int .i64 (q1.x.queue.length : Nat), .int .i64 (q1.x.relays.length : Nat), .int .i64 q1.x.dropped, .int .i64 q1.x.lost] : Array Value)[k]? := fun o k => cells_at (((hb5a o).block _ (heap_lt HA4.out)).trans HA4.out) k
          have cb5 : ∀ o, (w5.alloc o).cell? ⟨q.g, 0, none⟩ = some (.pointer (some ⟨a4.b, 0, none⟩)) := fun o => ((hb5a o).cell (p := ⟨q.g, 0, none⟩) (World.block_lt_of_cell? _ _ cb4)).trans cb4
          have HB5A := Lib.hid hb5a
          have HROW5 := Lib.hid hrow5
          have HOR := Lib.hid (fun o => own_under HO4.out (hb5a o))
          clear hb5 hb5a hrow5 cb4
          unfold seeV
          dsimp only
          go_wp2_with fail
          go_loopw [15] (fun s15 wx => ∃ (k : Nat) (o : Obj), k ≤ bk.length ∧ s15 = .int .i64 (k : Nat) ∧ wx = w5.alloc o) (fun s15 _ => 20 - (intOf s15).toNat)
          case atStart => exact ⟨0, _, Nat.zero_le _, rfl, rfl⟩
          case round =>
            obtain ⟨k, o, hk, rfl, hwx⟩ := hrel
            subst hwx
            rw [HBK.out] at hk
            by_cases hkl : k < bk.length
            · try exact absurd hkl (by rw [HBK.out]; exact Nat.not_lt_zero _)
              all_goals
                obtain ⟨pk, hpk⟩ : ∃ pk, bk[k]? = some pk := ⟨_, List.getElem?_eq_getElem hkl⟩
                rw [HBK.out] at hkl
                obtain ⟨og, rfl, o0, o1⟩ := OutRow.at_ (HOR.out o) hpk
                obtain ⟨ss, hss⟩ : ∃ ss, strOfNums (msgBytes pk.2) = ss := ⟨_, rfl⟩
                have hsz60 : ss.size ≤ 60 := by rw [← hss]; exact bytes_size (HWH.out pk (List.mem_of_getElem? hpk))
                rw [hss] at o1
                clear hpk hss
                go_wp2
                go_roundw
                case rel => exact ⟨k + 1, o, by rw [HBK.out]; omega, by go_num, rfl⟩
                case measure => simp [intOf]; omega
            · rw [HBK.out] at hkl
              have hqW := HQ4.out.below (HB5A.out o)
              obtain ⟨ovT, hnT⟩ := hqW.node
              have hAW := ((HB5A.out o).block _ (heap_lt HA4.out)).trans HA4.out
              have HTK := Lib.hid (tick_any HV4.out.ok HV4.out.bd (by omega) (by have := HV4.out.ds; omega) a4 ovT _ hnT)
              have HQT := Lib.hid hqW
              have HNT := Lib.hid hnT
              have HAT := Lib.hid hAW
              have hszT := (HB5A.out o).size
              clear hqW hnT hAW am aa
              go_wp2_with fail
              refine HTK.out.mono ?_
              rintro e w6 ⟨v6, rfl, a6, hT6, hO6⟩
              obtain ⟨hq6, hb6⟩ := HQT.out.turn (by omega) hT6
              have hA6 := hT6.keepT HNT.out HAT.out (by decide)
              obtain ⟨hv6, _⟩ := HV4.out.tick (by omega)
              have cb6 := cells_at hq6.box 0
              simp only [List.getElem?_toArray, List.getElem?_cons_zero, HG1.out] at cb6
              obtain ⟨ov6, hn6⟩ := hq6.node
              have HSEE6 := Lib.hid (see_any hv6.ok a6 ov6 w6 hn6)
              have HQ6 := Lib.hid hq6
              have HA6 := Lib.hid hA6
              have HV6 := Lib.hid hv6
              have HB6 := Lib.hid (HB4.out.trans (((HB5A.out o).mono (by omega)).trans hb6))
              have hsz6 : (w5.alloc o).heap.size ≤ w6.heap.size := hT6.chg.size
              clear hT6 hO6 hq6 hb6 hA6 hv6 hn6
              go_wp2_with fail
              refine HSEE6.out.mono ?_
              rintro e w7 ⟨v, rfl, hrow7, hb7⟩
              obtain ⟨va7, vc7, rfl⟩ := ownsRow_sl hrow7
              have hA7 := (hb7.block _ (heap_lt HA6.out)).trans HA6.out
              have hA7' := hA7
              unfold stCells at hA7'
              have sc := cells_at hA7'
              have sf := unfrozen hA7
              have HA7 := Lib.hid hA7
              have HROW7 := Lib.hid hrow7
              have HB7 := Lib.hid hb7
              have hsz7 := hb7.size
              clear hrow7 hb7 hA7 hA7'
              unfold seeV
              go_wp2
              go_roundw
              case rel =>
                refine ⟨i + 1, by omega, by omega, by go_num, ?_⟩
                refine ten_set (R := fun W => BdRel w q.g w2.heap.size (i + 1) 2 W) HA7.out _ _ _ _ _ _ _ _ _ _ (fun W hW hC => ?_)
                refine ⟨⟨⟨q1.g, a6, _⟩, va7, vc7, (HQ6.out.below HB7.out).other hC HA7.out (by decide) (by decide), HG1.out, HV6.out.mono (by omega), hW, ?_⟩, hlo, ?_⟩
                · refine own_below (own_chg HROW7.out hC (fun g o' hg e => ?_)) (by omega)
                  subst e
                  obtain ⟨_, cur, hgc⟩ := ownsRow_blk HROW7.out hg
                  have := HA7.out
                  rw [hgc] at this
                  simp only [Option.some.injEq, Obj.cells.injEq] at this
                  exact absurd this.2.1 (by decide)
                · exact (HB6.out.trans (HB7.out.mono (by omega))).trans (hC.below (by omega) (fun k _ e => by omega))
              case measure => simp [intOf]; omega
      · unfold stCells at hA1
        have sc := cells_at hA1
        have hl2 := hv1.len
        have HBE := Lib.hid hbw
        clear hq1 hg1 hv1 hA1 hrow1 hbw
        go_wp2
        go_ret
        exact ⟨by simp; omega, HBE.out⟩
    · unfold stCells at hA1
      have sc := cells_at hA1
      have hl2 := hv1.len
      have HBE := Lib.hid hbw
      clear hq1 hg1 hv1 hA1 hrow1 hbw
      go_wp2
      go_ret
      exact ⟨by simp; omega, HBE.out⟩
end Go.Proofs.YtfngdplkcppabaaGreat
namespace Go.Proofs.YtfngdplkcppabaaGreat
open Go.Joins Go.ChangeShapes Go.WideShapes Go.RowKit Go.Deep

theorem fit_of_wf {x : Int} (h : (Lit.int .i64 x).wf = true) : -9223372036854775808 ≤ x ∧ x ≤ 9223372036854775807 := by
  simpa [Lit.wf, IntKind.min, IntKind.max, IntKind.signed, IntKind.bits] using h

section
variable {H : Type} {enc : TypeId × Value → H} {w : World} {base : Nat} {spare : Nat → Bool} {held : Bool}

theorem at_int {fuel : Nat} {v : Value} {y : DataW H × List MemPlace} (h : DataW.trod enc Tryz.prog w base spare held fuel 3 [v] = some y) : ∃ x : Int, v = .int .i64 x ∧ -9223372036854775808 ≤ x ∧ x ≤ 9223372036854775807 := by
  obtain ⟨x, e0, e1, wx⟩ := DataW.trod_int Tryz.underlying3 h
  simp at e0
  exact ⟨x, e0, fit_of_wf wx⟩

/-- The cells of a slice's elements, structs of one-cell fields (turned from the guide's extra-structs.md, 1). -/
theorem elems_of {P : Program} {e : TypeId} {fs : Array Field} {a : Addr} {i n : Nat} {d : DataW H} {pl : List MemPlace} (he : P.underlying e = some (.struct fs)) (hone : oneCellFields P fs = true) (hC : P.cellsOf e = fs.size)
    (hi : ∃ cs', w.cells? base (a.add (i * P.cellsOf e)) (P.cellsOf e) = some cs' ∧ DataW.trod enc P w base spare held n e cs' = some (d, pl)) :
    ∃ n', ∀ (j : Nat) (f : Field), fs[j]? = some f → ∃ (v : Value) (y : DataW H × List MemPlace), w.cell? (a.add (i * fs.size + j)) = some v ∧ DataW.trod enc P w base spare held n' f.type [v] = some y := by
  obtain ⟨cs', hc, ht'⟩ := hi
  rw [hC] at hc
  obtain ⟨ys, n', hn', hy, hlen, hyl, hf⟩ := DataW.trod_struct he ht'
  obtain ⟨_, hcl, hat⟩ := World.cells?_some hc
  refine ⟨n', fun j f hj => ?_⟩
  obtain ⟨ho, hk⟩ := hone_of hone j f hj
  have hjl : j < fs.size := (Array.getElem?_eq_some_iff.1 hj).1
  have hcell := hat j hjl
  have hv : cs'[j]? = some (cs'[j]'(by omega)) := List.getElem?_eq_getElem (by omega)
  have h1 := hf j f hj
  rw [ho, hk] at h1
  have hone' : (cs'.drop j).take 1 = [cs'[j]'(by omega)] := by
    rw [List.drop_eq_getElem_cons (by omega)]
    rfl
  rw [hone'] at h1
  have hys : ys[j]? = some (ys[j]'(by omega)) := List.getElem?_eq_getElem (by omega)
  refine ⟨_, _, ?_, h1.trans hys⟩
  rw [← Go.Deep.add_add, hcell, hv]

theorem key_cells : Tryz.prog.cellsOf 31 = 3 := by kernel_rfl
theorem add_plain {b off k : Nat} : (⟨b, off, none⟩ : Addr).add k = ⟨b, off + k, none⟩ := by unfold Addr.add; split <;> simp_all
theorem spot_none {a : Addr} {v : Value} (h : w.cell? a = some v) : a.spot = none ∧ a.block < w.heap.size := by
  refine ⟨?_, World.block_lt_of_cell? _ _ h⟩
  unfold World.cell? at h
  split at h
  · split at h
    · cases h
    · rename_i hs; simpa using hs
  · cases h

/-- A slice of keys. -/
theorem open_keys {fuel : Nat} {cs : List Value} {x : DataW H × List MemPlace} (h : DataW.trod enc Tryz.prog w base spare held fuel 27 cs = some x) :
    ∃ (a : Option Addr) (l : List K) (cap : Nat), cs = [.slice a l.length cap] ∧ l.length ≤ maxLen ∧ KeysAt w a l ∧ ∀ k ∈ l, k.fit := by
  rcases open_slice Tryz.underlying27 h with ⟨rfl, _⟩ | ⟨a, len, cap, m, n, D, Pl, hcs, hb, hl, hm, hmm, hx, hi⟩
  · exact ⟨none, [], 0, rfl, by simp, fun i k hk => (by simp at hk), fun k hk => (by simp at hk)⟩
  · have hlm : len ≤ m := by rw [hmm]; split <;> omega
    have elem : ∀ i, i < len → ∃ k : K, k.fit ∧ w.cell? (a.add (i * 3)) = some (.int .i64 k.id) ∧ w.cell? (a.add (i * 3 + 1)) = some (.int .i64 k.inc) ∧ w.cell? (a.add (i * 3 + 2)) = some (.int .i64 k.st) := by
      intro i hil
      obtain ⟨n', hf⟩ := elems_of Tryz.underlying31 (by kernel_rfl) (by kernel_rfl) (hi i (by omega))
      obtain ⟨v0, y0, c0, t0⟩ := hf 0 _ rfl
      obtain ⟨v1, y1, c1, t1⟩ := hf 1 _ rfl
      obtain ⟨v2, y2, c2, t2⟩ := hf 2 _ rfl
      obtain ⟨x0, rfl, f0⟩ := at_int t0
      obtain ⟨x1, rfl, f1⟩ := at_int t1
      obtain ⟨x2, rfl, f2⟩ := at_int t2
      exact ⟨⟨x0, x1, x2⟩, ⟨f0, f1, f2⟩, c0, c1, c2⟩
    have list : ∀ j, j ≤ len → ∃ l : List K, l.length = j ∧ (∀ k ∈ l, k.fit) ∧ ∀ i k, l[i]? = some k → w.cell? (a.add (i * 3)) = some (.int .i64 k.id) ∧ w.cell? (a.add (i * 3 + 1)) = some (.int .i64 k.inc) ∧ w.cell? (a.add (i * 3 + 2)) = some (.int .i64 k.st) := by
      intro j
      induction j with
      | zero => exact fun _ => ⟨[], rfl, fun k hk => (by simp at hk), fun i k hk => (by simp at hk)⟩
      | succ j ih =>
        intro hj
        obtain ⟨l, hl1, hl2, hl3⟩ := ih (by omega)
        obtain ⟨k, hk, hc⟩ := elem j (by omega)
        refine ⟨l ++ [k], by simp [hl1], fun k' hk' => ?_, fun i k' hk' => ?_⟩
        · rcases List.mem_append.1 hk' with h' | h'
          · exact hl2 k' h'
          · rw [List.mem_singleton.1 h']; exact hk
        · rcases Nat.lt_or_ge i l.length with h' | h'
          · rw [List.getElem?_append_left h'] at hk'
            exact hl3 i k' hk'
          · rw [List.getElem?_append_right h'] at hk'
            have hi0 : i - l.length = 0 := by
              rcases Nat.eq_zero_or_pos (i - l.length) with h0 | h0
              · exact h0
              · rw [List.getElem?_eq_none (by simp; omega)] at hk'; cases hk'
            rw [hi0] at hk'
            simp at hk'
            subst hk'
            have : i = j := by omega
            subst this
            exact hc
    obtain ⟨l, hl1, hl2, hl3⟩ := list len (Nat.le_refl _)
    subst hl1
    refine ⟨some a, l, cap, hcs, by omega, fun i k hk => ?_, hl2⟩
    have h0 : 0 < l.length := by
      rcases Nat.eq_zero_or_pos l.length with h0 | h0
      · rw [List.length_eq_zero_iff.1 h0] at hk; simp at hk
      · exact h0
    obtain ⟨hs, hlt⟩ := spot_none (hl3 0 l[0] (List.getElem?_eq_getElem h0)).1
    obtain ⟨b, off, sp⟩ := a
    have e0 : (⟨b, off, sp⟩ : Addr).add (0 * 3) = ⟨b, off, sp⟩ := by unfold Addr.add; simp
    rw [e0] at hs hlt
    simp only at hs hlt
    subst hs
    obtain ⟨k0, k1, k2⟩ := hl3 i k hk
    rw [add_plain] at k0 k1 k2
    exact ⟨b, off, rfl, hlt, k0, k1, k2⟩

/-- A struct of six one-cell fields, by value (turned from the guide's extra-structs.md, 2). -/
theorem fields6 {P : Program} {r : Reach} {b0 : Nat} {t : TypeId} {f0 f1 f2 f3 f4 f5 : Field} {v : Value} {d : DataW H} {p : List MemPlace} (hs : P.underlying t = some (.struct #[f0, f1, f2, f3, f4, f5])) (hone : oneCellFields P #[f0, f1, f2, f3, f4, f5] = true) (hC : P.cellsOf t = 6)
    (hv : Value.okWide P w r b0 t v) (h : DataW.Trod enc P w base spare held t v d p) :
    ∃ (v0 v1 v2 v3 v4 v5 : Value) (y0 y1 y2 y3 y4 y5 : DataW H × List MemPlace) (n : Nat), v = .agg #[v0, v1, v2, v3, v4, v5] ∧
      DataW.trod enc P w base spare held n f0.type [v0] = some y0 ∧ DataW.trod enc P w base spare held n f1.type [v1] = some y1 ∧ DataW.trod enc P w base spare held n f2.type [v2] = some y2 ∧
      DataW.trod enc P w base spare held n f3.type [v3] = some y3 ∧ DataW.trod enc P w base spare held n f4.type [v4] = some y4 ∧ DataW.trod enc P w base spare held n f5.type [v5] = some y5 := by
  obtain ⟨cs, rfl, hsz⟩ := okWide_struct hs hv
  obtain ⟨l⟩ := cs
  match l, hsz.trans hC with
  | [c0, c1, c2, c3, c4, c5], _ =>
    obtain ⟨fuel, hf⟩ := h
    obtain ⟨xs, n, _, hx, _, hlen, hg⟩ := DataW.trod_struct hs hf
    match xs, hlen with
    | [y0, y1, y2, y3, y4, y5], _ =>
      obtain ⟨o0, k0⟩ := hone_of hone 0 f0 rfl
      obtain ⟨o1, k1⟩ := hone_of hone 1 f1 rfl
      obtain ⟨o2, k2⟩ := hone_of hone 2 f2 rfl
      obtain ⟨o3, k3⟩ := hone_of hone 3 f3 rfl
      obtain ⟨o4, k4⟩ := hone_of hone 4 f4 rfl
      obtain ⟨o5, k5⟩ := hone_of hone 5 f5 rfl
      exact ⟨c0, c1, c2, c3, c4, c5, y0, y1, y2, y3, y4, y5, n, rfl, by simpa [Value.cells, o0, k0] using hg 0 f0 rfl, by simpa [Value.cells, o1, k1] using hg 1 f1 rfl, by simpa [Value.cells, o2, k2] using hg 2 f2 rfl,
        by simpa [Value.cells, o3, k3] using hg 3 f3 rfl, by simpa [Value.cells, o4, k4] using hg 4 f4 rfl, by simpa [Value.cells, o5, k5] using hg 5 f5 rfl⟩

set_option maxRecDepth 100000 in
/-- A message by value. -/
theorem open_msg {r : Reach} {b0 : Nat} {v : Value} {d : DataW H} {p : List MemPlace} (hv : Value.okWide Tryz.prog w r b0 58 v) (h : DataW.Trod enc Tryz.prog w base spare held 58 v d p) :
    ∃ (m : M) (a : Option Addr) (cap : Nat), v = .agg #[.int .i64 m.kind, .int .i64 m.frm, .int .i64 m.inc, .int .i64 m.seq, .int .i64 m.tgt, .slice a m.ups.length cap] ∧ m.ups.length ≤ maxLen ∧ KeysAt w a m.ups ∧ m.fit := by
  obtain ⟨c0, c1, c2, c3, c4, c5, y0, y1, y2, y3, y4, y5, n, rfl, g0, g1, g2, g3, g4, g5⟩ := fields6 Tryz.underlying58 (by kernel_rfl) (by kernel_rfl) hv h
  obtain ⟨x0, rfl, f0⟩ := at_int g0
  obtain ⟨x1, rfl, f1⟩ := at_int g1
  obtain ⟨x2, rfl, f2⟩ := at_int g2
  obtain ⟨x3, rfl, f3⟩ := at_int g3
  obtain ⟨x4, rfl, f4⟩ := at_int g4
  obtain ⟨a, l, cap, e5, hl, hk, hfit⟩ := open_keys g5
  simp only [List.cons.injEq, and_true] at e5
  subst e5
  exact ⟨⟨x0, x1, x2, x3, x4, l⟩, a, cap, rfl, hl, hk, f0, f1, f2, f3, f4, hfit⟩
end
end Go.Proofs.YtfngdplkcppabaaGreat
namespace Go.Proofs.YtfngdplkcppabaaGreat
open Go.Joins Go.ChangeShapes Go.WideShapes Go.RowKit Go.Deep

/-- A list out of what is known of each place. -/
theorem list_of {α : Type} {n : Nat} {R : Nat → α → Prop} (h : ∀ i, i < n → ∃ a, R i a) : ∃ l : List α, l.length = n ∧ ∀ i a, l[i]? = some a → R i a := by
  refine ⟨List.ofFn (fun i : Fin n => Classical.choose (h i.1 i.2)), by simp, fun i a hi => ?_⟩
  rw [List.getElem?_ofFn] at hi
  split at hi
  · rename_i hl
    simp only [Option.some.injEq] at hi
    subst hi
    exact Classical.choose_spec (h i hl)
  · cases hi
/-- A raw message and where its keys lie. -/
structure RM where
  m : M
  a : Option Addr
  cap : Nat
def RM.cells (q : RM) : List Value := [.int .i64 q.m.kind, .int .i64 q.m.frm, .int .i64 q.m.inc, .int .i64 q.m.seq, .int .i64 q.m.tgt, .slice q.a q.m.ups.length q.cap]
def RawsAt (w : World) (a : Option Addr) (l : List RM) : Prop :=
  ∀ i q, l[i]? = some q → ∃ b off, a = some ⟨b, off, none⟩ ∧ b < w.heap.size ∧ ∀ (j : Nat) v, q.cells[j]? = some v → w.cell? ⟨b, off + i * 6 + j, none⟩ = some v
def RM.Fit (w : World) (q : RM) : Prop := q.m.ups.length ≤ maxLen ∧ KeysAt w q.a q.m.ups ∧ q.m.fit

section
variable {H : Type} {enc : TypeId × Value → H} {w : World} {base : Nat} {spare : Nat → Bool} {held : Bool}

theorem open_strs {fuel : Nat} {cs : List Value} {x : DataW H × List MemPlace} (h : DataW.trod enc Tryz.prog w base spare held fuel 54 cs = some x) :
    ∃ (a : Option Addr) (l : List ByteArray) (cap : Nat), cs = [.slice a l.length cap] ∧ l.length ≤ maxLen ∧ CellsAt w a (l.map Value.string) ∧ ∀ s ∈ l, s.size ≤ maxLen := by
  rcases open_slice Tryz.underlying54 h with ⟨rfl, _⟩ | ⟨a, len, cap, m, n, D, Pl, hcs, hb, hl, hm, hmm, hx, hi⟩
  · exact ⟨none, [], 0, rfl, by simp, fun i k hk => (by simp at hk), fun k hk => (by simp at hk)⟩
  · have hlm : len ≤ m := by rw [hmm]; split <;> omega
    have elem : ∀ i, i < len → ∃ s : ByteArray, s.size ≤ maxLen ∧ w.cell? (a.add i) = some (.string s) := by
      intro i hil
      obtain ⟨cs', hc, ht⟩ := hi i (by omega)
      obtain ⟨s, e, _, hs⟩ := DataW.trod_string Tryz.underlying9 ht
      subst e
      rw [show Tryz.prog.cellsOf 9 = 1 by kernel_rfl] at hc
      obtain ⟨_, hcl, hat⟩ := World.cells?_some hc
      have := hat 0 (by omega)
      rw [Nat.mul_one] at this
      refine ⟨s, hs, ?_⟩
      rw [show a.add i = (a.add i).add 0 by unfold Addr.add; simp]
      simpa using this
    obtain ⟨l, hl1, hl2⟩ := list_of elem
    subst hl1
    refine ⟨some a, l, cap, hcs, by omega, fun i v hv => ?_, fun s hs => ?_⟩
    · rw [List.getElem?_map] at hv
      obtain ⟨s, hs, rfl⟩ := Option.map_eq_some_iff.1 hv
      have h0 : 0 < l.length := by
        rcases Nat.eq_zero_or_pos l.length with h0 | h0
        · rw [List.length_eq_zero_iff.1 h0] at hs; simp at hs
        · exact h0
      obtain ⟨hsp, hlt⟩ := spot_none (hl2 0 l[0] (List.getElem?_eq_getElem h0)).2
      obtain ⟨b, off, sp⟩ := a
      have e0 : (⟨b, off, sp⟩ : Addr).add 0 = ⟨b, off, sp⟩ := by unfold Addr.add; simp
      rw [e0] at hsp hlt
      simp only at hsp hlt
      subst hsp
      have := (hl2 i s hs).2
      rw [add_plain] at this
      exact ⟨b, off, rfl, hlt, this⟩
    · obtain ⟨i, hi⟩ := List.mem_iff_getElem?.1 hs
      exact (hl2 i s hi).1

theorem open_raws {fuel : Nat} {cs : List Value} {x : DataW H × List MemPlace} (h : DataW.trod enc Tryz.prog w base spare held fuel 56 cs = some x) :
    ∃ (a : Option Addr) (l : List RM) (cap : Nat), cs = [.slice a l.length cap] ∧ l.length ≤ maxLen ∧ RawsAt w a l ∧ ∀ q ∈ l, q.Fit w := by
  rcases open_slice Tryz.underlying56 h with ⟨rfl, _⟩ | ⟨a, len, cap, m, n, D, Pl, hcs, hb, hl, hm, hmm, hx, hi⟩
  · exact ⟨none, [], 0, rfl, by simp, fun i k hk => (by simp at hk), fun k hk => (by simp at hk)⟩
  · have hlm : len ≤ m := by rw [hmm]; split <;> omega
    have elem : ∀ i, i < len → ∃ q : RM, q.Fit w ∧ ∀ (j : Nat) v, q.cells[j]? = some v → w.cell? (a.add (i * 6 + j)) = some v := by
      intro i hil
      obtain ⟨n', hf⟩ := elems_of Tryz.underlying58 (by kernel_rfl) (by kernel_rfl) (hi i (by omega))
      obtain ⟨v0, y0, c0, t0⟩ := hf 0 _ rfl
      obtain ⟨v1, y1, c1, t1⟩ := hf 1 _ rfl
      obtain ⟨v2, y2, c2, t2⟩ := hf 2 _ rfl
      obtain ⟨v3, y3, c3, t3⟩ := hf 3 _ rfl
      obtain ⟨v4, y4, c4, t4⟩ := hf 4 _ rfl
      obtain ⟨v5, y5, c5, t5⟩ := hf 5 _ rfl
      obtain ⟨x0, rfl, f0⟩ := at_int t0
      obtain ⟨x1, rfl, f1⟩ := at_int t1
      obtain ⟨x2, rfl, f2⟩ := at_int t2
      obtain ⟨x3, rfl, f3⟩ := at_int t3
      obtain ⟨x4, rfl, f4⟩ := at_int t4
      obtain ⟨a5, l5, cap5, e5, hl5, hk5, hfit⟩ := open_keys t5
      simp only [List.cons.injEq, and_true] at e5
      subst e5
      refine ⟨⟨⟨x0, x1, x2, x3, x4, l5⟩, a5, cap5⟩, ⟨hl5, hk5, f0, f1, f2, f3, f4, hfit⟩, fun j v hv => ?_⟩
      simp only [RM.cells] at hv
      rcases j with _ | _ | _ | _ | _ | _ | j
      · simp at hv; subst hv; exact c0
      · simp at hv; subst hv; exact c1
      · simp at hv; subst hv; exact c2
      · simp at hv; subst hv; exact c3
      · simp at hv; subst hv; exact c4
      · simp at hv; subst hv; exact c5
      · simp at hv
    obtain ⟨l, hl1, hl2⟩ := list_of elem
    subst hl1
    refine ⟨some a, l, cap, hcs, by omega, fun i q hq => ?_, fun q hq => ?_⟩
    · have h0 : 0 < l.length := by
        rcases Nat.eq_zero_or_pos l.length with h0 | h0
        · rw [List.length_eq_zero_iff.1 h0] at hq; simp at hq
        · exact h0
      obtain ⟨hsp, hlt⟩ := spot_none ((hl2 0 l[0] (List.getElem?_eq_getElem h0)).2 0 _ rfl)
      obtain ⟨b, off, sp⟩ := a
      have e0 : (⟨b, off, sp⟩ : Addr).add (0 * 6 + 0) = ⟨b, off, sp⟩ := by unfold Addr.add; simp
      rw [e0] at hsp hlt
      simp only at hsp hlt
      subst hsp
      refine ⟨b, off, rfl, hlt, fun j v hv => ?_⟩
      have := (hl2 i q hq).2 j v hv
      rw [add_plain] at this
      rw [Nat.add_assoc]; exact this
    · obtain ⟨i, hi⟩ := List.mem_iff_getElem?.1 hq
      exact (hl2 i q hi).1
end
end Go.Proofs.YtfngdplkcppabaaGreat
