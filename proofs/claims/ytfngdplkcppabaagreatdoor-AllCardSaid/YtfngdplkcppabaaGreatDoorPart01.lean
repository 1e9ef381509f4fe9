/-
  Texts of the proof: Laid, Base, PlainA, Put, Bytes, Take, Whole. No condition.
-/
import Derived.Test.YtfngdplkcppabaaGreatDoorCards
import Derived.Test.YtfngdplkcppabaaGreatDoorTie
import Derived.WalkKit
import Derived.ProofKit
import Derived.OpenShut
import Derived.LaidLaws
import Derived.LaidHandle
import Derived.RowKitTokens
import Derived.Deep.DeepHandedRow
import Derived.Below
import Derived.Lib.Hide
import Derived.Test.YtfngdplkcppabaaGreatDoorProg
import Derived.Deep.RegionLaw
import Derived.Maps.AppendAt
import Derived.Deep.DeepMust
set_option linter.all false
set_option maxRecDepth 100000
set_option maxHeartbeats 4000000
namespace Go.Proofs.YtfngdplkcppabaaGreatDoor
theorem Hd {p : Prop} (h : p) : Go.RowKit.Hid p := Go.Lib.hid h
end Go.Proofs.YtfngdplkcppabaaGreatDoor
namespace Go.Proofs.YtfngdplkcppabaaGreatDoor
open Go.ChangeShapes Go.WideShapes Go.ChangeAt Go.RowKit
theorem own : ownKnob Tryz.prog.godebug = none := by kernel_rfl
theorem laid_et : Tryz.prog.globalNamed "errors.errorType" = some 0 := by kernel_rfl
theorem laid_rt : (Tryz.prog.cutTypes.find? (·.1 == "internal/reflectlite.rtype")).map (·.2) = some 219 := by kernel_rfl
theorem laid_oneRow : ((List.range 306).filter fun t => Tryz.prog.rowNamed t [101, 114, 114, 111, 114]) = [64] := by kernel_rfl
theorem laid_size : Tryz.prog.types.size = 306 := by kernel_rfl
theorem handle_of_laid {W : World} (h : laidMetH Tryz.prog [("errors.errorType", Rows.laid_errors_errorType)] W) : W.cell? ⟨0, 0, none⟩ = some (.iface 219 (.agg #[.pointer (some ⟨1, 64, none⟩)])) := by
 have h' : laidMet Tryz.prog [] W /\ handlesMet Tryz.prog [("errors.errorType", Rows.laid_errors_errorType)] W := h; obtain ⟨name, u, ty, e1, e2, e3, e4, e5⟩ := h'.2 _ (List.mem_singleton.2 rfl); have en : name = [101, 114, 114, 111, 114] := (Option.some.inj e1).symm; subst en; obtain rfl := Option.some.inj (laid_rt.symm.trans e2); have hm : ty ∈ (List.range 306).filter fun t => Tryz.prog.rowNamed t [101, 114, 114, 111, 114] := List.mem_filter.2 ⟨List.mem_range.2 (by rw [<- laid_size]; exact e3), e4⟩
 rw [laid_oneRow] at hm; obtain rfl := List.mem_singleton.1 hm; have hh : typeHandle Tryz.prog 64 = .pointer (some ⟨1, 64, none⟩) := by kernel_rfl
 rw [hh] at e5
 simpa using World.var?_cell laid_et e5 0
noncomputable def laidWorld (os : Os) : World :=
 let w0 := World.holding Tryz.prog os ⟨#[], #[], []⟩
 { w0 with heap := w0.heap.modify 0 fun
   | .cells _ t frozen => .cells #[.iface 219 (.agg #[.pointer (some ⟨1, 64, none⟩)])] t frozen
   | o => o }
theorem laidWorld_met (os : Os) (args : Array Value) : laidMetH Tryz.prog [("errors.errorType", Rows.laid_errors_errorType)] ((laidWorld os).forCall (fun _ _ => 0) ⟨#[], args, []⟩).memory :=
 laidMetH_of_parts (laidMet_nil _ _) (by kernel_rfl)
end Go.Proofs.YtfngdplkcppabaaGreatDoor
namespace Go.Proofs.YtfngdplkcppabaaGreatDoor
open Go.RowKit
structure K where
 id : Int
 inc : Int
 st : Int
 deriving DecidableEq
structure M where
 kind : Int
 frm : Int
 inc : Int
 seq : Int
 tgt : Int
 ups : List K
def K.agg (k : K) : Value := .agg #[.int .i64 k.id, .int .i64 k.inc, .int .i64 k.st]
def Jq (w : World) (a : Option Addr) (l : List K) : Prop :=
 ∀ i k, l[i]? = some k -> ∃ b off, a = some ⟨b, off, none⟩ /\ b < w.heap.size /\
  w.cell? ⟨b, off + i * 3, none⟩ = some (.int .i64 k.id) /\ w.cell? ⟨b, off + i * 3 + 1, none⟩ = some (.int .i64 k.inc) /\ w.cell? ⟨b, off + i * 3 + 2, none⟩ = some (.int .i64 k.st)
theorem Jq.below {w w' : World} {a : Option Addr} {l : List K} (h : Jq w a l) (hb : Below w.heap.size w w') : Jq w' a l := by
 intro i k hk; obtain ⟨b, off, e, hlt, h0, h1, h2⟩ := h i k hk; exact ⟨b, off, e, Nat.lt_of_lt_of_le hlt hb.size, by rw [hb.cell hlt]; exact h0, by rw [hb.cell hlt]; exact h1, by rw [hb.cell hlt]; exact h2⟩
def K.fits (k : K) : Prop := (-9223372036854775808 <= k.id /\ k.id <= 9223372036854775807) /\ (-9223372036854775808 <= k.inc /\ k.inc <= 9223372036854775807) /\ (-9223372036854775808 <= k.st /\ k.st <= 9223372036854775807)
def Kl (n lo hi : Int) : Bool := decide (lo <= n) && decide (n <= hi)
def Jy (k : Int) : Int := if k = 1 \/ k = 2 \/ k = 3 then 4 else if k = 4 \/ k = 5 then 8 else -1
def keyB (k : K) : Bool := Kl k.id 1 250 && Kl k.inc 1 1073741824 && Kl k.st 1 4
def tgtB (kind tgt : Int) : Bool := if Jy kind = 8 then tgt == 0 else Kl tgt 1 250
def Jn (m : M) : Bool :=
 tgtB m.kind m.tgt && !decide ((m.ups.length : Int) > Jy m.kind) && Kl m.frm 1 250 && Kl m.inc 1 1073741824 && Kl m.seq 0 4294967295 && m.ups.all keyB
/-! ### A frame: what may have turned is what S says; all else lies as it lay; no block has gone. -/
structure Chg (S : Nat -> Obj -> Prop) (w w' : World) : Prop where
 os : w'.os = w.os
 tape : w'.tape = w.tape
 output : w'.output = w.output
 size : w.heap.size <= w'.heap.size
 kept : ∀ k o, w.heap[k]? = some o -> ¬ S k o -> w'.heap[k]? = some o
theorem Chg.refl (S : Nat -> Obj -> Prop) (w : World) : Chg S w w := ⟨rfl, rfl, rfl, Nat.le_refl _, fun _ _ h _ => h⟩
theorem Chg.trans {S : Nat -> Obj -> Prop} {a b c : World} (h : Chg S a b) (k : Chg S b c) : Chg S a c :=
 ⟨k.os.trans h.os, k.tape.trans h.tape, k.output.trans h.output, Nat.le_trans h.size k.size, fun i o ho hs => k.kept i o (h.kept i o ho hs) hs⟩
theorem Chg.mono {S S' : Nat -> Obj -> Prop} {w w' : World} (h : Chg S w w') (hS : ∀ k o, k < w.heap.size -> S k o -> S' k o) : Chg S' w w' :=
 ⟨h.os, h.tape, h.output, h.size, fun k o ho hs => h.kept k o ho (fun hk => hs (hS k o (Array.getElem?_eq_some_iff.1 ho).1 hk))⟩
theorem Chg.drew {S : Nat -> Obj -> Prop} {a w : World} (h : Chg S a w) : Chg S a w.drew := ⟨h.os, h.tape, h.output, h.size, h.kept⟩
theorem Kb {w : World} {k : Nat} {o : Obj} (h : w.heap[k]? = some o) : k < w.heap.size := (Array.getElem?_eq_some_iff.1 h).1
theorem Chg.alloc {S : Nat -> Obj -> Prop} {a w : World} (h : Chg S a w) (o : Obj) : Chg S a (w.alloc o) :=
 h.trans ⟨rfl, rfl, rfl, by simp, fun k o' hk _ => by rw [Below.heap_alloc _ _ _ (Kb hk)]; exact hk⟩
theorem Chg.setCell {S : Nat -> Obj -> Prop} {a w : World} (h : Chg S a w) {p : Addr} (u : Value) (hp : ∀ o, w.heap[p.block]? = some o -> S p.block o) : Chg S a (w.setCell p u) :=
 h.trans ⟨rfl, rfl, rfl, by simp, fun k o hk hs => by
  rw [Below.heap_setCell _ _ _ _ (fun e => hs (by subst e; exact hp o hk))]; exact hk⟩
theorem Chg.grown {S : Nat -> Obj -> Prop} {a w w' : World} {row : Option Nat} (h : Chg S a w) (hg : w.grownBy w' row) (hr : ∀ k o, row = some k -> w.heap[k]? = some o -> S k o) : Chg S a w' :=
 h.trans ⟨hg.os, hg.tape, hg.output, hg.size, fun k o hk hs => by
  rw [hg.block k (Kb hk) (fun e => hs (hr k o e.symm hk))]; exact hk⟩
theorem Chg.below {S : Nat -> Obj -> Prop} {B : Nat} {w w' : World} (h : Chg S w w') (hB : B <= w.heap.size) (hS : ∀ k o, S k o -> B <= k) : Below B w w' :=
 ⟨h.os, h.tape, h.output, h.size, fun k hk => by
  have hlt : k < w.heap.size := by omega
  obtain ⟨o, ho⟩ : ∃ o, w.heap[k]? = some o := ⟨w.heap[k], Array.getElem?_eq_getElem hlt⟩; rw [ho, h.kept k o ho (fun hs => by have := hS k o hs; omega)]⟩
theorem Jg {w w' : World} {o : Obj} (h : Below w.heap.size (w.alloc o) w') : Below w.heap.size w w' := ((Below.refl _ w).alloc (Nat.le_refl _) o).trans h
theorem Ka {w : World} {b : Nat} {c : Array Value} {t : TypeId} {f : Nat × Nat} (h : w.heap[b]? = some (.cells c t f)) (k : Nat) : w.cell? ⟨b, k, none⟩ = c[k]? := by
 simp [World.cell?, h]
theorem Jh (w : World) (o : Obj) {n : Nat} (h : n = w.heap.size) : (w.alloc o).heap[n]? = some o := by rw [h]; exact heap_alloc_new w o
theorem Kp {w : World} {k : Nat} {o : Obj} (o' : Obj) (h : w.heap[k]? = some o) : (w.alloc o').heap[k]? = some o := by
 rw [Below.heap_alloc _ _ _ (Kb h)]; exact h
theorem Kc (w : World) (o : Obj) : (w.alloc o).heap[w.heap.size]? = some o := heap_alloc_new w o
theorem Kj (w : World) (b i : Nat) (v : Value) (k : Nat) (h : k ≠ b) : (w.setCell ⟨b, i, none⟩ v).heap[k]? = w.heap[k]? := Below.heap_setCell w ⟨b, i, none⟩ v k h
theorem Kf {w : World} {b i : Nat} {v : Value} {c : Array Value} {t : TypeId} {f : Nat × Nat} (h : w.heap[b]? = some (.cells c t f)) :
  (w.setCell ⟨b, i, none⟩ v).heap[b]? = some (.cells (c.setIfInBounds i v) t f) := by
 simp [World.setCell, Array.getElem?_modify, h]
theorem Kt (w : World) (l : List Value) (t : TypeId) {n : Nat} (hn : n = w.heap.size) : ∀ j u, l[j]? = some u -> (w.alloc (.cells l.toArray t)).cell? ((⟨n, 0, none⟩ : Addr).add j) = some u := by
 intro j u h; have e : (⟨n, 0, none⟩ : Addr).add j = ⟨n, j, none⟩ := by unfold Addr.add; split <;> simp_all
 rw [e, Ka (Jh w _ hn) j]
 simpa using h
theorem Jl {w : World} {B B' e s n : Nat} {v : Value} {xs : List Value} (h : w.ownsRow B e s v n xs) (hB : B' <= B) : w.ownsRow B' e s v n xs := by
 refine ⟨h.1, ?_⟩; rcases h.2 with hn | ⟨g, cap, cur, rfl, hb, rest⟩
 · exact .inl hn
 · exact .inr ⟨g, cap, cur, rfl, by omega, rest⟩
theorem Ks {w w' : World} {B e s n : Nat} {v : Value} {xs : List Value} (h : w.ownsRow B e s v n xs) (hb : Below w.heap.size w w') : w'.ownsRow B e s v n xs := by
 refine ⟨h.1, ?_⟩; rcases h.2 with hn | ⟨g, cap, cur, rfl, hB, hg, rest⟩
 · exact .inl hn
 · exact .inr ⟨g, cap, cur, rfl, hB, (hb.block g (Kb hg)).trans hg, rest⟩
theorem six_set {w : World} {b : Nat} {a0 a1 a2 a3 a4 a5 : Value} {t : TypeId} {f : Nat × Nat} (h : w.heap[b]? = some (.cells #[a0, a1, a2, a3, a4, a5] t f)) (v0 v1 v2 v3 v4 v5 : Value) {R : World -> Prop}
  (hR : ∀ W, W.heap[b]? = some (.cells #[v0, v1, v2, v3, v4, v5] t f) -> Chg (fun k _ => k = b) w W -> R W) :
  R ((((((w.setCell ⟨b, 0, none⟩ v0).setCell ⟨b, 1, none⟩ v1).setCell ⟨b, 2, none⟩ v2).setCell ⟨b, 3, none⟩ v3).setCell ⟨b, 4, none⟩ v4).setCell ⟨b, 5, none⟩ v5) :=
 hR _ (Kf (Kf (Kf (Kf (Kf (Kf h))))))
  ((((((((Chg.refl (fun k _ => k = b) w).setCell _ (fun _ _ => rfl)).setCell _ (fun _ _ => rfl)).setCell _ (fun _ _ => rfl)).setCell _ (fun _ _ => rfl)).setCell _ (fun _ _ => rfl)).setCell _ (fun _ _ => rfl)))
theorem Kq {S : Nat -> Obj -> Prop} {w w' : World} {B e s n : Nat} {v : Value} {xs : List Value} (h : w.ownsRow B e s v n xs) (hc : Chg S w w') (hS : ∀ g o, v.ownBlock = some g -> ¬ S g o) : w'.ownsRow B e s v n xs := by
 refine ⟨h.1, ?_⟩; rcases h.2 with hn | ⟨g, cap, cur, rfl, hb, hg, rest⟩
 · exact .inl hn
 · exact .inr ⟨g, cap, cur, rfl, hb, hc.kept g _ hg (hS g _ rfl), rest⟩
theorem Kr {w : World} {b : Nat} {c : Array Value} {t : TypeId} (h : w.heap[b]? = some (.cells c t (0, 0))) (k : Nat) : w.frozen? ⟨b, k, none⟩ = false := by
 simp [World.frozen?, h]
theorem step_append_own {P : Program} {ops : Array Oper} {o : Oper} {a : Act} {w : World} {K : Act -> World -> Prop} {Q : Exit -> Act -> World -> Prop} {E : Prop}
  (hg : o.guard = none) (s x : Operand) (t : TypeId) (hop : o.op = Op.call { callee := Callee.builtin Builtin.append, args := #[s, x], argTypes := #[t, t] })
  (base : Nat) (e : TypeId) (i : TypeInfo) (z : Value) (size bytes : Nat) (ht : P.underlying t = some (.slice e)) (hi : P.info? e = some i) (hz : i.zero = some z)
  (hsize : i.size = size) (hby : i.bytes = bytes) (hzs : z.cells.size = size) (hsz : 0 < size)
  (v : Value) (n : Nat) (xs : List Value) (hs : a.eval s = v) (hown : w.ownsRow base e size v n xs)
  (ad : Addr) (m c : Nat) (news : List Value) (hx : a.eval x = .slice (some ad) m c) (hl : news.length = m * size) (hnews : ∀ j u, news[j]? = some u -> w.cell? (ad.add j) = some u) (h1 : ∀ u ∈ news, u.oneCell' = true)
  (h63 : n + m <= maxLen) (hbytes : (n + m) * bytes <= 140737488355328) (hbase : base <= w.heap.size)
  (h : ∀ v' w', w'.ownsRow base e size v' (n + m) (xs ++ news) -> w.grownBy w' v.ownBlock -> (v' = .slice none 0 0 ↔ v = .slice none 0 0 /\ m = 0) -> K (a.put o.dst v') w') :
  if Region.wanted o (yielded ops a.tmps) = true then Oper.wp P o a w K Q else E := by
 have hw : Region.wanted o (yielded ops a.tmps) = true := by simp [Region.wanted, hg]
 rw [if_pos hw]; exact wp_append_own w s x t hop base e i z size bytes ht hi hz hsize hby hzs hsz v n xs hs hown ad m c news hx hl hnews h1 h63 hbytes hbase h
theorem within_any (n lo hi : Int) (w : World) :
  Calls Tryz.prog 77 #[.int .i64 n, .int .i64 lo, .int .i64 hi] w fun e w' => e = .returned (.bool (Kl n lo hi)) /\ w = w' := by
 by_cases h1 : lo <= n
 · by_cases h2 : n <= hi
   all_goals
    go_enter Tryz.func77, Tryz.ntmps77; go_wp2; go_ret
    exact ⟨by simp [Kl, *]; try omega, rfl⟩
 · go_enter Tryz.func77, Tryz.ntmps77
   go_wp2; go_ret
   exact ⟨by simp [Kl]; omega, rfl⟩
theorem room_any (k : Int) (w : World) :
  Calls Tryz.prog 76 #[.int .i64 k] w fun e w' => e = .returned (.int .i64 (Jy k)) /\ w = w' := by
 by_cases hk : k = 1 \/ k = 2 \/ k = 3 \/ k = 4 \/ k = 5
 · rcases hk with rfl | rfl | rfl | rfl | rfl
   all_goals
    go_enter Tryz.func76, Tryz.ntmps76; go_wp2; go_ret
    exact ⟨rfl, rfl⟩
 have e : Jy k = -1 := by unfold Jy; rw [if_neg (by omega), if_neg (by omega)]
 have E : Hid (Jy k = -1) := e; clear e; have b1 : (k == 1) = false := by rw [beq_eq_false_iff_ne]; omega
 have b2 : (k == 2) = false := by rw [beq_eq_false_iff_ne]; omega
 have b3 : (k == 3) = false := by rw [beq_eq_false_iff_ne]; omega
 have b4 : (k == 4) = false := by rw [beq_eq_false_iff_ne]; omega
 have b5 : (k == 5) = false := by rw [beq_eq_false_iff_ne]; omega
 clear hk; go_enter Tryz.func76, Tryz.ntmps76; go_wp2; go_ret
 exact ⟨by rw [E.out]; rfl, rfl⟩
def be : Nat -> Int -> List Int
 | 0, _ => []
 | c + 1, n => n / 2 ^ (8 * c) % 256 :: be c n
theorem be_length (c : Nat) (n : Int) : (be c n).length = c := by induction c <;> simp [be, *]
theorem flat_len (wd : Nat) (l : List Int) : (l.flatMap (be wd)).length = wd * l.length := by
 induction l with
 | nil => simp
 | cons a l ih => rw [List.flatMap_cons, List.length_append, ih, be_length, List.length_cons, Nat.mul_succ]; omega
def byteV (b : Int) : Value := .int .u8 b
def SW (B p : Nat) (k : Nat) (o : Obj) : Prop := k = p \/ B <= k /\ ∃ c f, o = .cells c 5 f
def WAt (B p lb : Nat) (L : Obj) (w0 wr : World) (v : Value) (xs : List Value) : Prop :=
 wr.heap[p]? = some (.cells #[v] 155 (0, 0)) /\ wr.ownsRow B 5 1 v xs.length xs /\ wr.heap[lb]? = some L /\ Chg (SW B p) w0 wr
theorem cells_ne {w : World} {b b' : Nat} {c c' : Array Value} {t t' : TypeId} {f f' : Nat × Nat} (h : w.heap[b]? = some (.cells c t f)) (h' : w.heap[b']? = some (.cells c' t' f')) (ht : t ≠ t') : b ≠ b' := by
 rintro rfl; rw [h] at h'; simp only [Option.some.injEq, Obj.cells.injEq] at h'; exact ht h'.2.1
theorem ownBlock_of {w : World} {B e s : Nat} {v : Value} {n : Nat} {xs : List Value} (h : w.ownsRow B e s v n xs) {b : Nat} {c : Array Value} {t : TypeId} {f : Nat × Nat}
  (hb : w.heap[b]? = some (.cells c t f)) (ht : t ≠ e) : v.ownBlock ≠ some b := by
 rcases h.2 with ⟨rfl, _⟩ | ⟨g, cap, cur, rfl, _, hg, _⟩
 · simp [Value.ownBlock]
 · simp only [Value.ownBlock, ne_eq, Option.some.injEq]
   exact cells_ne hg hb (fun e' => ht e'.symm)
theorem own_SW {w : World} {B p n : Nat} {v : Value} {xs : List Value} (h : w.ownsRow B 5 1 v n xs) {k : Nat} {o : Obj} (hk : v.ownBlock = some k) (ho : w.heap[k]? = some o) : SW B p k o := by
 rcases h.2 with ⟨rfl, _⟩ | ⟨g, cap, cur, rfl, hB, hg, _⟩
 · simp [Value.ownBlock] at hk
 · simp only [Value.ownBlock, Option.some.injEq] at hk
   subst hk; rw [hg] at ho; exact .inr ⟨hB, cur, _, (Option.some.inj ho).symm⟩
theorem Kg {w : World} {B e s : Nat} {v : Value} {n : Nat} {xs : List Value} (h : w.ownsRow B e s v n xs) : ∃ a c, v = .slice a n c := by
 rcases h.2 with ⟨rfl, rfl⟩ | ⟨g, cap, cur, rfl, _⟩
 · exact ⟨_, _, rfl⟩
 · exact ⟨_, _, rfl⟩
theorem WAt.after {B p lb : Nat} {cs : Array Value} {w0 wr w1 : World} {v : Value} {xs : List Value} {o : Obj}
  (h : WAt B p lb (.cells cs 3 (0, 0)) w0 wr v xs) (hgr : (wr.alloc o).drew.grownBy w1 v.ownBlock) :
  w1.heap[p]? = some (.cells #[v] 155 (0, 0)) /\ w1.heap[lb]? = some (.cells cs 3 (0, 0)) /\ w1.cell? ⟨p, 0, none⟩ = some v /\ w1.frozen? ⟨p, 0, none⟩ = false := by
 obtain ⟨h1, h2, h3, h4⟩ := h; have hp := (Array.getElem?_eq_some_iff.1 h1).1; have hl := (Array.getElem?_eq_some_iff.1 h3).1
 have e1 : w1.heap[p]? = some (.cells #[v] 155 (0, 0)) := by
  rw [hgr.block p (by simp; omega) (fun e => ownBlock_of h2 h1 (by decide) e.symm)]
  show (wr.alloc o).heap[p]? = _
  rw [Below.heap_alloc _ _ _ hp]; exact h1
 have e2 : w1.heap[lb]? = some (.cells cs 3 (0, 0)) := by
  rw [hgr.block lb (by simp; omega) (fun e => ownBlock_of h2 h3 (by decide) e.symm)]
  show (wr.alloc o).heap[lb]? = _
  rw [Below.heap_alloc _ _ _ hl]; exact h3
 exact ⟨e1, e2, by simp [World.cell?, e1], by simp [World.frozen?, e1]⟩
theorem WAt.step {B p lb : Nat} {cs : Array Value} {w0 wr w1 : World} {v v' : Value} {xs : List Value} {o : Obj} {b : Value}
  (h : WAt B p lb (.cells cs 3 (0, 0)) w0 wr v xs) (hown : w1.ownsRow B 5 1 v' (xs.length + 1) (xs ++ [b])) (hgr : (wr.alloc o).drew.grownBy w1 v.ownBlock) :
  WAt B p lb (.cells cs 3 (0, 0)) w0 (w1.setCell ⟨p, 0, none⟩ v') v' (xs ++ [b]) := by
 obtain ⟨e1, e2, _, _⟩ := h.after hgr; obtain ⟨h1, h2, h3, h4⟩ := h; have hne : lb ≠ p := cells_ne h3 h1 (by decide)
 refine ⟨?_, ?_, ?_, ?_⟩
 · have := heap_setCell_same w1 p 0 #[v] 155 v' e1
   simpa using this
 · refine World.ownsRow.kept (w := w1) (row := some p) (by simpa using hown) ⟨rfl, rfl, rfl, by simp, fun k _ hk => heap_setCell_other w1 ⟨p, 0, none⟩ k v' (fun e => hk (by simp [e]))⟩ (.inr (ownBlock_of hown e1 (by decide)))
 · rw [heap_setCell_other w1 ⟨p, 0, none⟩ lb v' hne]; exact e2
 · refine Chg.setCell ?_ v' (fun o _ => .inl rfl)
   exact Chg.grown (h4.alloc o).drew hgr (fun k o' hk ho => own_SW (h2.alloc o).drew hk ho)
theorem be_byte (a : Int) (q : Nat) : Value.int .u8 (IntKind.u8.wrap (a / 2 ^ (8 * (q : Int)).toNat)) = byteV (a / 2 ^ (8 * q) % 256) := by
 have : (8 * (q : Int)).toNat = 8 * q := by omega
 rw [this]; simp [byteV, IntKind.wrap, IntKind.bits, IntKind.signed]
theorem info_u8 : (Tryz.prog.info? 5).map (fun i => (i.zero, i.size, i.bytes)) = some (some (.int .u8 0), 1, 1) := by kernel_rfl
theorem put_any (p lb : Nat) (v : Value) (xs : List Value) (wd : Nat) (l : List Int) (B : Nat) (w0 w : World)
  (h : WAt B p lb (.cells (l.map (Value.int .i64)).toArray 3 (0, 0)) w0 w v xs) (hB : B <= p) (hw : wd <= 4) (hl : l.length <= 2) (hx : xs.length <= 1000000) :
  Calls Tryz.prog 78 #[.pointer (some ⟨p, 0, none⟩), .int .i64 wd, .slice (some ⟨lb, 0, none⟩) l.length l.length] w fun e w' =>
   e = .returned (.tuple #[]) /\ ∃ v', WAt B p lb (.cells (l.map (Value.int .i64)).toArray 3 (0, 0)) w0 w' v' (xs ++ (l.flatMap (be wd)).map byteV) := by
 have H := Hd h; clear h; go_enter Tryz.func78, Tryz.ntmps78; go_wp2; go_loopw [11] (fun i wr => ∃ (j : Nat) (v' : Value), j <= l.length /\ i = .int .i64 j /\ WAt B p lb (.cells (l.map (Value.int .i64)).toArray 3 (0, 0)) w0 wr v' (xs ++ ((l.take j).flatMap (be wd)).map byteV)) (fun i _ => l.length - (intOf i).toNat)
 case atStart => exact ⟨0, v, Nat.zero_le _, rfl, by simpa using H.out⟩
 case round =>
  obtain ⟨j, v', hj, rfl, hW⟩ := hrel; by_cases hlt : j < l.length
  · have hc : wr.cell? ⟨lb, j, none⟩ = some (.int .i64 l[j]) := by
     simp [World.cell?, hW.2.2.1, List.getElem?_eq_getElem hlt]
    obtain ⟨a, ha⟩ : ∃ a, l[j] = a := ⟨_, rfl⟩; rw [ha] at hc; have HA := Hd ha; clear ha; obtain ⟨ys, hys⟩ : ∃ ys, xs ++ ((l.take j).flatMap (be wd)).map byteV = ys := ⟨_, rfl⟩; rw [hys] at hW; have HY := Hd hys; have HW := Hd hW; clear hys hW; obtain ⟨wo, hwo⟩ : ∃ wo : World, wo = wr := ⟨_, rfl⟩; rw [<- hwo] at hc HW ⊢; clear hwo; go_wp2; go_loopw [8] (fun k wr => ∃ (c : Nat) (pre : List Int) (v' : Value), c <= wd /\ k = .int .i64 ((c : Int) - 1) /\ be wd a = pre ++ be c a /\ WAt B p lb (.cells (l.map (Value.int .i64)).toArray 3 (0, 0)) w0 wr v' (ys ++ pre.map byteV)) (fun k _ => (intOf k + 1).toNat)
    case atStart => exact ⟨wd, [], _, Nat.le_refl _, rfl, rfl, by simpa using HW.out⟩
    case round =>
     obtain ⟨c, pre, v2, hcw, rfl, hpre, hW2⟩ := hrel; have HP := Hd hpre; clear hpre; rcases c with _ | q
     · have hbe : be wd a = pre := by have := HP.out; simpa [be] using this
       go_wp2; go_roundw
       case rel => exact ⟨j + 1, _, by omega, by go_num, by
        have h1 := hW2; rw [<- hbe, <- HY.out, <- HA.out] at h1; rw [List.take_succ_eq_append_getElem hlt]; simp only [List.flatMap_append, List.flatMap_cons, List.flatMap_nil, List.append_nil, List.map_append, List.append_assoc] at h1 ⊢; exact h1⟩
       case measure => simp [intOf]; omega
     · have eq : ((q + 1 : Nat) : Int) - 1 = (q : Int) := by omega
       rw [eq]; clear eq; have hp' : wr.cell? ⟨p, 0, none⟩ = some v2 := by simp [World.cell?, hW2.1]
       have hpf : wr.frozen? ⟨p, 0, none⟩ = false := by simp [World.frozen?, hW2.1]
       have hpa : ∀ o, (wr.alloc o).cell? ⟨p, 0, none⟩ = some v2 := fun o => by rw [World.cell?_alloc_lt _ _ _ (World.block_lt_of_cell? _ _ hp')]; exact hp'
       have HW2 := Hd hW2; clear hW2; have hwr : IntKind.i64.wrap (8 * (q : Int)) = 8 * (q : Int) := IntWalk.i64_in _ (by omega)
       have h0 : 0 <= 8 * (q : Int) := by omega
       go_wp2; obtain ⟨i0, hi, hz0, hz1, hz2⟩ := info_parts info_u8; have hown := (HW2.out.2.1.alloc (.cells #[.int .u8 (IntKind.u8.wrap (a / 2 ^ (8 * (q : Int)).toNat))] 5)).drew
       have hnew : ∀ j u, [Value.int .u8 (IntKind.u8.wrap (a / 2 ^ (8 * (q : Int)).toNat))][j]? = some u -> (wr.alloc (.cells #[.int .u8 (IntKind.u8.wrap (a / 2 ^ (8 * (q : Int)).toNat))] 5)).drew.cell? ((⟨wr.heap.size, 0, none⟩ : Addr).add j) = some u :=
        fun j u h => cell_one_new wr _ _ j u h
       have HO := Hd hown; have HN := Hd hnew; clear hown hnew
       have hle : (ys ++ pre.map byteV).length + 1 <= 1000016 := by
        have h1 := HY.out; have h2 := congrArg List.length h1; have h3 := congrArg List.length HP.out; have h4 : wd * (l.take j).length <= 4 * 2 := Nat.mul_le_mul hw (by rw [List.length_take]; omega)
        simp only [List.length_append, List.length_map, flat_len, be_length] at h2 h3 ⊢; omega
       have k3 : (ys ++ pre.map byteV).length + 1 <= maxLen := by unfold maxLen; omega
       have k4 : ((ys ++ pre.map byteV).length + 1) * 1 <= 140737488355328 := by omega
       have k5 : B <= (wr.alloc (.cells #[.int .u8 (IntKind.u8.wrap (a / 2 ^ (8 * (q : Int)).toNat))] 5)).drew.heap.size := by
        have h1 := (Array.getElem?_eq_some_iff.1 HW2.out.1).1
        simp; omega
       have K3 := Hd k3; have K4 := Hd k4; have K5 := Hd k5; clear k3 k4 k5 hle; go_region_law (refine step_append_own rfl _ _ _ rfl B 5 i0 (.int .u8 0) 1 1 Tryz.underlying155 hi hz0 hz1 hz2 rfl (by decide) v2 _ _ rfl HO.out ⟨wr.heap.size, 0, none⟩ 1 1 _ rfl rfl HN.out (by simp [Value.oneCell']) K3.out K4.out K5.out ?_; intro v' w1 hown1 hgrow1 _; obtain ⟨ad', cp', rfl⟩ := Kg hown1; obtain ⟨_, _, hc1, hf1⟩ := HW2.out.after hgrow1)
       all_goals
        have hb := be_byte a q; go_wp2; go_roundw
        case rel => exact ⟨q, pre ++ [a / 2 ^ (8 * q) % 256], _, by omega, by go_num, by rw [HP.out]; simp [be], by have := HW2.out.step hown1 hgrow1; rw [hb] at this; simpa using this⟩
        case measure => simp [intOf]
  · have hj' : j = l.length := by omega
    go_wp2; go_end0
    exact ⟨rfl, v', by rw [hj', List.take_length] at hW; exact hW⟩
def W2 (B p : Nat) (w0 wr : World) (v : Value) (xs : List Value) : Prop :=
 wr.heap[p]? = some (.cells #[v] 155 (0, 0)) /\ wr.ownsRow B 5 1 v xs.length xs /\ Chg (SW B p) w0 wr
theorem W2.at {B p lb : Nat} {w0 w : World} {v : Value} {xs : List Value} {L : Obj} (h : W2 B p w0 w v xs) (hl : w.heap[lb]? = some L) : WAt B p lb L w0 w v xs := ⟨h.1, h.2.1, hl, h.2.2⟩
theorem WAt.two {B p lb : Nat} {w0 w : World} {v : Value} {xs : List Value} {L : Obj} (h : WAt B p lb L w0 w v xs) : W2 B p w0 w v xs := ⟨h.1, h.2.1, h.2.2.2⟩
theorem W2.alloc {B p : Nat} {w0 w : World} {v : Value} {xs : List Value} (h : W2 B p w0 w v xs) (o : Obj) : W2 B p w0 (w.alloc o) v xs := by
 have hp := (Array.getElem?_eq_some_iff.1 h.1).1; exact ⟨by rw [Below.heap_alloc _ _ _ hp]; exact h.1, h.2.1.alloc o, h.2.2.alloc o⟩
theorem put_two (p lb : Nat) (v : Value) (xs : List Value) (wd : Nat) (wi : Int) (a b : Int) (B : Nat) (w0 w : World)
  (h : W2 B p w0 w v xs) (hl : w.heap[lb]? = some (.cells #[.int .i64 a, .int .i64 b] 3 (0, 0))) (hB : B <= p) (hwi : wi = wd) (hw : wd <= 4) (hx : xs.length <= 1000000) :
  Calls Tryz.prog 78 #[.pointer (some ⟨p, 0, none⟩), .int .i64 wi, .slice (some ⟨lb, 0, none⟩) 2 2] w fun e w' =>
   ∃ v', e = .returned (.tuple #[]) /\ W2 B p w0 w' v' (xs ++ (be wd a ++ be wd b).map byteV) := by
 subst hwi; exact (put_any p lb v xs wd [a, b] B w0 w (h.at hl) hB hw (by simp) hx).mono fun e w' ⟨he, v', h'⟩ => ⟨v', he, by have := h'.two; simpa using this⟩
theorem put_one (p lb : Nat) (v : Value) (xs : List Value) (wd : Nat) (wi : Int) (a : Int) (B : Nat) (w0 w : World)
  (h : W2 B p w0 w v xs) (hl : w.heap[lb]? = some (.cells #[.int .i64 a] 3 (0, 0))) (hB : B <= p) (hwi : wi = wd) (hw : wd <= 4) (hx : xs.length <= 1000000) :
  Calls Tryz.prog 78 #[.pointer (some ⟨p, 0, none⟩), .int .i64 wi, .slice (some ⟨lb, 0, none⟩) 1 1] w fun e w' =>
   ∃ v', e = .returned (.tuple #[]) /\ W2 B p w0 w' v' (xs ++ (be wd a).map byteV) := by
 subst hwi; exact (put_any p lb v xs wd [a] B w0 w (h.at hl) hB hw (by simp) hx).mono fun e w' ⟨he, v', h'⟩ => ⟨v', he, by have := h'.two; simpa using this⟩
def keyBytes (k : K) : List Int := be 1 k.id ++ be 4 k.inc ++ be 1 k.st
def headBytes (kind frm inc seq tgt n : Int) : List Int := be 1 kind ++ be 1 frm ++ (be 4 inc ++ be 4 seq) ++ (be 1 tgt ++ be 1 n)
def Jr (m : M) : List Int := headBytes m.kind m.frm m.inc m.seq m.tgt m.ups.length ++ m.ups.flatMap keyBytes
theorem box_stays {B p : Nat} {w w' : World} {cs : Array Value} {t : TypeId} (h : Chg (SW B p) (w.alloc (.cells cs t)) w') (hp : w.heap.size ≠ p) (ht : t ≠ 5) (k : Nat) : w'.cell? ⟨w.heap.size, k, none⟩ = cs[k]? :=
 Ka (h.kept _ _ (heap_alloc_new w _) (by
  rintro (e | ⟨_, c, f, e⟩)
  · exact hp e
  · simp only [Obj.cells.injEq] at e; exact ht e.2.1)) k
theorem W2.root {B p : Nat} {w0 w : World} {v : Value} {xs : List Value} (h : W2 B p w0 w v xs) : W2 B p w w v xs := ⟨h.1, h.2.1, Chg.refl _ _⟩
theorem W2.onto {B p : Nat} {w0 w1 w : World} {v : Value} {xs : List Value} (h : W2 B p w1 w v xs) (h' : Chg (SW B p) w0 w1) : W2 B p w0 w v xs := ⟨h.1, h.2.1, h'.trans h.2.2⟩
theorem keyBytes_length (l : List K) : (l.flatMap keyBytes).length = 6 * l.length := by
 induction l with
 | nil => simp
 | cons a l ih => rw [List.flatMap_cons, List.length_append, ih]; simp [keyBytes, be]; omega
theorem W2.intro {B p : Nat} {w0 w : World} {v : Value} (hp : w.heap[p]? = some (.cells #[v] 155 (0, 0))) (ho : w.ownsRow B 5 1 v 0 []) (hb : Chg (SW B p) w0 w) : W2 B p w0 w v [] := ⟨hp, ho, hb⟩
theorem convert_own {B n : Nat} {w : World} {v : Value} {bs : List Int} (h : w.ownsRow B 5 1 v n (bs.map byteV)) :
  ∀ dst, Tryz.prog.underlying dst = some .string -> (convert 155 dst v).run Tryz.prog w = .ok (.string (strOfNums bs)) w := by
 intro dst hd; rcases h.2 with ⟨rfl, rfl⟩ | ⟨g, cap, cur, rfl, hg⟩
 · have : bs = [] := by have := h.1; simpa using this
   subst this; exact run_convert_bytes_nil w _ 5 Tryz.underlying155 Tryz.underlying5 _ _ dst hd
 · refine run_convert_bytes_arg w _ 5 Tryz.underlying155 Tryz.underlying5 g 0 n cap bs (by have := h.1; simpa using this) (fun i hi => ?_) dst hd
   rw [Nat.zero_add, h.cellAt i (by omega)]
   have hi' : i < bs.length := by have := h.1; simp at this; omega
   simp [byteV, List.getD, hi']
theorem bytes_any (kind frm inc seq tgt : Int) (l : List K) (a : Option Addr) (cap : Nat) (w : World) (hl : l.length <= 8) (hk : Jq w a l) :
  Calls Tryz.prog 46 #[.agg #[.int .i64 kind, .int .i64 frm, .int .i64 inc, .int .i64 seq, .int .i64 tgt, .slice a l.length cap]] w fun e w' =>
   e = .returned (.string (strOfNums (Jr ⟨kind, frm, inc, seq, tgt, l⟩))) /\ Below w.heap.size w w' := by
 have HK := Hd hk; clear hk; obtain ⟨i0, hi, hz0, hz1, hz2⟩ := info_parts info_u8; go_enter Tryz.func46, Tryz.ntmps46; go_wp2_with (first | (at_make; refine wpList_make_own _ rfl _ _ 155 rfl (w.heap.size + 1) 5 i0 (.int .u8 0) 1 Tryz.underlying155 hi hz0 hz1 .i64 .i64 _ (12 + 6 * l.length) rfl rfl (by omega) (by rw [hz2]; omega) (by unfold maxLen; omega) (by simp) ?_))
 intro w1 hown1 hgrow1; have hs1 := hgrow1.size; rw [World.size_alloc] at hs1; have hC1 : Chg (SW (w.heap.size + 1) w1.heap.size) _ w1 := (Chg.refl _ _).grown hgrow1 (fun k o h _ => by cases h)
 have hne : w.heap.size ≠ w1.heap.size := by omega
 have hW1 := W2.intro (p := w1.heap.size) (Jh w1 (.cells #[_] 155) rfl) (hown1.alloc _) (hC1.alloc _); have hb1 := box_stays hW1.2.2 hne (by decide)
 have HW1 := Hd hW1; clear hW1 hown1 hgrow1 hC1; go_wp2_with fail
 refine (put_two _ _ _ [] 1 _ _ _ _ _ _ (HW1.out.alloc _) (Jh _ _ (by simp)) hs1 rfl (by omega) (by simp)).mono ?_
 rintro e w2 ⟨v2, rfl, hW2⟩; have hb2 := box_stays hW2.2.2 hne (by decide)
 have HW2 := Hd hW2; clear hW2 hb1; go_wp2_with fail
 refine (put_two _ _ _ _ 4 _ _ _ _ _ _ (HW2.out.alloc _) (Jh _ _ rfl) hs1 rfl (by omega) (by simp [be])).mono ?_
 rintro e w3 ⟨v3, rfl, hW3⟩; have hb3 := box_stays hW3.2.2 hne (by decide)
 have HW3 := Hd hW3; clear hW3 hb2; go_wp2_with fail
 refine (put_two _ _ _ _ 1 _ _ _ _ _ _ (HW3.out.alloc _) (Jh _ _ rfl) hs1 rfl (by omega) (by simp [be])).mono ?_
 rintro e w4 ⟨v4, rfl, hW4⟩; have hb4 := box_stays hW4.2.2 hne (by decide)
 have HW4 := Hd hW4; clear hW4 hb3 HW1 HW2 HW3; obtain ⟨wb, hwb⟩ : ∃ wb, wb = w.alloc (.cells #[.int .i64 kind, .int .i64 frm, .int .i64 inc, .int .i64 seq, .int .i64 tgt, .slice a l.length cap] 68) := ⟨_, rfl⟩; rw [<- hwb] at HW4; have HWB := Hd hwb; clear hwb; go_wp2_with fail
 go_loopw [34] (fun i wr => ∃ (k : Nat) (v : Value), k <= l.length /\ i = .int .i64 k /\ W2 (w.heap.size + 1) w1.heap.size wb wr v ((headBytes kind frm inc seq tgt l.length ++ (l.take k).flatMap keyBytes).map byteV)) (fun i _ => l.length - (intOf i).toNat)
 case atStart => exact ⟨0, _, Nat.zero_le _, rfl, by have := HW4.out; simpa [headBytes] using this⟩
 case round =>
  obtain ⟨k, v, hkl, rfl, hW⟩ := hrel; have hBel : Below (w.heap.size + 1) wb wr := hW.2.2.below (by rw [HWB.out]; simp) (fun k o h => h.elim (fun e => by omega) (fun e => e.1))
  by_cases hlt : k < l.length
  · obtain ⟨b, off, rfl, hbl, c0, c1, c2⟩ := HK.out k l[k] (List.getElem?_eq_getElem hlt)
    have hbw : ∀ j, wr.cell? ⟨b, j, none⟩ = w.cell? ⟨b, j, none⟩ := fun j => by
     rw [hBel.cell (show b < w.heap.size + 1 by omega), HWB.out, World.cell?_alloc_lt _ _ _ hbl]
    rw [<- hbw] at c0 c1 c2; clear hbw; have hwr : wr.heap.size ≠ w1.heap.size := by have := Kb hW.1; omega
    have HW := Hd hW; clear hW; go_wp2_with fail
    have hlen : ((headBytes kind frm inc seq tgt l.length ++ (l.take k).flatMap keyBytes).map byteV).length <= 100 := by
     rw [List.length_map, List.length_append, keyBytes_length, List.length_take]; have : (headBytes kind frm inc seq tgt l.length).length = 12 := by simp [headBytes, be]
     omega
    refine (put_one _ _ _ _ 1 _ _ _ _ _ ((HW.out.root.alloc (.cells #[.int .i64 l[k].id, .int .i64 l[k].inc, .int .i64 l[k].st] 76)).root.alloc _) (Jh _ _ (by simp)) hs1 rfl (by omega) (by omega)).mono ?_
    rintro e w5 ⟨v5, rfl, hW5⟩; have hu5 := box_stays hW5.2.2 hwr (by decide)
    have HW5 := Hd hW5; clear hW5; go_wp2_with fail
    refine (put_one _ _ _ _ 4 _ _ _ _ _ (HW5.out.alloc _) (Jh _ _ rfl) hs1 rfl (by omega) (by simp [be] at hlen ⊢; omega)).mono ?_
    rintro e w6 ⟨v6, rfl, hW6⟩; have hu6 := box_stays hW6.2.2 hwr (by decide)
    have HW6 := Hd hW6; clear hW6 hu5; go_wp2_with fail
    refine (put_one _ _ _ _ 1 _ _ _ _ _ (HW6.out.alloc _) (Jh _ _ rfl) hs1 rfl (by omega) (by simp [be] at hlen ⊢; omega)).mono ?_
    rintro e w7 ⟨v7, rfl, hW7⟩; have HW7 := Hd hW7; clear hW7 hu6; go_wp2_with fail
    go_roundw
    case rel => exact ⟨k + 1, v7, by omega, by go_num, by
     have h := HW7.out.onto (HW.out.2.2.alloc _); rw [List.take_succ_eq_append_getElem hlt]; simp only [List.flatMap_append, List.flatMap_cons, List.flatMap_nil, List.append_nil, List.map_append, List.append_assoc, keyBytes] at h ⊢; exact h⟩
    case measure => simp [intOf]; omega
  · have hk' : k = l.length := by omega
    subst hk'; rw [List.take_length] at hW; have hp := Ka hW.1 0; have hcv := convert_own hW.2.1; go_wp2; go_ret
    exact ⟨rfl, Jg (by rw [HWB.out] at hBel; exact hBel.mono (by omega))⟩
def numL (l : List UInt8) : Int := l.foldl (fun n b => n * 256 + b.toNat) 0
theorem numL_snoc (l : List UInt8) (b : UInt8) : numL (l ++ [b]) = numL l * 256 + b.toNat := by simp [numL]
theorem numL_go (l : List UInt8) : ∀ n : Int, 0 <= n -> 0 <= l.foldl (fun n b => n * 256 + (b.toNat : Int)) n /\ l.foldl (fun n b => n * 256 + (b.toNat : Int)) n < (n + 1) * 256 ^ l.length := by
 induction l with
 | nil => intro n h; simp; omega
 | cons b l ih =>
  intro n h; have hb := b.toNat_lt; have h' := ih (n * 256 + (b.toNat : Int)) (by omega)
  rw [List.foldl_cons, List.length_cons, Int.pow_succ]; have hp : (0 : Int) <= 256 ^ l.length := Int.pow_nonneg (by omega)
  have hm : (n * 256 + (b.toNat : Int) + 1) * 256 ^ l.length <= ((n + 1) * 256) * 256 ^ l.length := Int.mul_le_mul_of_nonneg_right (by omega) hp
  have e : (n + 1) * (256 ^ l.length * 256) = ((n + 1) * 256) * 256 ^ l.length := by rw [Int.mul_assoc, Int.mul_comm (256 ^ l.length) 256]
  omega
theorem numL_bd (l : List UInt8) : 0 <= numL l /\ numL l < 256 ^ l.length := by
 have := numL_go l 0 (by omega)
 simpa [numL] using this
theorem numL_small (l : List UInt8) (h : l.length <= 3) : 0 <= numL l /\ numL l < 16777216 := by
 have hb := numL_bd l; have : l.length = 0 \/ l.length = 1 \/ l.length = 2 \/ l.length = 3 := by omega
 rcases this with e | e | e | e <;> rw [e] at hb <;> simp at hb <;> omega
theorem take_snocB (s : ByteArray) (k : Nat) (h : k < s.size) : s.data.toList.take (k + 1) = s.data.toList.take k ++ [s[k]] := by
 rw [List.take_succ_eq_append_getElem (by simpa using h)]; rfl
theorem or_byte (n : Int) (b : UInt8) (h0 : 0 <= n) (h1 : n < 16777216) : bits .or .i64 (wrap64 (n * 256)) (wrap64 (b.toNat : Int)) = n * 256 + b.toNat := by
 have hb := b.toNat_lt; rw [IntWalk.wrap64_in (n * 256) ⟨by omega, by omega⟩, IntWalk.wrap64_in (b.toNat : Int) ⟨by omega, by omega⟩]
 exact bits_join .i64 40 (by decide) (fun m h₀ h₁ => IntWalk.i64_in m (by omega)) 8 (n * 256) b.toNat (by omega) (by omega) (by omega) (by omega) (by omega) (by omega)
theorem take_any (p wd : Nat) (s : ByteArray) (wi : Int) (w : World) (hp : w.cell? ⟨p, 0, none⟩ = some (.string s)) (hf : w.frozen? ⟨p, 0, none⟩ = false)
  (hwi : wi = wd) (hw : wd <= 4) (hs : wd <= s.size) (hss : s.size <= 100000) :
  Calls Tryz.prog 80 #[.pointer (some ⟨p, 0, none⟩), .int .i64 wi] w fun e w' =>
   e = .returned (.int .i64 (numL (s.data.toList.take wd))) /\ w.setCell ⟨p, 0, none⟩ (.string (s.extract wd s.size)) = w' := by
 subst hwi; go_enter Tryz.func80, Tryz.ntmps80; go_wp2; go_loop [5, 8] (fun n i => ∃ k : Nat, k <= wd /\ i = .int .i64 k /\ n = .int .i64 (numL (s.data.toList.take k))) (fun _ i => wd - (intOf i).toNat)
 case atStart => exact ⟨0, Nat.zero_le _, rfl, rfl⟩
 case round =>
  obtain ⟨k, hk, rfl, rfl⟩ := hrel; by_cases hlt : k < wd
  · have hks : k < s.size := by omega
    obtain ⟨n, hn⟩ : ∃ n, numL (s.data.toList.take k) = n := ⟨_, rfl⟩; have hbd := numL_small (s.data.toList.take k) (by rw [List.length_take]; omega)
    rw [hn] at hbd ⊢; have HN := Hd hn; have HB := Hd hbd; clear hn hbd; go_wp2; go_round
    case rel => exact ⟨k + 1, by omega, by go_num, by
     obtain ⟨h0, h1⟩ := HB.out; rw [take_snocB s k hks, numL_snoc, HN.out, or_byte n s[k] h0 (by omega)]⟩
    case measure => simp [intOf]; omega
  · have hk' : k = wd := by omega
    go_wp2; go_ret
    exact ⟨rfl, rfl⟩
theorem roomI_cases (k : Int) : Jy k = 4 \/ Jy k = 8 \/ Jy k = -1 := by
 unfold Jy; split
 · exact .inl rfl
 · split
   · exact .inr (.inl rfl)
   · exact .inr (.inr rfl)
theorem wholeB_false {m : M} (h : tgtB m.kind m.tgt = false \/ (m.ups.length : Int) > Jy m.kind \/ Kl m.frm 1 250 = false \/ Kl m.inc 1 1073741824 = false \/ Kl m.seq 0 4294967295 = false \/ m.ups.all keyB = false) : Jn m = false := by
 unfold Jn; rcases h with h | h | h | h | h | h <;> simp [h]
theorem wholeB_true {m : M} (h1 : tgtB m.kind m.tgt = true) (h2 : ¬ (m.ups.length : Int) > Jy m.kind) (h3 : Kl m.frm 1 250 = true) (h4 : Kl m.inc 1 1073741824 = true) (h5 : Kl m.seq 0 4294967295 = true) (h6 : m.ups.all keyB = true) : Jn m = true := by
 unfold Jn; simp only [h1, h3, h4, h5, h6, h2]; simp
theorem six (t f i s : Bool) (n r : Int) : t = false \/ (t = true /\ r < n) \/ (t = true /\ ¬ r < n /\ f = false) \/ (t = true /\ ¬ r < n /\ f = true /\ i = false) \/ (t = true /\ ¬ r < n /\ f = true /\ i = true /\ s = false) \/ (t = true /\ ¬ r < n /\ f = true /\ i = true /\ s = true) := by
 by_cases h : r < n <;> cases t <;> cases f <;> cases i <;> cases s <;> simp [h]
theorem all_take_succ {l : List K} {k : Nat} (h : k < l.length) : (l.take (k + 1)).all keyB = ((l.take k).all keyB && keyB l[k]) := by
 rw [List.take_succ_eq_append_getElem h, List.all_append]; simp
theorem all_keyB_false {l : List K} {k : Nat} (h : k < l.length) (hk : keyB l[k] = false) : l.all keyB = false := by
 rw [List.all_eq_false]; exact ⟨l[k], List.getElem_mem h, by simp [hk]⟩
theorem tgtB_eq {kind tgt r : Int} (h : Jy kind = r) : tgtB kind tgt = if r = 8 then (tgt == 0) else Kl tgt 1 250 := by
 rw [tgtB, h]
theorem whole_no (kind frm inc seq tgt : Int) (l : List K) (a : Option Addr) (cap : Nat) (w : World) (hl : l.length <= 9223372036854775807)
  (hno : tgtB kind tgt = false \/ Jy kind < (l.length : Int) \/ Kl frm 1 250 = false \/ Kl inc 1 1073741824 = false \/ Kl seq 0 4294967295 = false) :
  Calls Tryz.prog 45 #[.agg #[.int .i64 kind, .int .i64 frm, .int .i64 inc, .int .i64 seq, .int .i64 tgt, .slice a l.length cap]] w fun e w' =>
   e = .returned (.bool false) /\ Below w.heap.size w w' := by
 have h6 := six (tgtB kind tgt) (Kl frm 1 250) (Kl inc 1 1073741824) (Kl seq 0 4294967295) l.length (Jy kind); rcases roomI_cases kind with hr | hr | hr
 all_goals
  rw [tgtB_eq hr, hr] at h6 hno; simp only [Int.reduceEq, if_true, if_false] at h6 hno; rcases h6 with h1 | ⟨h1, h2⟩ | ⟨h1, h2, h3⟩ | ⟨h1, h2, h3, h4⟩ | ⟨h1, h2, h3, h4, h5⟩ | ⟨h1, h2, h3, h4, h5⟩
 all_goals try (exfalso; rcases hno with h | h | h | h | h <;> first | omega | (simp_all; done))
 all_goals
  clear hno; go_enter Tryz.func45, Tryz.ntmps45; go_wp2_with (first | (go_at_call 77; refine (within_any _ _ _ _).mono ?_; rintro e w' ⟨rfl, rfl⟩) | (go_at_call 76; refine (room_any _ _).mono ?_; rintro e w' ⟨rfl, rfl⟩))
  go_ret
  exact ⟨rfl, (Below.refl _ _).alloc (Nat.le_refl _) _⟩
theorem whole_yes (kind frm inc seq tgt : Int) (l : List K) (a : Option Addr) (cap : Nat) (w : World) (hl : l.length <= 9223372036854775807) (hk : Jq w a l)
  (h1 : tgtB kind tgt = true) (h2 : ¬ Jy kind < (l.length : Int)) (h3 : Kl frm 1 250 = true) (h4 : Kl inc 1 1073741824 = true) (h5 : Kl seq 0 4294967295 = true) :
  Calls Tryz.prog 45 #[.agg #[.int .i64 kind, .int .i64 frm, .int .i64 inc, .int .i64 seq, .int .i64 tgt, .slice a l.length cap]] w fun e w' =>
   e = .returned (.bool (l.all keyB)) /\ Below w.heap.size w w' := by
 have HK := Hd hk; clear hk; rcases roomI_cases kind with hr | hr | hr
 case inr.inr => omega
 all_goals
  rw [tgtB_eq hr] at h1; rw [hr] at h2; simp only [Int.reduceEq, if_true, if_false] at h1; go_enter Tryz.func45, Tryz.ntmps45; go_wp2_with (first | (go_at_call 77; refine (within_any _ _ _ _).mono ?_; rintro e w' ⟨rfl, rfl⟩) | (go_at_call 76; refine (room_any _ _).mono ?_; rintro e w' ⟨rfl, rfl⟩))
  go_loopw [48] (fun i wr => ∃ k : Nat, k <= l.length /\ i = .int .i64 k /\ (l.take k).all keyB = true /\ Below w.heap.size w wr) (fun i _ => l.length - (intOf i).toNat)
  case atStart => exact ⟨0, Nat.zero_le _, rfl, rfl, (Below.refl _ _).alloc (Nat.le_refl _) _⟩
  case round =>
   obtain ⟨k, hkl, rfl, hall, hb⟩ := hrel; have HA := Hd hall; clear hall; by_cases hlt : k < l.length
   · obtain ⟨b, off, rfl, hbl, c0, c1, c2⟩ := HK.out k l[k] (List.getElem?_eq_getElem hlt)
     have hsz := hb.size; rw [<- hb.cell hbl] at c0 c1 c2; go_wp2_with (first | (go_at_call 77; refine (within_any _ _ _ _).mono ?_; rintro e w' ⟨rfl, rfl⟩))
     case roundEnd =>
      have hkk : keyB l[k] = true := by simp_all [keyB]
      refine ⟨⟨k + 1, by omega, by go_num, by rw [all_take_succ hlt, HA.out, hkk]; rfl, hb.alloc hsz _⟩, by simp [intOf]; omega⟩
     all_goals
      have hkk : keyB l[k] = false := by simp_all [keyB]
      go_ret
      exact ⟨by rw [all_keyB_false hlt hkk]; rfl, hb.alloc hsz _⟩
   · have hk' : k = l.length := by omega
     go_wp2; go_ret
     exact ⟨by have := HA.out; rw [hk', List.take_length] at this; rw [this]; rfl, hb⟩
theorem whole_any (kind frm inc seq tgt : Int) (l : List K) (a : Option Addr) (cap : Nat) (w : World) (hl : l.length <= 9223372036854775807) (hk : Jq w a l) :
  Calls Tryz.prog 45 #[.agg #[.int .i64 kind, .int .i64 frm, .int .i64 inc, .int .i64 seq, .int .i64 tgt, .slice a l.length cap]] w fun e w' =>
   e = .returned (.bool (Jn ⟨kind, frm, inc, seq, tgt, l⟩)) /\ Below w.heap.size w w' := by
 by_cases hy : tgtB kind tgt = true /\ ¬ Jy kind < (l.length : Int) /\ Kl frm 1 250 = true /\ Kl inc 1 1073741824 = true /\ Kl seq 0 4294967295 = true
 · obtain ⟨h1, h2, h3, h4, h5⟩ := hy
   have e : Jn ⟨kind, frm, inc, seq, tgt, l⟩ = l.all keyB := by
    cases h : l.all keyB
    · exact wholeB_false (.inr (.inr (.inr (.inr (.inr h)))))
    · exact wholeB_true h1 (by simpa using h2) h3 h4 h5 h
   rw [e]; exact whole_yes kind frm inc seq tgt l a cap w hl hk h1 h2 h3 h4 h5
 · have hno : tgtB kind tgt = false \/ Jy kind < (l.length : Int) \/ Kl frm 1 250 = false \/ Kl inc 1 1073741824 = false \/ Kl seq 0 4294967295 = false := by
    rcases six (tgtB kind tgt) (Kl frm 1 250) (Kl inc 1 1073741824) (Kl seq 0 4294967295) l.length (Jy kind) with h | ⟨_, h⟩ | ⟨_, _, h⟩ | ⟨_, _, _, h⟩ | ⟨_, _, _, _, h⟩ | h
    · exact .inl h
    · exact .inr (.inl h)
    · exact .inr (.inr (.inl h))
    · exact .inr (.inr (.inr (.inl h)))
    · exact .inr (.inr (.inr (.inr h)))
    · exact absurd h hy
   rw [wholeB_false (m := ⟨kind, frm, inc, seq, tgt, l⟩) (by
    rcases hno with h | h | h | h | h
    · exact .inl h
    · exact .inr (.inl h)
    · exact .inr (.inr (.inl h))
    · exact .inr (.inr (.inr (.inl h)))
    · exact .inr (.inr (.inr (.inr (.inl h)))))]
   exact whole_no kind frm inc seq tgt l a cap w hl hno
theorem whole_at (m : M) (a : Option Addr) (n cap : Nat) (w : World) (hn : m.ups.length = n) (hl : n <= 9223372036854775807) (hk : Jq w a m.ups) :
  Calls Tryz.prog 45 #[.agg #[.int .i64 m.kind, .int .i64 m.frm, .int .i64 m.inc, .int .i64 m.seq, .int .i64 m.tgt, .slice a n cap]] w fun e w' =>
   e = .returned (.bool (Jn m)) /\ Below w.heap.size w w' := by
 subst hn; exact whole_any m.kind m.frm m.inc m.seq m.tgt m.ups a cap w hl hk
