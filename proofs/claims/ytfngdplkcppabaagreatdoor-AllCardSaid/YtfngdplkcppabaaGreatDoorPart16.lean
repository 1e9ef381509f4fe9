/-
  Texts of the proof: Joined, Recv, RecvA, Draw, Bxs. No condition.
-/
import Derived.Test.YtfngdplkcppabaaGreatDoorPart01
import Derived.Test.YtfngdplkcppabaaGreatDoorPart15
import Derived.Test.YtfngdplkcppabaaGreatDoorPart12
set_option linter.all false
set_option maxRecDepth 100000
set_option maxHeartbeats 4000000
namespace Go.Proofs.YtfngdplkcppabaaGreatDoor
open Go.RowKit
def byId (l : List Mem) (p : Mem -> Bool) (i : Int) : Bool := match Jo l i with
 | some m => p m
 | none => false
theorem findM_self {l : List Mem} (h : Rise (Zf l)) {m : Mem} (hm : m ∈ l) : Jo l m.k.id = some m := by
 cases hf : Jo l m.k.id with
 | none => exact absurd (Jk.2 ⟨m, hm, rfl⟩) (findM_none hf)
 | some m' =>
  obtain ⟨h1, h2⟩ := Zd hf; rw [rise_inj h h1 hm h2]
theorem byId_self {l : List Mem} (h : Rise (Zf l)) (p : Mem -> Bool) {m : Mem} (hm : m ∈ l) : byId l p m.k.id = p m := by
 unfold byId; rw [findM_self h hm]
theorem filter_byId {l : List Mem} (h : Rise (Zf l)) (p : Mem -> Bool) : (Zf l).filter (byId l p) = Zf (l.filter p) := by
 unfold Zf; rw [List.filter_map]
 congr 1
 refine List.filter_congr (fun m hm => ?_)
 exact byId_self h p hm
theorem sortedN_any {x : Nd} (ho : Ok x) (a : Ad) (ov : Value) (W : World) (hN : NodeAt W a ov x) (p : Mem -> Bool) (g : Nat) (cb : Array Value) (eg : ∀ args w, (callFunc g args).run Tryz.prog w = .ok (.enter g args) w)
  (h : ∀ m ∈ x.others, ∀ W', Below W.heap.size W W' -> Calls Tryz.prog g (#[.pointer (some ⟨a.mem m.k.id, 0, none⟩)] ++ cb) W' fun e W'' => e = .returned (.bool (p m)) /\ ∃ q, W'' = W'.drewN q) :
  Calls Tryz.prog 66 #[.map (some a.bo), .func (.func g) #[] cb] W fun e w' =>
   ∃ v, e = .returned v /\ Ptrs w' v a.mem (x.others.filter p) /\ Below W.heap.size W w' := by
 have hM : Kw Tryz.prog 3 W a.bo ((Zf x.others).map (fun i => (i, Jw (a.mem i)))) := by
  have := hN.others; rw [mPairs_ids] at this; exact this
 refine (tsorted_any (Zf x.others) a.mem (byId x.others p) a.bo g cb W ho.rise (by simp only [Zf, List.length_map]; have := ho.len; omega) hM (fun i hi => by
  obtain ⟨m, hm, rfl⟩ := Jk.1 hi; rw [Ka (hN.mems m hm)]; rfl) eg (fun i hi W' hW => by
  obtain ⟨m, hm, rfl⟩ := Jk.1 hi; rw [byId_self ho.rise p hm]; exact h m hm W' hW)).mono ?_
 rintro e w' ⟨v, rfl, hrow, hb⟩; rw [filter_byId ho.rise] at hrow; refine ⟨v, rfl, ⟨W.heap.size, ?_⟩, hb⟩; have e1 : (Zf (x.others.filter p)).length = (x.others.filter p).length := by simp [Zf]
 have e2 : (Zf (x.others.filter p)).map (fun i => Jw (a.mem i)) = (x.others.filter p).map (fun m => Jw (a.mem m.k.id)) := by simp [Zf]
 rw [e1, e2] at hrow; exact hrow
theorem eg_all : ∀ args w, (callFunc 113 args).run Tryz.prog w = .ok (.enter 113 args) w := enters_of Tryz.func113 (by kernel_rfl) rfl
theorem eg_here : ∀ args w, (callFunc 98 args).run Tryz.prog w = .ok (.enter 98 args) w := enters_of Tryz.func98 (by kernel_rfl) rfl
theorem sortedAll_any {x : Nd} (ho : Ok x) (a : Ad) (ov : Value) (W : World) (hN : NodeAt W a ov x) :
  Calls Tryz.prog 66 #[.map (some a.bo), .func (.func 113) #[] #[]] W fun e w' => ∃ v, e = .returned v /\ Ptrs w' v a.mem x.others /\ Below W.heap.size W w' := by
 have := sortedN_any ho a ov W hN (fun _ => true) 113 #[] eg_all (fun m hm W' hW => (all_any (a.mem m.k.id) W').mono (fun e w' h => ⟨h.1, 0, h.2⟩))
 rw [List.filter_eq_self.2 (fun _ _ => rfl)] at this
 exact this
theorem sortedHere_any {x : Nd} (ho : Ok x) (a : Ad) (ov : Value) (W : World) (hN : NodeAt W a ov x) :
  Calls Tryz.prog 66 #[.map (some a.bo), .func (.func 98) #[] #[]] W fun e w' => ∃ v, e = .returned v /\ Ptrs w' v a.mem (x.others.filter here) /\ Below W.heap.size W w' :=
 sortedN_any ho a ov W hN here 98 #[] eg_here (fun m hm W' hW => (here_any (a.mem m.k.id) m.k.st W' (by
  have h1 := hN.mems m hm; rw [Ka ((hW.block _ (Kb h1)).trans h1)]; rfl)).mono (fun e w' h => ⟨h.1, 0, h.2⟩))
theorem NodeAt.memsAt {W W' : World} {a : Ad} {ov : Value} {x : Nd} (h : NodeAt W a ov x) (hb : Below W.heap.size W W') {l : List Mem} (hl : ∀ m ∈ l, m ∈ x.others) : MemsAt W' a.mem l :=
 fun m hm => (hb.block _ (Kb (h.mems m (hl m hm)))).trans (h.mems m (hl m hm))
theorem keysN_any {x : Nd} (ho : Ok x) (a : Ad) (ov : Value) (W W' : World) (hN : NodeAt W a ov x) (hb : Below W.heap.size W W') (v : Value) (hP : Ptrs W' v a.mem x.others) :
  Calls Tryz.prog 112 #[v, .func (.func 114) #[] #[]] W' fun e w' =>
   ∃ v', e = .returned v' /\ w'.ownsRow W'.heap.size 76 3 v' x.others.length (Kd (x.others.map (·.k))) /\ Below W'.heap.size W' w' :=
 mapK_any a.mem x.others v W' hP (hN.memsAt hb (fun _ h => h)) (by have := ho.len; omega)
theorem Ptrs.alloc {w : World} {v : Value} {mem : Int -> Nat} {l : List Mem} (h : Ptrs w v mem l) (o : Obj) : Ptrs (w.alloc o) v mem l := by obtain ⟨B, h⟩ := h; exact ⟨B, World.ownsRow.alloc h o⟩
theorem cells_later {L : List Value} {n : Nat} {W W' : World} (h : ∀ j u, L[j]? = some u -> W.cell? ((⟨n, 0, none⟩ : Addr).add j) = some u) (hb : Below W.heap.size W W') (hn : n < W.heap.size) : ∀ j u, L[j]? = some u -> W'.cell? ((⟨n, 0, none⟩ : Addr).add j) = some u := fun j u hj => by
 have e : ((⟨n, 0, none⟩ : Addr).add j).block = n := by unfold Addr.add; split <;> rfl
 rw [hb.cell (by rw [e]; exact hn)]
 exact h j u hj
theorem St.below {B : Nat} {w w' w'' : World} {a a' : Ad} {x x' : Nd} {ov : Value} {ps : List Pk} (h : St B w a x w' a' x' ov ps) (hb : Below w'.heap.size w' w'') : St B w a x w'' a' x' ov ps :=
 ⟨h.node.below hb, Ks h.out hb, h.chg.trans (Zc hb), h.own, h.b⟩
theorem joined_any {x : Nd} (ho : Ok x) (a : Ad) (ov : Value) (B : Nat) (ps : List Pk) (w : World) (h : NodeAt w a ov x) (hout : Jm w B ov ps) (hB : B <= w.heap.size) (hps : ps.length < 1000) (m : M) (ma : Option Addr) (mn mc : Nat) :
  Calls Tryz.prog 123 #[.pointer (some ⟨a.b, 0, none⟩), m.agg (.slice ma mn mc)] w (Does B w a x ps (x.joined m)) := by
 obtain ⟨kind, frm, inc, seq, tgt, ups⟩ := m; obtain ⟨w1, hw1⟩ : ∃ w1, w.alloc (.cells #[.int .i64 kind, .int .i64 frm, .int .i64 inc, .int .i64 seq, .int .i64 tgt, .slice ma mn mc] 68) = w1 := ⟨_, rfl⟩; have T := (St.refl h hout).alloc (.cells #[.int .i64 kind, .int .i64 frm, .int .i64 inc, .int .i64 seq, .int .i64 tgt, .slice ma mn mc] 68); rw [hw1] at T; have hs1 : w.heap.size < w1.heap.size := by rw [<- hw1]; simp
 have hx1 : w1.heap[w.heap.size]? = some (.cells #[.int .i64 kind, .int .i64 frm, .int .i64 inc, .int .i64 seq, .int .i64 tgt, .slice ma mn mc] 68 (0, 0)) := by rw [<- hw1]; exact Kc w _
 have hlen := ho.len; have c10 : w1.cell? ⟨a.b, 10, none⟩ = some (.map (some a.bo)) := T.node.blk.cell (by omega)
 have c7 : w1.cell? ⟨a.b, 7, none⟩ = some (.int .i64 x.self.id) := T.node.blk.cell (by omega)
 have c8 : w1.cell? ⟨a.b, 8, none⟩ = some (.int .i64 x.self.inc) := T.node.blk.cell (by omega)
 have c9 : w1.cell? ⟨a.b, 9, none⟩ = some (.int .i64 x.self.st) := T.node.blk.cell (by omega)
 have c10a : ∀ o, (w1.alloc o).cell? ⟨a.b, 10, none⟩ = some (.map (some a.bo)) := fun o => ((T.alloc o).node).blk.cell (by omega)
 have HT := Hd T; have HW1 := Hd hw1; have HX1 := Hd hx1; have HO := Hd ho; have hlt := Kb hx1; have hab := h.blk.lt; clear T hw1 hx1 h hout ho; obtain ⟨i0, hi, hz0, hz1, hz2⟩ := info_parts info_key; unfold M.agg; go_enter Tryz.func123, Tryz.ntmps123; go_wp2; rw [HW1.out]
 have HOKS : Hid (∀ k ∈ (x.others.map (·.k)) ++ [x.self], idOk k.id) := Hd (fun k hk => by
  rcases List.mem_append.1 hk with hk | hk
  · obtain ⟨m, hm, rfl⟩ := List.mem_map.1 hk
    exact (HO.out.key m hm).1
  · rw [List.mem_singleton] at hk; subst hk; exact HO.out.self.1)
 have hrs : ((x.others.map (·.k)).map (·.id)).Pairwise (· < ·) := by
  have := HO.out.rise; unfold Rise Zf at this; rw [List.map_map]; exact this
 have hni : x.self.id ∉ (x.others.map (·.k)).map (·.id) := fun hin => by
  rw [List.map_map] at hin; obtain ⟨m, hm, e⟩ := List.mem_map.1 hin; exact HO.out.notSelf m hm e
 have HNDS : Hid ((((x.others.map (·.k)) ++ [x.self]).map (·.id)).Nodup) := Hd (by
  rw [List.map_append, List.nodup_append]
  exact ⟨hrs.imp (by intro a b hab; omega), by simp, fun a ha b hb hab => by
   simp only [List.map_cons, List.map_nil, List.mem_singleton] at hb; exact hni (by rw [<- hb, <- hab]; exact ha)⟩)
 have HSRT := Hd (sort_putK x.self hrs hni); clear hrs hni; have K3 := Hd (show x.others.length + 1 <= maxLen by unfold maxLen; omega)
 go_region_law (first
  | (refine Ji rfl _ _ _ rfl w1.heap.size 76 i0 _ 3 24 Tryz.underlying46 hi hz0 hz1 hz2 rfl (by decide) (.slice ka x.others.length kc) x.others.length _ rfl (World.ownsRow.alloc HR26.out _) ⟨w26.heap.size, 0, none⟩ 1 1 _ rfl rfl (Kt w26 [.int .i64 x.self.id, .int .i64 x.self.inc, .int .i64 x.self.st] 76 rfl) (by simp [Value.oneCell']) (by omega) K3.out (by omega) (by have := HZ26.out; simp; omega) ?_; intro gg gc w9 hl9 hto9
     have HL9 := Hd hl9; have HB9 := Hd ((HB26.out.alloc HZ26.out _).grown hto9.grown (by have := HZ26.out; simp; omega) (fun j e => (HR26.out.lt j e).1))
     clear hl9 hto9)
  | (refine Ji rfl _ _ _ rfl w1.heap.size 76 i0 _ 3 24 Tryz.underlying46 hi hz0 hz1 hz2 rfl (by decide) (.slice ka x.others.length kc) x.others.length _ rfl HR26.out ⟨w27.heap.size, 0, none⟩ 1 1 _ rfl rfl (cells_later (Kt w27 [.int .i64 x.self.id, .int .i64 x.self.inc, .int .i64 x.self.st] 76 rfl) Hb26.out (by simp)) (by simp [Value.oneCell']) (by omega) K3.out (by omega) HZ26.out ?_; intro gg gc w9 hl9 hto9
     have HL9 := Hd hl9; have HB9 := Hd (HB26.out.grown hto9.grown HZ26.out (fun j e => (HR26.out.lt j e).1))
     clear hl9 hto9)
  | (refine Ji rfl _ _ _ rfl w1.heap.size 76 i0 _ 3 24 Tryz.underlying46 hi hz0 hz1 hz2 rfl (by decide) (.slice ka x.others.length kc) x.others.length _ rfl HR26.out ⟨w1.heap.size, 0, none⟩ 1 1 _ rfl rfl (cells_later (cells_later (W := (w1.alloc (.cells #[.int .i64 x.self.id, .int .i64 x.self.inc, .int .i64 x.self.st] 76)).drew) (Kt w1 [.int .i64 x.self.id, .int .i64 x.self.inc, .int .i64 x.self.st] 76 rfl) Hb27.out (by show w1.heap.size < (w1.alloc _).heap.size; simp)) Hb26.out (by have h : (w1.alloc (.cells #[.int .i64 x.self.id, .int .i64 x.self.inc, .int .i64 x.self.st] 76)).heap.size <= w27.heap.size := HZ27.out; rw [World.size_alloc] at h; omega)) (by simp [Value.oneCell']) (by omega) K3.out (by omega) HZ26.out ?_; intro gg gc w9 hl9 hto9
     have HL9 := Hd hl9; have HB9 := Hd (HB26.out.grown hto9.grown HZ26.out (fun j e => (HR26.out.lt j e).1))
     clear hl9 hto9)
  | (go_simp; go_at_call 66; refine (sortedAll_any HO.out a ov _ (by first | exact (HT.out.drewN 1).node | exact ((HT.out.alloc _).drewN 1).node)).mono ?_; rintro e w27 ⟨v27, rfl, hP27, hb27⟩
     have hB27 : Below w1.heap.size w1 w27 := by first | exact ((Below.refl w1.heap.size w1).drew).trans hb27 | exact (((Below.refl w1.heap.size w1).alloc (Nat.le_refl _) _).drew).trans (hb27.mono (by simp))
     have qw277 : w27.cell? ⟨a.b, 7, none⟩ = some (.int .i64 x.self.id) := (HT.out.node.below hB27).blk.cell (by omega)
     have qw278 : w27.cell? ⟨a.b, 8, none⟩ = some (.int .i64 x.self.inc) := (HT.out.node.below hB27).blk.cell (by omega)
     have qw279 : w27.cell? ⟨a.b, 9, none⟩ = some (.int .i64 x.self.st) := (HT.out.node.below hB27).blk.cell (by omega)
     have HZ27 := Hd hb27.size; have HB27 := Hd hB27; have HP27 := Hd hP27; have Hb27 := Hd hb27; clear hB27 hP27 hb27)
  | (go_simp; go_at_call 112; refine (keysN_any HO.out a ov w1 _ HT.out.node (by first | exact HB27.out | exact HB27.out.alloc HB27.out.size _) v27 (by first | exact HP27.out | exact HP27.out.alloc _)).mono ?_; rintro e w26 ⟨v26, rfl, hrow26, hb26⟩
     obtain ⟨ka, kc, rfl⟩ := Kg hrow26; have hB26 : Below w1.heap.size w1 w26 := by first | exact HB27.out.trans (hb26.mono HB27.out.size) | exact (HB27.out.alloc HB27.out.size _).trans (hb26.mono (by have := HB27.out.size; simp; omega))
     have hr26 := Jl (B' := w1.heap.size) hrow26 (by have := HB27.out.size; simp; try omega)
     have qw267 : w26.cell? ⟨a.b, 7, none⟩ = some (.int .i64 x.self.id) := (HT.out.node.below hB26).blk.cell (by omega)
     have qw268 : w26.cell? ⟨a.b, 8, none⟩ = some (.int .i64 x.self.inc) := (HT.out.node.below hB26).blk.cell (by omega)
     have qw269 : w26.cell? ⟨a.b, 9, none⟩ = some (.int .i64 x.self.st) := (HT.out.node.below hB26).blk.cell (by omega)
     have HZ26 := Hd hB26.size; have HB26 := Hd hB26; have Hb26 := Hd hb26; have HR26 := Hd hr26; clear hB26 hb26 hr26 hrow26))
 all_goals
  have hrow : w9.ownsRow w1.heap.size 76 3 (.slice (some ⟨gg, 0, none⟩) (x.others.length + 1) gc) ((x.others.map (·.k)) ++ [x.self]).length (Kd ((x.others.map (·.k)) ++ [x.self])) := by
   rw [keyCells_snoc]; have := HL9.out
   simpa using this
  have hS := sortJ_any ((x.others.map (·.k)) ++ [x.self]) HOKS.out HNDS.out (by simp) (by simp; omega) w1.heap.size _ w9 hrow
  rw [HSRT.out] at hS; have HS := Hd hS; clear hrow hS
  go_wp2_with (first
   | (go_at_call 138; refine HS.out.mono ?_; rintro e wS ⟨rfl, hrowS, hcS⟩
      have hBS : Below w1.heap.size w1 wS := HB9.out.trans (hcS.below HB9.out.size (fun k _ e => by have e : some gg = some k := e; cases e; exact (HL9.out.lt _ rfl).1))
      obtain ⟨hll, hka⟩ := keysAt_row (l := putK x.self (x.others.map (·.k))) (n := x.others.length + 1) (by have := hrowS; simpa using this)
      have hTS := HT.out.below hBS; have hxS : wS.heap[w.heap.size]? = _ := (hBS.block _ hlt).trans HX1.out; have d1 := Ka hxS 1; have d3 := Ka hxS 3; simp only [List.getElem?_toArray, List.getElem?_cons_succ, List.getElem?_cons_zero] at d1 d3; have hszS := hBS.size; have HTS := Hd hTS; have HKA := Hd hka; have HLL := Hd hll; clear hBS hka hTS hxS hrowS hcS hll)
   | (go_at_call 58
      have hsh := send_high a ov B ps _ HTS.out.node HTS.out.out (by omega) hps frm 5 0 0 seq 0 (by omega) (putK x.self (x.others.map (·.k))) (some ⟨gg, 0, none⟩) gc HKA.out (by rw [putK_len, List.length_map]; omega)
      rw [HLL.out] at hsh; refine hsh.mono ?_; rintro e w5 ⟨rfl, ov', hT6⟩))
  ((try simp only [Exit.inBlock, Exit.then]); first | refine bodyPost_ret (results_none rfl _ _ _) rfl ?_ | refine bodyPost_end (results_none rfl _ _ _) rfl ?_)
  exact Does.of (HTS.out.trans hT6)
def Gives (w : World) (a : Ad) (x : Nd) (r : List Pk × Nd) (v : Value) (w' : World) : Prop := ∃ a', Turned v w a x w' a' r.2 /\ Jm w' w.heap.size v r.1
theorem Gives.of {w w' : World} {a a' : Ad} {x x' : Nd} {ov : Value} {ps : List Pk} (h : St w.heap.size w a x w' a' x' ov ps) : Gives w a x (ps, x') ov w' :=
 ⟨a', ⟨h.node, ⟨h.chg.os, h.chg.tape, h.chg.output, h.chg.size, fun k o ho hs => h.chg.kept k o ho (fun hk => hk.elim hs (fun hl => absurd (Kb ho) (by have := hl.1; omega)))⟩, h.own, h.b⟩, h.out⟩
theorem turned_nil {w : World} {a : Ad} {ov : Value} {x : Nd} (h : NodeAt w a ov x) : Turned (.slice none 0 0) w a x (w.setCell ⟨a.b, 20, none⟩ (.slice none 0 0)) a x := by
 refine ⟨?_, (Chg.refl _ _).setCell _ (fun _ _ => .inl rfl), fun _ => .inl, rfl⟩
 refine h.setNode (Kn ((Chg.refl _ _).setCell _ (fun _ _ => rfl))) ?_ ⟨rfl, rfl, rfl, rfl, rfl, rfl, rfl, rfl, rfl⟩
 exact (h.blk.set (i := 20) (by omega) (.slice none 0 0)).congr (by (intro i hi; rcases i with _ | _ | _ | _ | _ | _ | _ | _ | _ | _ | _ | _ | _ | _ | _ | _ | _ | _ | _ | _ | _ | _ | _ | _ | _ | _ | _ | i <;> first | rfl | exact absurd hi (by omega)))
theorem Turned.then {ov ov' : Value} {w w' w'' : World} {a a' a'' : Ad} {x x' x'' : Nd} (h : Turned ov w a x w' a' x') (k : Turned ov' w' a' x' w'' a'' x'') : Turned ov' w a x w'' a'' x'' :=
 ⟨k.node, ⟨k.chg.os.trans h.chg.os, k.chg.tape.trans h.chg.tape, k.chg.output.trans h.chg.output, Nat.le_trans h.chg.size k.chg.size, fun i o ho hs => k.chg.kept i o (h.chg.kept i o ho hs) (fun hk => (h.own i hk).elim hs (fun hl => absurd (Kb ho) (by omega)))⟩,
  fun j hj => (k.own j hj).elim (h.own j) (fun hl => .inr (Nat.le_trans h.chg.size hl)), k.b.trans h.b⟩
theorem Turned.st {B : Nat} {w w' : World} {a a' : Ad} {x x' : Nd} {v : Value} (h : Turned v w a x w' a' x') {ps : List Pk} (ho : Jm w' B v ps) : St B w a x w' a' x' v ps :=
 ⟨h.node, ho, h.chg.mono (fun _ _ _ => .inl), h.own, h.b⟩
theorem turned_dropped {w : World} {a : Ad} {ov : Value} {x : Nd} (h : NodeAt w a ov x) : Turned ov w a x (w.setCell ⟨a.b, 18, none⟩ (.int .i64 (x.dropped + 1))) a { x with dropped := x.dropped + 1 } := by
 refine ⟨?_, (Chg.refl _ _).setCell _ (fun _ _ => .inl rfl), fun _ => .inl, rfl⟩
 refine h.setNode (Kn ((Chg.refl _ _).setCell _ (fun _ _ => rfl))) ?_ ⟨rfl, rfl, rfl, rfl, rfl, rfl, rfl, rfl, rfl⟩
 exact (h.blk.set (i := 18) (by omega) (.int .i64 (x.dropped + 1))).congr (by (intro i hi; rcases i with _ | _ | _ | _ | _ | _ | _ | _ | _ | _ | _ | _ | _ | _ | _ | _ | _ | _ | _ | _ | _ | _ | _ | _ | _ | _ | _ | i <;> first | rfl | exact absurd hi (by omega)))
theorem receive_none {x : Nd} {C : Int} (hbd : Bd C x) (hC : C <= 1000000000000) (a : Ad) (ov : Value) (w : World) (h : NodeAt w a ov x) (s : ByteArray) (hm : s.size <= maxLen) (hd : Ja s.data.toList = none) :
  Calls Tryz.prog 56 #[.pointer (some ⟨a.b, 0, none⟩), .string s] w fun e w' => ∃ v, e = .returned v /\ Gives w a x (x.receive none) v w' := by
 have T0 := turned_nil h; obtain ⟨w0, hw0⟩ : ∃ w0, w.setCell ⟨a.b, 20, none⟩ (.slice none 0 0) = w0 := ⟨_, rfl⟩; rw [hw0] at T0; have c20 : w.cell? ⟨a.b, 20, none⟩ = some ov := h.blk.cell (by omega)
 have f20 := h.blk.free 20; have hdr := hbd.dropped; have wd : IntKind.i64.wrap (x.dropped + 1) = x.dropped + 1 := IntWalk.i64_in _ (by omega)
 have HT0 := Hd T0; have HW0 := Hd hw0; have HD := Hd hd; clear T0 hw0 h hd; go_enter Tryz.func56, Tryz.ntmps56
 go_wp2_with (first
  | (go_at_call 52; rw [HW0.out]; refine (message_any s w0 hm).mono ?_; rintro e w1 ⟨hb1, hp1⟩
     obtain rfl : e = .returned (.tuple #[noMsg, .iface 111 (.int .i64 2)]) := by
      rcases hp1 with ⟨_, e⟩ | ⟨e, _⟩
      · exact e
      · rw [HD.out] at e; cases e
     have HB1 := Hd hb1; have hd18 : ∀ o n, ((w1.alloc o).drewN n).cell? ⟨a.b, 18, none⟩ = some (.int .i64 x.dropped) := fun o n => ((HT0.out.node.below hb1).blk.alloc o).cell (by omega)
     have hf18 : ∀ o n, ((w1.alloc o).drewN n).frozen? ⟨a.b, 18, none⟩ = false := fun o n => ((HT0.out.node.below hb1).blk.alloc o).free 18
     clear hp1 hb1; unfold noMsg))
 go_quiet (fail); go_wp2; go_ret
 have hT1 := HT0.out.then ((Turned.below HT0.out.node HB1.out).then (Turned.drewN (Turned.alloc (HT0.out.node.below HB1.out) (.cells #[.int .i64 0, .int .i64 0, .int .i64 0, .int .i64 0, .int .i64 0, .slice none 0 0] 68)) nq)); exact ⟨_, rfl, a, hT1.then (turned_dropped hT1.node), Jm.nil _ _⟩
theorem receive_self_eq {x : Nd} {m : M} (h : m.frm = x.self.id) : x.receive (some m) = ([], { x with dropped := x.dropped + 1 }) := by
 unfold Nd.receive; simp only; rw [if_pos h]
theorem receive_own {x : Nd} {C : Int} (hbd : Bd C x) (hC : C <= 1000000000000) (a : Ad) (ov : Value) (w : World) (h : NodeAt w a ov x) (s : ByteArray) (hm : s.size <= maxLen) (m : M) (hd : Ja s.data.toList = some m) (hf : m.frm = x.self.id) :
  Calls Tryz.prog 56 #[.pointer (some ⟨a.b, 0, none⟩), .string s] w fun e w' => ∃ v, e = .returned v /\ Gives w a x (x.receive (some m)) v w' := by
 rw [receive_self_eq hf]; have T0 := turned_nil h; obtain ⟨w0, hw0⟩ : ∃ w0, w.setCell ⟨a.b, 20, none⟩ (.slice none 0 0) = w0 := ⟨_, rfl⟩; rw [hw0] at T0; have c20 : w.cell? ⟨a.b, 20, none⟩ = some ov := h.blk.cell (by omega)
 have f20 := h.blk.free 20; have hdr := hbd.dropped; have wd : IntKind.i64.wrap (x.dropped + 1) = x.dropped + 1 := IntWalk.i64_in _ (by omega)
 obtain ⟨kind, frm, inc, seq, tgt, ups⟩ := m; simp only at hf; have hfb : (frm == x.self.id) = true := by simpa using hf
 have HT0 := Hd T0; have HW0 := Hd hw0; have HD := Hd hd; clear T0 hw0 h hd hf; go_enter Tryz.func56, Tryz.ntmps56
 go_wp2_with (first
  | (go_at_call 52; rw [HW0.out]; refine (message_any s w0 hm).mono ?_; rintro e w1 ⟨hb1, hp1⟩
     obtain ⟨v, rfl, hrow⟩ : ∃ v, e = .returned (.tuple #[(⟨kind, frm, inc, seq, tgt, ups⟩ : M).agg v, .nilIface]) /\ w1.ownsRow w0.heap.size 76 3 v ups.length (Kd ups) := by
      rcases hp1 with ⟨e, _⟩ | ⟨e, v, e', hr⟩
      · rw [HD.out] at e; cases e
      · have e2 := HD.out
        rw [e] at e2; simp only [Option.some.injEq] at e2; rw [e2] at e' hr; exact ⟨v, e', hr⟩
     obtain ⟨ma, mc, rfl⟩ := Kg hrow; have HB1 := Hd hb1; have hd7 : ∀ o n, ((w1.alloc o).drewN n).cell? ⟨a.b, 7, none⟩ = some (.int .i64 x.self.id) := fun o n => ((HT0.out.node.below hb1).blk.alloc o).cell (by omega)
     have hd18 : ∀ o n, ((w1.alloc o).drewN n).cell? ⟨a.b, 18, none⟩ = some (.int .i64 x.dropped) := fun o n => ((HT0.out.node.below hb1).blk.alloc o).cell (by omega)
     have hf18 : ∀ o n, ((w1.alloc o).drewN n).frozen? ⟨a.b, 18, none⟩ = false := fun o n => ((HT0.out.node.below hb1).blk.alloc o).free 18
     clear hp1 hb1 hrow; unfold M.agg))
 go_quiet (fail); go_wp2; go_ret
 have hT1 := HT0.out.then ((Turned.below HT0.out.node HB1.out).then (Turned.drewN (Turned.alloc (HT0.out.node.below HB1.out) (.cells #[.int .i64 kind, .int .i64 frm, .int .i64 inc, .int .i64 seq, .int .i64 tgt, .slice ma ups.length mc] 68)) nq)); exact ⟨_, rfl, a, hT1.then (turned_dropped hT1.node), Jm.nil _ _⟩
theorem table_any (m : M) (ma : Option Addr) (mn mc : Nat) (w : World) : Calls Tryz.prog 124 #[m.agg (.slice ma mn mc)] w fun e w' => e = .returned (.tuple #[]) /\ Below w.heap.size w w' := by
 unfold M.agg; go_enter Tryz.func124, Tryz.ntmps124; go_wp2
 ((try simp only [Exit.inBlock, Exit.then]); first | refine bodyPost_ret (results_none rfl _ _ _) rfl ?_ | refine bodyPost_end (results_none rfl _ _ _) rfl ?_)
 exact ⟨rfl, (Below.refl _ _).alloc (Nat.le_refl _) _⟩
theorem receive_other {x : Nd} (ho : Ok x) {C : Int} (hbd : Bd C x) (hC : C <= 100000000000) (a : Ad) (ov : Value) (w : World) (h : NodeAt w a ov x) (s : ByteArray) (hm : s.size <= maxLen) (m : M) (hd : Ja s.data.toList = some m) (hf : m.frm ≠ x.self.id) (hmok : MOk m) :
  Calls Tryz.prog 56 #[.pointer (some ⟨a.b, 0, none⟩), .string s] w fun e w' => ∃ v, e = .returned v /\ Gives w a x (x.receive (some m)) v w' := by
 have T0 := turned_nil h; obtain ⟨w0, hw0⟩ : ∃ w0, w.setCell ⟨a.b, 20, none⟩ (.slice none 0 0) = w0 := ⟨_, rfl⟩; rw [hw0] at T0; have c20 : w.cell? ⟨a.b, 20, none⟩ = some ov := h.blk.cell (by omega)
 have f20 := h.blk.free 20; have hsz0 : w0.heap.size = w.heap.size := by rw [<- hw0]; simp
 have hre := receive_some hf; have hml := hmok.len; have hkk := hmok.kind; have HRE := Hd hre; have HMOK := Hd hmok; obtain ⟨kind, frm, inc, seq, tgt, ups⟩ := m; simp only at hf hml hkk; have hfb : (frm == x.self.id) = false := by simpa using hf
 have HL : Hid (∀ k, Zh a x k -> k < w.heap.size) := Hd (fun k hk => h.owns_lt hk)
 have HT0 := Hd T0; have HW0 := Hd hw0; have HD := Hd hd; have HO := Hd ho; have HBD := Hd hbd; clear T0 hw0 h hd hf hre hmok ho hbd; go_enter Tryz.func56, Tryz.ntmps56
 go_wp2_with (first
  | (go_at_call 52; rw [HW0.out]; refine (message_any s w0 hm).mono ?_; rintro e w1 ⟨hb1, hp1⟩
     obtain ⟨v, rfl, hrow⟩ : ∃ v, e = .returned (.tuple #[(⟨kind, frm, inc, seq, tgt, ups⟩ : M).agg v, .nilIface]) /\ w1.ownsRow w0.heap.size 76 3 v ups.length (Kd ups) := by
      rcases hp1 with ⟨e, _⟩ | ⟨e, v, e', hr⟩
      · rw [HD.out] at e; cases e
      · have e2 := HD.out
        rw [e] at e2; simp only [Option.some.injEq] at e2; rw [e2] at e' hr; exact ⟨v, e', hr⟩
     obtain ⟨ma, mc, rfl⟩ := Kg hrow; have HB1 := Hd hb1; have HROW := Hd hrow; have hd7 : ∀ o n, ((w1.alloc o).drewN n).cell? ⟨a.b, 7, none⟩ = some (.int .i64 x.self.id) := fun o n => ((HT0.out.node.below hb1).blk.alloc o).cell (by omega)
     clear hp1 hb1 hrow; unfold M.agg))
 go_quiet (fail); have hT2' := HT0.out.then ((Turned.below HT0.out.node HB1.out).then (Turned.drewN (Turned.alloc (HT0.out.node.below HB1.out) (.cells #[.int .i64 kind, .int .i64 frm, .int .i64 inc, .int .i64 seq, .int .i64 tgt, .slice ma ups.length mc] 68)) nq)); obtain ⟨w2, hw2⟩ : ∃ w2, (w1.alloc (.cells #[.int .i64 kind, .int .i64 frm, .int .i64 inc, .int .i64 seq, .int .i64 tgt, .slice ma ups.length mc] 68)).drewN nq = w2 := ⟨_, rfl⟩; rw [hw2] at hT2' ⊢; have hsz1 := HB1.out.size; have hx2 : w2.heap[w1.heap.size]? = some (.cells #[.int .i64 kind, .int .i64 frm, .int .i64 inc, .int .i64 seq, .int .i64 tgt, .slice ma ups.length mc] 68 (0, 0)) := by rw [<- hw2]; exact Kc w1 _
 have hr2 : w2.ownsRow w.heap.size 76 3 (.slice ma ups.length mc) ups.length (Kd ups) := by
  rw [<- hw2, <- hsz0]; exact Ju (World.ownsRow.alloc HROW.out _) (fun _ _ => rfl)
 have b1 := Ka hx2 1; have b2 := Ka hx2 2; simp only [List.getElem?_toArray, List.getElem?_cons_succ, List.getElem?_cons_zero] at b1 b2; have hk0 : Jp ⟨frm, inc, 1⟩ := ⟨HMOK.out.frm, HMOK.out.inc, by show (1 : Int) <= 1 /\ (1 : Int) <= 4; omega⟩
 have HK0 := Hd hk0; have HT2 := Hd hT2'; have HX2 := Hd hx2; have HR2 := Hd hr2; have hlt2 := Kb hx2; clear hT2' hx2 hr2 hw2 hk0 hd7 c20 f20
 have HKEEP : Hid (∀ (wr : World) (ar : Ad) (xr : Nd), Turned (.slice none 0 0) w2 a x wr ar xr -> ∀ j, w.heap.size <= j -> j < w2.heap.size -> wr.heap[j]? = w2.heap[j]?) := Hd (fun wr ar xr hT j h1 h2 => by
  rw [Array.getElem?_eq_getElem h2]; exact hT.chg.kept j _ (Array.getElem?_eq_getElem h2) (fun hk => by have := HL.out _ hk; omega))
 obtain ⟨x1, hx1⟩ : ∃ x1, x.hear ⟨frm, inc, 1⟩ = x1 := ⟨_, rfl⟩; have hok1 : Ok x1 := by rw [<- hx1]; exact HO.out.hear HBD.out.clock.1 HK0.out
 have hbd1 : Bd (C + 1) x1 := by rw [<- hx1]; exact HBD.out.hear _
 have HOK1 := Hd hok1; have HBD1 := Hd hbd1; have HX1 := Hd hx1; have hwsz : w.heap.size <= w2.heap.size := by omega
 clear hok1 hbd1 hx1
 go_wp2_with (first
  | (go_at_call 68; refine (hear_any HO.out HBD.out (by omega) a (.slice none 0 0) ⟨frm, inc, 1⟩ HK0.out w2 HT2.out.node).mono ?_; rintro e w3 ⟨rfl, a3, hT3⟩
     rw [HX1.out] at hT3; have hx3 := (HKEEP.out w3 a3 x1 hT3 _ (by omega) hlt2).trans HX2.out
     have b5 := Ka hx3 5; simp only [List.getElem?_toArray, List.getElem?_cons_succ, List.getElem?_cons_zero] at b5; have HT3 := Hd hT3; clear hT3 hx3))
 go_loopw [46] (fun i wr => ∃ (k : Nat) (ak : Ad), k <= ups.length /\ i = .int .i64 k /\ Turned (.slice none 0 0) w2 a x wr ak ((ups.take k).foldl Nd.hear x1)) (fun i _ => ups.length - (intOf i).toNat)
 case atStart => exact ⟨0, a3, Nat.zero_le _, rfl, HT3.out⟩
 case round =>
  obtain ⟨k, ak, hk, rfl, hT⟩ := hrel
  have hrow := Ju (w' := wr) HR2.out (fun j hj => by
   obtain ⟨q1, cu, q2⟩ := Ke HR2.out hj; exact HKEEP.out wr ak _ hT j q1 (Kb q2))
  have hxr := (HKEEP.out wr ak _ hT _ (by omega) hlt2).trans HX2.out
  have hab := hT.b; have HT := Hd hT; have HAB := Hd hab; have HXR := Hd hxr; have HROWR := Hd hrow; have hsub : ∀ q ∈ ups.take k, Jp q := fun q hq => HMOK.out.ups q (List.mem_of_mem_take hq)
  have hokk : Ok ((ups.take k).foldl Nd.hear x1) := HOK1.out.hears (by rw [<- HX1.out, (same_hear _ _).clock]; exact HBD.out.clock.1) _ hsub
  have hbdk : Bd (C + 9) ((ups.take k).foldl Nd.hear x1) := (Bd.hears (ups.take k) HBD1.out).mono (by rw [List.length_take]; omega)
  have HOKK := Hd hokk; have HBDK := Hd hbdk; clear hT hrow hxr hab hsub hokk hbdk; by_cases hlt : k < ups.length
  · obtain ⟨_, hka⟩ := keysAt_row HROWR.out
    have hu := List.getElem?_eq_getElem hlt; obtain ⟨q, hq⟩ : ∃ q, ups[k] = q := ⟨_, rfl⟩; rw [hq] at hu; obtain ⟨g, off, hma, hg, k0, k1, k2⟩ := hka k q hu; subst hma; have hqk : Jp q := HMOK.out.ups q (List.mem_of_getElem? hu); obtain ⟨q1, q2, q3⟩ := q; simp only at k0 k1 k2; have HU := Hd hu; have HQK := Hd hqk; clear hka hu hqk hq
    go_wp2_with (first
     | (go_at_call 68
        have hh := hear_any HOKK.out HBDK.out (by omega) ak (.slice none 0 0) ⟨q1, q2, q3⟩ HQK.out _ (Turned.alloc HT.out.node (.cells #[.int .i64 q1, .int .i64 q2, .int .i64 q3] 76)).node
        rw [HAB.out] at hh; refine hh.mono ?_; rintro e w4 ⟨rfl, a4, hT4⟩))
    go_roundw
    case rel =>
     refine ⟨k + 1, a4, by omega, by go_num, ?_⟩
     rw [List.take_add_one, HU.out, List.foldl_append]; exact HT.out.then ((Turned.alloc HT.out.node _).then hT4)
    case measure => simp [intOf]; omega
  · have hkn : k = ups.length := by omega
    subst hkn; rw [List.take_length] at HT HOKK HBDK; have hxm : ups.foldl Nd.hear x1 = x.heardAll ⟨kind, frm, inc, seq, tgt, ups⟩ := by rw [<- HX1.out]; rfl
    have HXM := Hd hxm; clear hxm; obtain ⟨xn, hxn⟩ : ∃ xn, ups.foldl Nd.hear x1 = xn := ⟨_, rfl⟩; rw [hxn] at HT HOKK HBDK HXM; clear hxn; have b0 := Ka HXR.out 0; have b1' := Ka HXR.out 1; have b2' := Ka HXR.out 2; have b3 := Ka HXR.out 3; have b4 := Ka HXR.out 4; have b5' := Ka HXR.out 5; simp only [List.getElem?_toArray, List.getElem?_cons_succ, List.getElem?_cons_zero] at b0 b1' b2' b3 b4 b5'; have n22 : wr.cell? ⟨a.b, 22, none⟩ = some (boundV a.b 120) := by have := HT.out.node.blk.cell (i := 22) (by omega); rw [HAB.out] at this; rw [this]; simp only [nodeF, HAB.out]
    have n23 : wr.cell? ⟨a.b, 23, none⟩ = some (boundV a.b 121) := by have := HT.out.node.blk.cell (i := 23) (by omega); rw [HAB.out] at this; rw [this]; simp only [nodeF, HAB.out]
    have n24 : wr.cell? ⟨a.b, 24, none⟩ = some (boundV a.b 122) := by have := HT.out.node.blk.cell (i := 24) (by omega); rw [HAB.out] at this; rw [this]; simp only [nodeF, HAB.out]
    have n25 : wr.cell? ⟨a.b, 25, none⟩ = some (boundV a.b 123) := by have := HT.out.node.blk.cell (i := 25) (by omega); rw [HAB.out] at this; rw [this]; simp only [nodeF, HAB.out]
    have n26 : wr.cell? ⟨a.b, 26, none⟩ = some (.func (.func 124) #[] #[]) := by have := HT.out.node.blk.cell (i := 26) (by omega); rw [HAB.out] at this; exact this
    unfold boundV at n22 n23 n24 n25; have HST := Hd (((HT2.out.then HT.out).st (B := w.heap.size) (ps := []) (Jm.nil _ _)).drewN 1); have hszr : w.heap.size <= wr.heap.size := by have := HT.out.chg.size; omega
    rcases (show kind = 1 \/ kind = 2 \/ kind = 3 \/ kind = 4 \/ kind = 5 by omega) with rfl | rfl | rfl | rfl | rfl
    · go_wp2
      (refine Jj 8 (by kernel_rfl) (by kernel_rfl) ?_; simp only [List.take_succ_cons, List.take_zero, List.drop_succ_cons, List.drop_zero])
      iterate 8 still_step
      refine wpStill_nil ?_
      go_wp2_with (first
       | (go_at_call 120
          have hh := pinged_any HOKK.out ak (.slice none 0 0) w.heap.size [] wr.drew HST.out.node HST.out.out hszr (by simp) ⟨1, frm, inc, seq, tgt, ups⟩ ma ups.length mc
          rw [HAB.out] at hh; refine hh.mono ?_; rintro e w5 ⟨rfl, a5, ov5, hT5⟩; have hT6 := HST.out.trans hT5; have c20 : w5.cell? ⟨a.b, 20, none⟩ = some ov5 := by rw [<- hT6.b]; exact hT6.node.blk.cell (by omega)
          have HT6 := Hd hT6; clear hT5 hT6))
      go_ret
      refine ⟨_, rfl, ?_⟩; rw [HRE.out, <- HXM.out]; exact Gives.of HT6.out
    · go_wp2
      (refine Jj 8 (by kernel_rfl) (by kernel_rfl) ?_; simp only [List.take_succ_cons, List.take_zero, List.drop_succ_cons, List.drop_zero])
      iterate 8 still_step
      refine wpStill_nil ?_
      go_wp2_with (first
       | (go_at_call 121
          have hh := acked_any HOKK.out ak (.slice none 0 0) w.heap.size [] wr.drew HST.out.node HST.out.out hszr (by simp) ⟨2, frm, inc, seq, tgt, ups⟩ HMOK.out ma ups.length mc
          rw [HAB.out] at hh; refine hh.mono ?_; rintro e w5 ⟨rfl, a5, ov5, hT5⟩; have hT6 := HST.out.trans hT5; have c20 : w5.cell? ⟨a.b, 20, none⟩ = some ov5 := by rw [<- hT6.b]; exact hT6.node.blk.cell (by omega)
          have HT6 := Hd hT6; clear hT5 hT6))
      go_ret
      refine ⟨_, rfl, ?_⟩; rw [HRE.out, <- HXM.out]; exact Gives.of HT6.out
    · go_wp2
      (refine Jj 8 (by kernel_rfl) (by kernel_rfl) ?_; simp only [List.take_succ_cons, List.take_zero, List.drop_succ_cons, List.drop_zero])
      iterate 8 still_step
      refine wpStill_nil ?_
      go_wp2_with (first
       | (go_at_call 122
          have hh := asked_any HOKK.out HBDK.out (by omega) ak (.slice none 0 0) w.heap.size [] wr.drew HST.out.node HST.out.out hszr (by simp) ⟨3, frm, inc, seq, tgt, ups⟩ HMOK.out rfl ma ups.length mc
          rw [HAB.out] at hh; refine hh.mono ?_; rintro e w5 ⟨rfl, a5, ov5, hT5⟩; have hT6 := HST.out.trans hT5; have c20 : w5.cell? ⟨a.b, 20, none⟩ = some ov5 := by rw [<- hT6.b]; exact hT6.node.blk.cell (by omega)
          have HT6 := Hd hT6; clear hT5 hT6))
      go_ret
      refine ⟨_, rfl, ?_⟩; rw [HRE.out, <- HXM.out]; exact Gives.of HT6.out
    · go_wp2
      (refine Jj 8 (by kernel_rfl) (by kernel_rfl) ?_; simp only [List.take_succ_cons, List.take_zero, List.drop_succ_cons, List.drop_zero])
      iterate 8 still_step
      refine wpStill_nil ?_
      go_wp2_with (first
       | (go_at_call 123
          have hh := joined_any HOKK.out ak (.slice none 0 0) w.heap.size [] wr.drew HST.out.node HST.out.out hszr (by simp) ⟨4, frm, inc, seq, tgt, ups⟩ ma ups.length mc
          rw [HAB.out] at hh; refine hh.mono ?_; rintro e w5 ⟨rfl, a5, ov5, hT5⟩; have hT6 := HST.out.trans hT5; have c20 : w5.cell? ⟨a.b, 20, none⟩ = some ov5 := by rw [<- hT6.b]; exact hT6.node.blk.cell (by omega)
          have HT6 := Hd hT6; clear hT5 hT6))
      go_ret
      refine ⟨_, rfl, ?_⟩; rw [HRE.out, <- HXM.out]; exact Gives.of HT6.out
    · go_wp2
      (refine Jj 8 (by kernel_rfl) (by kernel_rfl) ?_; simp only [List.take_succ_cons, List.take_zero, List.drop_succ_cons, List.drop_zero])
      iterate 8 still_step
      refine wpStill_nil ?_
      go_wp2_with (first
       | (go_at_call 124
          refine (table_any ⟨5, frm, inc, seq, tgt, ups⟩ ma ups.length mc wr.drew).mono ?_; rintro e w5 ⟨rfl, hb5⟩; have hT6 := HST.out.below hb5; have c20 : w5.cell? ⟨a.b, 20, none⟩ = some (.slice none 0 0) := by rw [<- hT6.b]; exact hT6.node.blk.cell (by omega)
          have HT6 := Hd hT6; clear hb5 hT6))
      go_ret
      refine ⟨_, rfl, ?_⟩; rw [HRE.out, <- HXM.out]; exact Gives.of HT6.out
theorem receive_any {x : Nd} (ho : Ok x) {C : Int} (hbd : Bd C x) (hC : C <= 100000000000) (a : Ad) (ov : Value) (w : World) (h : NodeAt w a ov x) (s : ByteArray) (hm : s.size <= maxLen) (hmok : ∀ m, Ja s.data.toList = some m -> MOk m) :
  Calls Tryz.prog 56 #[.pointer (some ⟨a.b, 0, none⟩), .string s] w fun e w' => ∃ v, e = .returned v /\ Gives w a x (x.receive (Ja s.data.toList)) v w' := by
 cases hd : Ja s.data.toList with
 | none => exact receive_none hbd (by omega) a ov w h s hm hd
 | some m =>
  by_cases hf : m.frm = x.self.id
  · exact receive_own hbd (by omega) a ov w h s hm m hd hf
  · exact receive_other ho hbd hC a ov w h s hm m hd hf (hmok m hd)
theorem owns_w2 (a : Ad) (x : Nd) : Zh a x a.w2 := by unfold Zh; simp
theorem NodeAt.setAt {w w' : World} {a : Ad} {ov : Value} {x : Nd} (h : NodeAt w a ov x) (e : Apart w w' (fun j => j = a.w2)) (k : Nat) (hb : w'.heap[a.w2]? = some (.cells #[.int .i64 (k : Int)] 3 (0, 0))) : NodeAt w' a ov { x with at_ := k } := by
 obtain ⟨es, n, hm⟩ := h.news.isMap; obtain ⟨es1, n1, hb1⟩ := h.others.isMap; obtain ⟨es2, n2, hb2⟩ := h.relays.isMap; obtain ⟨s, r, hc⟩ := h.chan; obtain ⟨cs, h0⟩ := h.blk.block; have h2 := h.box2
 have nt : ∀ {b : Nat} {cs' : Array Value} {t : TypeId} {f : Nat × Nat}, w.heap[b]? = some (.cells cs' t f) -> t ≠ 3 -> b ≠ a.w2 := by
  rintro b cs' t f h1 ht rfl; rw [h1] at h2; simp only [Option.some.injEq, Obj.cells.injEq] at h2; exact ht h2.2.1
 have nm : ∀ {b : Nat} {o : Obj}, w.heap[b]? = some o -> (∀ cs t f, o ≠ .cells cs t f) -> b ≠ a.w2 := by
  rintro b o h1 hno rfl; rw [h1] at h2; exact hno _ _ _ (Option.some.inj h2)
 exact
  { h with
    blk := h.blk.heap (e.at h0 (nt h0 (by decide)))
    others := h.others.heap (e.at hb1 (nm hb1 (by simp)))
    mems := fun m hm => (e.at (h.mems m hm) (nt (h.mems m hm) (by decide))).trans (h.mems m hm)
    queue := (e.at h.queue (nt h.queue (by decide))).trans h.queue
    news := h.news.heap (e.at hm (nm hm (by simp)))
    chan := ⟨s, r, (e.at hc (nm hc (by simp))).trans hc⟩
    pass := h.pass.heap (fun k hk => by obtain ⟨cur, hg⟩ := h.pass.blk hk; exact e.at hg (fun e' => h.ne4 (by rw [<- e']; exact hk)))
    prb := fun p hp => (e.at (h.prb p hp) (nt (h.prb p hp) (by decide))).trans (h.prb p hp)
    relays := h.relays.heap (e.at hb2 (nm hb2 (by simp)))
    box1 := (e.at h.box1 (nt h.box1 (by decide))).trans h.box1
    box2 := hb
    ds := h.ds.heap (fun k hk => by obtain ⟨cur, hg⟩ := h.ds.blk hk; exact e.at hg (fun e' => h.ne5 (by rw [<- e']; exact hk))) }
theorem draw_nil {x : Nd} (a : Ad) (ov : Value) (w : World) (h : NodeAt w a ov x) (n : Int) (hds : x.ds = []) :
  Calls Tryz.prog 82 #[.int .i64 n, .pointer (some ⟨a.w1, 0, none⟩), .pointer (some ⟨a.w2, 0, none⟩)] w fun e w' => e = .returned (.int .i64 (x.draw n).1) /\ Turned ov w a x w' a (x.draw n).2 := by
 have e : x.draw n = (0, x) := by unfold Nd.draw; rw [if_pos hds]
 rw [e]; have hb := h.box1; rw [hds] at hb; have c1 := Ka hb 0; simp only [List.getElem?_toArray, List.getElem?_cons_zero] at c1; have H := Hd h; clear h hb e hds; go_enter Tryz.func82, Tryz.ntmps82; go_wp2; go_ret
 exact ⟨rfl, Turned.refl H.out⟩
theorem draw_some {x : Nd} {C : Int} (hbd : Bd C x) (hC : C <= 1000000000000) (a : Ad) (ov : Value) (w : World) (h : NodeAt w a ov x) (n : Int) (hn : 1 <= n /\ n <= 1000) (hds : x.ds ≠ []) (hdl : x.ds.length <= 1000000) :
  Calls Tryz.prog 82 #[.int .i64 n, .pointer (some ⟨a.w1, 0, none⟩), .pointer (some ⟨a.w2, 0, none⟩)] w fun e w' => e = .returned (.int .i64 (x.draw n).1) /\ Turned ov w a x w' a (x.draw n).2 := by
 have e : x.draw n = (rawDraw x.ds x.at_ n, { x with at_ := x.at_ + 1 }) := by unfold Nd.draw; rw [if_neg hds]
 rw [e]; obtain ⟨len, hlen⟩ : ∃ len, x.ds.length = len := ⟨_, rfl⟩; have hpos : 0 < len := by rw [<- hlen]; exact List.length_pos_iff.2 hds
 obtain ⟨at_, hat⟩ : ∃ k, x.at_ = k := ⟨_, rfl⟩; have hidx : at_ % len < x.ds.length := by rw [hlen]; exact Nat.mod_lt _ hpos
 obtain ⟨kv, hkv⟩ : ∃ kv, x.ds[at_ % len] = kv := ⟨_, rfl⟩; have hfit : fitsI kv := h.dfit kv (by rw [<- hkv]; exact List.getElem_mem hidx)
 unfold fitsI at hfit
 obtain ⟨p, hda⟩ : ∃ p, a.da = some p := by
  cases hda : a.da with
  | none => exact absurd (h.ds0 hda).1 hds
  | some p => exact ⟨p, rfl⟩
 obtain ⟨cur, hg, hsp, hoc, hcs⟩ := h.ds.2.2 p hda; have hcap := h.ds.2.1; obtain ⟨pb, po, psp⟩ := p; simp only at hg hsp hoc hcs; subst hsp
 have cv : w.cell? ⟨pb, po + at_ % len, none⟩ = some (.int .i64 kv) := by
  rw [Ka hg]; exact hcs _ _ (by rw [List.getElem?_eq_getElem hidx, hkv])
 have hb1 := h.box1; have hb2 := h.box2; rw [hda, hlen] at hb1; rw [hat] at hb2; have c1 := Ka hb1 0; have c2 := Ka hb2 0; have f2 := Kr hb2 0; simp only [List.getElem?_toArray, List.getElem?_cons_zero] at c1 c2
 have hraw : rawDraw x.ds x.at_ n = (if kv < 0 then -(kv + 1) else kv) % n := by
  unfold rawDraw; rw [hlen, hat, List.getD_eq_getElem?_getD, List.getElem?_eq_getElem hidx, hkv]; rfl
 have hatb : (at_ : Int) <= C := by rw [<- hat]; exact hbd.at_
 have w1 : IntKind.i64.wrap ((at_ : Int) + 1) = ((at_ + 1 : Nat) : Int) := by rw [IntWalk.i64_in _ (by omega)]; omega
 have r1 : ((at_ : Int).tmod (len : Int)) = ((at_ % len : Nat) : Int) := by rw [Int.tmod_eq_emod_of_nonneg (by omega)]; rfl
 have HRAW := Hd hraw; have HB2 := Hd hb2; have HAT := Hd hat; have H := Hd h; have hml : at_ % len < len := Nat.mod_lt _ hpos; have hl2 : ((len : Int) == 0) = false := by simp; omega
 clear h e hds hlen hat hkv hidx hcs hg hraw hb1 hb2 hda hoc hcap hbd hdl
 have hT : Hid (∀ nq, Turned ov w a x ((w.drewN nq).setCell ⟨a.w2, 0, none⟩ (.int .i64 ((at_ + 1 : Nat) : Int))) a { x with at_ := x.at_ + 1 }) := by
  refine Hd fun nq => ⟨?_, (chg_of_drewN w _ nq).setCell _ (fun _ _ => owns_w2 a x), fun _ => .inl, rfl⟩
  refine NodeAt.setAt (w := w) H.out (Kn ((chg_of_drewN w _ nq).setCell _ (fun _ _ => rfl))) (x.at_ + 1) ?_
  rw [HAT.out]; exact Kf HB2.out
 go_enter Tryz.func82, Tryz.ntmps82; go_wp2; go_quiet (fail); by_cases hk : kv < 0
 · have w2 : IntKind.i64.wrap (kv + 1) = kv + 1 := IntWalk.i64_in _ (by omega)
   have w3 : IntKind.i64.wrap (-(kv + 1)) = -(kv + 1) := IntWalk.i64_in _ (by omega)
   have hge : 0 <= -(kv + 1) := by omega
   obtain ⟨y, hy⟩ : ∃ y, -(kv + 1) = y := ⟨_, rfl⟩; rw [hy] at w3 hge; have r2 : y.tmod n = y % n := Int.tmod_eq_emod_of_nonneg hge; have hn0 : (n == 0) = false := by simp; omega
   go_wp2; go_ret
   refine ⟨?_, hT.out nq⟩; rw [HRAW.out, if_pos hk, hy]; rfl
 · have hge : 0 <= kv := by omega
   have r2 : kv.tmod n = kv % n := Int.tmod_eq_emod_of_nonneg hge; have hn0 : (n == 0) = false := by simp; omega
   go_wp2; go_ret
   refine ⟨?_, hT.out nq⟩; rw [HRAW.out, if_neg (by omega)]; rfl
theorem draw_any {x : Nd} {C : Int} (hbd : Bd C x) (hC : C <= 1000000000000) (a : Ad) (ov : Value) (w : World) (h : NodeAt w a ov x) (n : Int) (hn : 1 <= n /\ n <= 1000) (hdl : x.ds.length <= 1000000) :
  Calls Tryz.prog 82 #[.int .i64 n, .pointer (some ⟨a.w1, 0, none⟩), .pointer (some ⟨a.w2, 0, none⟩)] w fun e w' => e = .returned (.int .i64 (x.draw n).1) /\ Turned ov w a x w' a (x.draw n).2 := by
 by_cases hds : x.ds = []
 · exact draw_nil a ov w h n hds
 · exact draw_some hbd hC a ov w h n hn hds hdl
structure Bx where
 g : Nat
 a : Ad
 x : Nd
def Foot (q : Bx) (k : Nat) : Prop := k = q.g \/ Zh q.a q.x k
def Bx.v (q : Bx) : Value := .pointer (some ⟨q.g, 0, none⟩)
structure BxAt (w : World) (B0 : Nat) (q : Bx) : Prop where
 node : ∃ ov, NodeAt w q.a ov q.x
 box : w.heap[q.g]? = some (.cells #[.pointer (some ⟨q.a.b, 0, none⟩)] 99 (0, 0))
 free : ¬ Zh q.a q.x q.g
 low : ∀ k, Foot q k -> B0 <= k
theorem BxAt.lt {w : World} {B0 : Nat} {q : Bx} (h : BxAt w B0 q) {k : Nat} (hk : Foot q k) : k < w.heap.size := by
 rcases hk with rfl | hk
 · exact Kb h.box
 · obtain ⟨ov, hn⟩ := h.node; exact hn.owns_lt hk
theorem BxAt.keep {w w' : World} {B0 : Nat} {q : Bx} (h : BxAt w B0 q) (e : ∀ k, Foot q k -> w'.heap[k]? = w.heap[k]?) : BxAt w' B0 q := by
 obtain ⟨ov, hn⟩ := h.node; exact ⟨⟨ov, hn.keep (fun k hk => e k (.inr hk))⟩, (e _ (.inl rfl)).trans h.box, h.free, h.low⟩
structure Bxs (w : World) (B0 : Nat) (l : List Bx) : Prop where
 at_ : ∀ q ∈ l, BxAt w B0 q
 apart : l.Pairwise (fun p q => ∀ k, Foot p k -> ¬ Foot q k)
theorem Bxs.nil (w : World) (B0 : Nat) : Bxs w B0 [] := ⟨by simp, List.Pairwise.nil⟩
theorem Bxs.keep {w w' : World} {B0 : Nat} {l : List Bx} (h : Bxs w B0 l) (e : ∀ q ∈ l, ∀ k, Foot q k -> w'.heap[k]? = w.heap[k]?) : Bxs w' B0 l :=
 ⟨fun q hq => (h.at_ q hq).keep (e q hq), h.apart⟩
theorem Bxs.below {w w' : World} {B0 : Nat} {l : List Bx} (h : Bxs w B0 l) (hb : Below w.heap.size w w') : Bxs w' B0 l :=
 h.keep (fun q hq k hk => hb.block k ((h.at_ q hq).lt hk))
theorem Bxs.add {w : World} {B0 : Nat} {l : List Bx} (h : Bxs w B0 l) {q : Bx} (hq : BxAt w B0 q) (ha : ∀ p ∈ l, ∀ k, Foot p k -> ¬ Foot q k) : Bxs w B0 (l ++ [q]) :=
 ⟨fun p hp => by rcases List.mem_append.1 hp with hp | hp
                 · exact h.at_ p hp
                 · rw [List.mem_singleton] at hp; subst hp; exact hq,
  List.pairwise_append.2 ⟨h.apart, List.pairwise_singleton _ _, fun p hp p' hp' => by rw [List.mem_singleton] at hp'; subst hp'; exact ha p hp⟩⟩
theorem pairwise_at {l : List Bx} (h : l.Pairwise (fun p q => ∀ k, Foot p k -> ¬ Foot q k)) {i j : Nat} {p q : Bx} (hp : l[i]? = some p) (hq : l[j]? = some q) (hne : i ≠ j) : ∀ k, Foot p k -> ¬ Foot q k := by
 rw [List.pairwise_iff_getElem] at h; obtain ⟨hi, rfl⟩ := List.getElem?_eq_some_iff.1 hp; obtain ⟨hj, rfl⟩ := List.getElem?_eq_some_iff.1 hq; rcases Nat.lt_or_gt_of_ne hne with e | e
 · exact h i j hi hj e
 · intro k h1 h2; exact h j i hj hi e k h2 h1
theorem Bxs.turn {w w' : World} {B0 : Nat} {l : List Bx} (h : Bxs w B0 l) (hB : B0 <= w.heap.size) {j : Nat} {q : Bx} (hq : l[j]? = some q) {v : Value} {a' : Ad} {x' : Nd} (ht : Turned v w q.a q.x w' a' x') :
  Bxs w' B0 (l.set j ⟨q.g, a', x'⟩) /\ (∀ k, Foot ⟨q.g, a', x'⟩ k -> Foot q k \/ w.heap.size <= k) := by
 have hqm := List.mem_of_getElem? hq; have hqa := h.at_ q hqm; have hold : ∀ k, ¬ Zh q.a q.x k -> k < w.heap.size -> w'.heap[k]? = w.heap[k]? := Kn ht.chg
 have hft : ∀ k, Foot ⟨q.g, a', x'⟩ k -> Foot q k \/ w.heap.size <= k := fun k hk => by
  rcases hk with hk | hk
  · exact .inl (.inl hk)
  · exact (ht.own k hk).imp .inr id
 refine ⟨⟨fun p hp => ?_, ?_⟩, hft⟩
 · obtain ⟨i, hi⟩ := List.mem_iff_getElem?.1 hp
   by_cases hij : j = i
   · subst hij
     rw [List.getElem?_set_self (List.getElem?_eq_some_iff.1 hq).1] at hi; cases hi
     refine ⟨⟨v, ht.node⟩, ?_, ?_, fun k hk => ?_⟩
     · show w'.heap[q.g]? = some (.cells #[.pointer (some ⟨a'.b, 0, none⟩)] _ _)
       rw [ht.b, hold _ hqa.free (Kb hqa.box)]; exact hqa.box
     · intro ho
       rcases ht.own _ ho with e | e
       · exact hqa.free e
       · have := Kb hqa.box; simp only at e; omega
     · rcases hft k hk with e | e
       · exact hqa.low k e
       · omega
   · rw [List.getElem?_set_ne hij] at hi
     have hpa := h.at_ p (List.mem_of_getElem? hi); refine hpa.keep (fun k hk => hold k (fun ho => ?_) (hpa.lt hk))
     exact pairwise_at h.apart hi hq (fun e => hij e.symm) k hk (.inr ho)
 · rw [List.pairwise_iff_getElem]
   intro i1 i2 h1 h2 hlt k hk1 hk2; rw [List.length_set] at h1 h2; rw [List.getElem_set] at hk1 hk2; by_cases e1 : j = i1
   · subst e1
     rw [if_pos rfl] at hk1; rw [if_neg (by omega)] at hk2
     have hp2 : l[i2]? = some l[i2] := List.getElem?_eq_getElem h2; rcases hft k hk1 with e | e
     · exact pairwise_at h.apart hq hp2 (by omega) k e hk2
     · have := (h.at_ _ (List.mem_of_getElem? hp2)).lt hk2; omega
   · rw [if_neg e1] at hk1
     have hp1 : l[i1]? = some l[i1] := List.getElem?_eq_getElem h1; by_cases e2 : j = i2
     · subst e2
       rw [if_pos rfl] at hk2; rcases hft k hk2 with e | e
       · exact pairwise_at h.apart hp1 hq (by omega) k hk1 e
       · have := (h.at_ _ (List.mem_of_getElem? hp1)).lt hk1; omega
     · rw [if_neg e2] at hk2
       have hp2 : l[i2]? = some l[i2] := List.getElem?_eq_getElem h2; exact pairwise_at h.apart hp1 hp2 (by omega) k hk1 hk2
structure Ns (w : World) (B0 : Nat) (v : Value) (l : List Bx) : Prop where
 bxs : Bxs w B0 l
 row : w.ownsRow B0 79 1 v l.length (l.map Bx.v)
 off : ∀ g, v.ownBlock = some g -> ∀ q ∈ l, ¬ Foot q g
theorem Ns.below {w w' : World} {B0 : Nat} {v : Value} {l : List Bx} (h : Ns w B0 v l) (hb : Below w.heap.size w w') : Ns w' B0 v l :=
 ⟨h.bxs.below hb, Ju h.row (fun k hk => hb.block k (h.row.lt k hk).2), h.off⟩
theorem Ns.drewN {w : World} {B0 : Nat} {v : Value} {l : List Bx} (h : Ns w B0 v l) (n : Nat) : Ns (w.drewN n) B0 v l :=
 ⟨h.bxs.keep (fun _ _ _ _ => rfl), Ju h.row (fun _ _ => rfl), h.off⟩
theorem set_v {l : List Bx} {j : Nat} {q : Bx} (hq : l[j]? = some q) (a' : Ad) (x' : Nd) : (l.set j ⟨q.g, a', x'⟩).map Bx.v = l.map Bx.v := by
 rw [List.map_set]; refine List.ext_getElem? (fun i => ?_)
 by_cases e : j = i
 · subst e
   rw [List.getElem?_set_self (by rw [List.length_map]; exact (List.getElem?_eq_some_iff.1 hq).1), List.getElem?_map, hq]; rfl
 · rw [List.getElem?_set_ne e]
theorem Ns.turn {w w' : World} {B0 : Nat} {rv : Value} {l : List Bx} (h : Ns w B0 rv l) (hB : B0 <= w.heap.size) {j : Nat} {q : Bx} (hq : l[j]? = some q) {v : Value} {a' : Ad} {x' : Nd} (ht : Turned v w q.a q.x w' a' x') :
  Ns w' B0 rv (l.set j ⟨q.g, a', x'⟩) := by
 obtain ⟨h1, h2⟩ := h.bxs.turn hB hq ht; refine ⟨h1, ?_, fun g hg p hp hf => ?_⟩
 · rw [List.length_set, set_v hq]
   exact Ju h.row (fun k hk => Kn ht.chg k (fun ho => h.off k hk q (List.mem_of_getElem? hq) (.inr ho)) (h.row.lt k hk).2)
 · obtain ⟨i, hi⟩ := List.mem_iff_getElem?.1 hp
   by_cases e : j = i
   · subst e
     rw [List.getElem?_set_self (List.getElem?_eq_some_iff.1 hq).1] at hi; cases hi
     rcases h2 g hf with e | e
     · exact h.off g hg q (List.mem_of_getElem? hq) e
     · have := (h.row.lt g hg).2; omega
   · rw [List.getElem?_set_ne e] at hi
     exact h.off g hg p (List.mem_of_getElem? hi) hf
theorem Bxs.under {w w' : World} {B0 : Nat} {l : List Bx} (h : Bxs w B0 l) (hB : B0 <= w.heap.size) {q : Bx} (hq : q ∈ l) {v : Value} {a' : Ad} {x' : Nd} (ht : Turned v w q.a q.x w' a' x') : Below B0 w w' :=
 ht.chg.below hB (fun k _ ho => (h.at_ q hq).low k (.inr ho))
theorem Ns.sl {w : World} {B0 : Nat} {v : Value} {l : List Bx} (h : Ns w B0 v l) (hl : 0 < l.length) : ∃ g c, v = .slice (some ⟨g, 0, none⟩) l.length c := by
 rcases h.row.2 with ⟨e, e'⟩ | ⟨g, cap, cur, e, _⟩
 · omega
 · exact ⟨g, cap, e⟩
theorem Ns.cell {w : World} {B0 : Nat} {g n c : Nat} {l : List Bx} (h : Ns w B0 (.slice (some ⟨g, 0, none⟩) n c) l) {i : Nat} {q : Bx} (hq : l[i]? = some q) : w.cell? ⟨g, i, none⟩ = some (.pointer (some ⟨q.g, 0, none⟩)) := by
 have hil := (List.getElem?_eq_some_iff.1 hq).1; rcases h.row.2 with ⟨e, e'⟩ | ⟨g', cap, cur, e, hB, hg, h1, h2, h3, h4⟩
 · omega
 · simp only [Value.slice.injEq] at e
   obtain ⟨e1, _, rfl⟩ := e; simp only [Option.some.injEq, Addr.mk.injEq] at e1; obtain ⟨rfl, _⟩ := e1; rw [Ka hg]; have : (cur.toList.take (l.length * 1))[i]? = some q.v := by rw [h4, List.getElem?_map, hq]; rfl
   rw [List.getElem?_take, if_pos (by omega), Array.getElem?_toList] at this
   exact this
theorem Ns.box {w : World} {B0 : Nat} {v : Value} {l : List Bx} (h : Ns w B0 v l) {i : Nat} {q : Bx} (hq : l[i]? = some q) : w.cell? ⟨q.g, 0, none⟩ = some (.pointer (some ⟨q.a.b, 0, none⟩)) := by
 rw [Ka (h.bxs.at_ q (List.mem_of_getElem? hq)).box]; rfl
