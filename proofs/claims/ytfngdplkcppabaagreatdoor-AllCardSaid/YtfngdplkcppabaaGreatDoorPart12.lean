/-
  Texts of the proof: SortedT, IdxT, DelT, DelTA, TabS, TakeN. No condition.
-/
import Derived.Test.YtfngdplkcppabaaGreatDoorPart01
import Derived.Test.YtfngdplkcppabaaGreatDoorPart11
import Derived.Test.YtfngdplkcppabaaGreatDoorPart09
import Derived.Lib.SliceRun
set_option linter.all false
set_option maxRecDepth 100000
set_option maxHeartbeats 4000000
namespace Go.Proofs.YtfngdplkcppabaaGreatDoor
open Go.RowKit
theorem flat_cellsT (ps : List (Int × Nat)) : (ps.map (·.2)).flatMap cellsT = ps.map (fun q => Jw q.2) := by
 induction ps with
 | nil => rfl
 | cons a r ih => simp only [List.map_cons, List.flatMap_cons, ih]; rfl
theorem collectT_any (b : Nat) (L : List (Int × Value)) (hE : ∀ p ∈ L, ∃ y : Nat, p.2 = Jw y) (Bm : Nat) (w : World) (hl : L.length < 1000000) (hBm : Bm < w.heap.size) (hm : w.cell? ⟨Bm, 0, none⟩ = some (.map (some b))) (hM : Kw Tryz.prog 3 w b L) :
  Calls Tryz.prog 129 #[.func (.func 131) #[] #[.pointer (some ⟨Bm, 0, none⟩)]] w fun e w' =>
   ∃ (v : Value) (ps : List (Int × Nat)), e = .returned v /\ (ps.map (fun p => (p.1, Jw p.2))).Perm L /\ w'.ownsRow w.heap.size 142 1 v ps.length ((ps.map (·.2)).flatMap cellsT) /\ (v = .slice none 0 0 ↔ ps = []) /\ Below w.heap.size w w' := by
 have HCOL := Hd ((callsIn_wide (n := 3)).1 (collT 3 (by omega) b L hE Bm w hl hBm hm hM))
 clear hM hm; go_enter Tryz.func129, Tryz.ntmps129; go_wp2_with (go_at_call 143; refine HCOL.out.mono ?_; rintro e W ⟨v, ps, rfl, hp, hrow, hnil, hb⟩)
 go_ret
 exact ⟨v, ps, rfl, hp, hrow, hnil, hb⟩
theorem sortedT_any (is : List Int) (mem : Int -> Nat) (b Bm : Nat) (w : World) (hr : Rise is) (hl : is.length < 1000000) (hBm : Bm < w.heap.size) (hm : w.cell? ⟨Bm, 0, none⟩ = some (.map (some b)))
  (hM : Kw Tryz.prog 3 w b (is.map (fun i => (i, Jw (mem i))))) (hc : ∀ i ∈ is, w.cell? ⟨mem i, 0, none⟩ = some (.int .i64 i)) :
  Calls Tryz.prog 90 #[.func (.func 131) #[] #[.pointer (some ⟨Bm, 0, none⟩)], .func (.func 92) #[] #[]] w fun e w' =>
   ∃ v, e = .returned v /\ w'.ownsRow w.heap.size 142 1 v is.length (is.map (fun i => Jw (mem i))) /\ (v = .slice none 0 0 ↔ is = []) /\ Below w.heap.size w w' := by
 have hcol := collectT_any b _ (fun p hp => by obtain ⟨i, _, rfl⟩ := List.mem_map.1 hp; exact ⟨mem i, rfl⟩) Bm w (by simpa using hl) hBm hm hM
 have HCOL := Hd hcol; clear hcol hM hm; go_enter Tryz.func90, Tryz.ntmps90
 go_wp2_with (first
  | (go_at_call 129; refine HCOL.out.mono ?_; rintro e W ⟨v, ps, rfl, hp, hrow, hnil, hb⟩))
 have hp1 : (ps.map (·.1)).Perm is := by
  have := hp.map (·.1)
  simpa [List.map_map, Function.comp_def] using this
 have hpm : ∀ q ∈ ps, q.1 ∈ is /\ q.2 = mem q.1 := fun q hq => by
  obtain ⟨i, hi, e⟩ := List.mem_map.1 (hp.mem_iff.1 (List.mem_map.2 ⟨q, hq, rfl⟩)); simp only [Prod.mk.injEq] at e; obtain ⟨rfl, e2⟩ := e; exact ⟨hi, (encT_inj e2).symm⟩
 have hlen : ps.length = is.length := by simpa using hp1.length_eq
 rcases hrow.2 with ⟨rfl, hz⟩ | ⟨g, cap, cur, rfl, hbase, hgb, hr1, hr2, hr3, hr4⟩
 · have his : is = [] := List.eq_nil_of_length_eq_zero (by omega)
   subst his; have hS := AnyF.slices_SortFunc_none (P := Tryz.prog) (ρ := laySortT_ren) { laySortT with } none 0 (.func (.func 92) #[] #[]) W
   change Calls Tryz.prog 130 _ _ _ at hS
   go_wp2_with (go_at_call 130; refine hS.mono ?_; rintro e w' ⟨rfl, rfl⟩)
   go_ret
   have hps : ps = [] := List.eq_nil_of_length_eq_zero (by simpa using hlen)
   subst hps; exact ⟨_, rfl, by simpa using hrow, by simp, hb⟩
 · have hne : ps ≠ [] := fun e => absurd (hnil.2 e) (by simp)
   have hfl : (ps.map (·.2)).flatMap cellsT = ps.map (fun q => Jw q.2) := flat_cellsT ps
   have hcs : ∀ i ∈ ps.map (·.1), mem i ≠ g /\ W.cell? ⟨mem i, 0, none⟩ = some (.int .i64 i) := fun i hi => by
    have h1 := hc i (hp1.mem_iff.1 hi); have hlt := World.block_lt_of_cell? _ _ h1; refine ⟨by simp only at hlt; omega, (hb.cell (p := ⟨mem i, 0, none⟩) hlt).trans h1⟩
   have hcur : ∀ (j : Nat) (i : Int), (ps.map (·.1))[j]? = some i -> cur[j]? = some (Jw (mem i)) := fun j i hj => by
    rw [List.getElem?_map] at hj; obtain ⟨q, hq, rfl⟩ := Option.map_eq_some_iff.1 hj
    have hjl : j < ps.length := by
     rcases Nat.lt_or_ge j ps.length with h' | h'
     · exact h'
     · rw [List.getElem?_eq_none h'] at hq; cases hq
    have h4 : (cur.toList.take (ps.length * 1))[j]? = some (Jw q.2) := by rw [hr4, hfl, List.getElem?_map, hq]; rfl
    rw [List.getElem?_take, if_pos (by omega), Array.getElem?_toList] at h4
    rw [h4, (hpm q (List.mem_of_getElem? hq)).2]
   have hS := sortT_any (ps.map (·.1)) mem g cap W cur hgb hcur (by simpa using hne) (by simp; omega) hcs
   rw [sort_rise hp1 hr, List.length_map] at hS; go_wp2_with (go_at_call 130; refine hS.mono ?_; rintro e w' ⟨rfl, hC, cur', hg', hs', hcur'⟩)
   go_ret
   have hne' : is ≠ [] := fun e => hne (List.eq_nil_of_length_eq_zero (by rw [hlen, e]; rfl))
   refine ⟨_, rfl, ⟨by simp, .inr ⟨g, cap, cur', by first | rfl | rw [hlen], hbase, hg', by omega, hr2, by omega, ?_⟩⟩, by simp [hne'], hb.trans (hC.below hb.size (fun k _ hk => by have hk : k = g := hk; omega))⟩
   refine List.ext_getElem? (fun j => ?_)
   rw [List.getElem?_take, List.getElem?_map, Array.getElem?_toList]; by_cases hj : j < is.length
   · rw [if_pos (by omega), List.getElem?_eq_getElem hj, hcur' j is[j] (List.getElem?_eq_getElem hj)]; rfl
   · rw [if_neg (by omega), List.getElem?_eq_none (by omega)]; rfl
def Says (B : Nat) (w0 : World) (g : Nat) (cb : Array Value) (is : List Int) (mem : Int -> Nat) (p : Int -> Bool) : Prop :=
 ∀ i ∈ is, ∀ W, Below B w0 W -> Calls Tryz.prog g (#[Jw (mem i)] ++ cb) W fun e W' => e = .returned (.bool (p i)) /\ ∃ q, W' = W.drewN q
theorem idxT_any (B : Nat) (w0 : World) (bx : Nat) (is : List Int) (mem : Int -> Nat) (p : Int -> Bool) (hP : Says B w0 95 #[.pointer (some ⟨bx, 0, none⟩)] is mem p) (g cap : Nat) (w : World) (hb : Below B w0 w) (hl : is.length < 1000000)
  (hc : ∀ (j : Nat) (i : Int), is[j]? = some i -> w.cell? ⟨g, j, none⟩ = some (Jw (mem i))) :
  Calls Tryz.prog 133 #[.slice (some ⟨g, 0, none⟩) is.length cap, .func (.func 95) #[] #[.pointer (some ⟨bx, 0, none⟩)]] w fun e w' => (∃ q, w' = w.drewN q) /\
   ((∃ (k : Nat) (hk : k < is.length), e = .returned (.int .i64 k) /\ p is[k] = true /\ ∀ j (hj : j < k), p (is[j]'(by omega)) = false) \/ (e = .returned (.int .i64 (-1)) /\ ∀ i ∈ is, p i = false)) := by
 have HP := Hd hP; have HC := Hd hc; clear hP hc; go_enter Tryz.func133, Tryz.ntmps133; go_wp2; go_loopw [8] (fun i wr => ∃ k : Nat, k <= is.length /\ i = .int .i64 k /\ (∃ q, wr = w.drewN q) /\ ∀ (j : Nat) (i : Int), j < k -> is[j]? = some i -> p i = false) (fun i _ => is.length - (intOf i).toNat)
 case atStart => exact ⟨0, by omega, rfl, ⟨0, rfl⟩, fun j _ h _ => by omega⟩
 case round =>
  obtain ⟨k, hk, rfl, ⟨q, rfl⟩, hA⟩ := hrel; have HA := Hd hA; clear hA; by_cases hlt : k < is.length
  · have hik := List.getElem?_eq_getElem hlt
    have c0 := HC.out k _ hik; obtain ⟨i, hi⟩ : ∃ i, is[k] = i := ⟨_, rfl⟩; rw [hi] at c0 hik; simp only [Jw] at c0; have hmem : i ∈ is := List.mem_of_getElem? hik; have HI := Hd hi; have HIK := Hd hik; have HM := Hd hmem; clear hi hik hmem; have wk : IntKind.i64.wrap ((k : Int) + 1) = ((k + 1 : Nat) : Int) := by rw [IntWalk.i64_in _ (by omega)]; omega
    have HD : Hid (∀ n, Calls Tryz.prog 95 #[.pointer (some ⟨mem i, 0, none⟩), .pointer (some ⟨bx, 0, none⟩)] (w.drewN n) fun e W' => e = .returned (.bool (p i)) /\ ∃ q, W' = (w.drewN n).drewN q) := Hd (fun n => HP.out i HM.out _ ⟨hb.os, hb.tape, hb.output, hb.size, hb.block⟩)
    cases hp : p i with
    | true =>
     rw [hp] at HD; go_wp2_with (go_at_call 95; refine (HD.out _).mono ?_; rintro e w' ⟨rfl, q2, rfl⟩)
     go_ret
     refine ⟨⟨_, rfl⟩, .inl ⟨k, hlt, rfl, by rw [HI.out]; exact hp, fun j hj => HA.out j _ hj (List.getElem?_eq_getElem (by omega))⟩⟩
    | false =>
     rw [hp] at HD; go_wp2_with (go_at_call 95; refine (HD.out _).mono ?_; rintro e w' ⟨rfl, q2, rfl⟩)
     refine ⟨⟨k + 1, by omega, rfl, ⟨_, rfl⟩, fun j i' hj hi' => ?_⟩, by simp only [intOf]; omega⟩
     rcases Nat.lt_or_ge j k with h | h
     · exact HA.out j i' h hi'
     · obtain rfl : j = k := by omega
       rw [HIK.out] at hi'; cases hi'
       exact hp
  · have : k = is.length := by omega
    subst this; go_wp2; go_ret
    refine ⟨⟨_, rfl⟩, .inr ⟨rfl, fun i hi => ?_⟩⟩
    obtain ⟨j, hj, e⟩ := List.mem_iff_getElem.1 hi; exact HA.out j i hj (by rw [List.getElem?_eq_getElem hj, e])
theorem chg_of_drewN (w : World) (S : Nat -> Obj -> Prop) (n : Nat) : Chg S w (w.drewN n) := ⟨rfl, rfl, rfl, Nat.le_refl _, fun _ _ h _ => h⟩
theorem setCells_at (b : Nat) : ∀ (vs : List Value) (o : Nat) (w : World) (cu : Array Value) (t : TypeId) (f : Nat × Nat), w.heap[b]? = some (.cells cu t f) ->
  Chg (fun j _ => j = b) w (w.setCells b o vs) /\ ∃ cu', (w.setCells b o vs).heap[b]? = some (.cells cu' t f) /\ cu'.size = cu.size /\ ∀ j, j < o -> cu'[j]? = cu[j]?
 | [], _, w, cu, _, _, h => ⟨Chg.refl _ w, cu, h, rfl, fun _ _ => rfl⟩
 | v :: r, o, w, cu, t, f, h => by
  obtain ⟨h1, cu', h2, h3, h4⟩ := setCells_at b r (o + 1) (w.setCell ⟨b, o, none⟩ v) _ t f (Kf h); refine ⟨((Chg.refl _ w).setCell _ (fun _ _ => rfl)).trans h1, cu', h2, by simpa using h3, fun j hj => ?_⟩
  rw [h4 j (by omega), Array.getElem?_setIfInBounds, if_neg (by omega)]
def kept (p : Int -> Bool) (is : List Int) (m : Nat) : List Int := (is.take m).filter (fun i => !p i)
theorem kept_succ {p : Int -> Bool} {is : List Int} {m : Nat} {i : Int} (h : is[m]? = some i) : kept p is (m + 1) = kept p is m ++ (if p i then [] else [i]) := by
 unfold kept; rw [List.take_add_one, h, List.filter_append]
 congr 1
 cases hp : p i <;> simp [hp]
theorem kept_all {p : Int -> Bool} {is : List Int} {m : Nat} (h : ∀ j i, j < m -> is[j]? = some i -> p i = false) : kept p is m = is.take m := by
 unfold kept; refine List.filter_eq_self.2 (fun i hi => ?_)
 obtain ⟨j, hj, e⟩ := List.mem_iff_getElem.1 hi; rw [List.length_take] at hj; rw [List.getElem_take] at e; rw [h j i (by omega) (by rw [List.getElem?_eq_getElem (by omega), e])]; rfl
theorem delT_some (B : Nat) (w0 : World) (bx : Nat) (is : List Int) (mem : Int -> Nat) (p : Int -> Bool) (hP : Says B w0 95 #[.pointer (some ⟨bx, 0, none⟩)] is mem p) (g cap : Nat) (w : World) (hb : Below B w0 w) (hl : is.length < 1000000)
  (cur : Array Value) (hg : w.heap[g]? = some (.cells cur 142 (0, 0))) (hBg : B <= g) (hcap : is.length <= cap) (hcs : cur.size = cap) (hc : ∀ (j : Nat) (i : Int), is[j]? = some i -> cur[j]? = some (Jw (mem i)))
  (k : Nat) (hk : k < is.length) (hpk : p is[k] = true) (hpj : ∀ j (hj : j < k), p (is[j]'(by omega)) = false) :
  Calls Tryz.prog 94 #[.slice (some ⟨g, 0, none⟩) is.length cap, .func (.func 95) #[] #[.pointer (some ⟨bx, 0, none⟩)]] w fun e w' =>
   e = .returned (.slice (some ⟨g, 0, none⟩) (is.filter (fun i => !p i)).length cap) /\ Chg (fun j _ => j = g) w w' /\
   ∃ cur' : Array Value, w'.heap[g]? = some (.cells cur' 142 (0, 0)) /\ cur'.size = cap /\ ∀ (j : Nat) (i : Int), (is.filter (fun i => !p i))[j]? = some i -> cur'[j]? = some (Jw (mem i)) := by
 have hidx : Calls Tryz.prog 133 #[.slice (some ⟨g, 0, none⟩) is.length cap, .func (.func 95) #[] #[.pointer (some ⟨bx, 0, none⟩)]] w fun e w' => e = .returned (.int .i64 k) /\ ∃ q, w' = w.drewN q := by
  refine (idxT_any B w0 bx is mem p hP g cap w hb hl (fun j i h => by rw [Ka hg]; exact hc j i h)).mono ?_
  rintro e w' ⟨hq, ⟨k', hk', rfl, h1, h2⟩ | ⟨rfl, h1⟩⟩
  · refine ⟨?_, hq⟩
    rcases Nat.lt_trichotomy k k' with h | h | h
    · have := h2 k h; rw [hpk] at this; cases this
    · rw [h]
    · have := hpj k' h; rw [h1] at this; cases this
  · have := h1 is[k] (List.getElem_mem hk); rw [hpk] at this; cases this
 have HI := Hd hidx; have HP := Hd hP; have HC := Hd hc; have HG := Hd hg; have HPJ := Hd hpj; have HPK := Hd hpk; have wk : IntKind.i64.wrap ((k : Int) + 1) = ((k + 1 : Nat) : Int) := by rw [IntWalk.i64_in _ (by omega)]; omega
 have hk1 : ((k : Int) == -1) = false := by rw [beq_eq_false_iff_ne]; omega
 clear hidx hP hc hg hpj hpk; go_enter Tryz.func94, Tryz.ntmps94; go_wp2_with (go_at_call 133; refine HI.out.mono ?_; rintro e w1 ⟨rfl, q, rfl⟩)
 go_loopw [5, 6] (fun i j wr => ∃ (n m : Nat), i = .int .i64 n /\ j = .int .i64 m /\ n < m /\ m <= is.length /\ n = (kept p is m).length /\ Chg (fun j _ => j = g) w wr /\ ∃ cu : Array Value, wr.heap[g]? = some (.cells cu 142 (0, 0)) /\ cu.size = cap /\
   (∀ (j : Nat) (i : Int), (kept p is m)[j]? = some i -> cu[j]? = some (Jw (mem i))) /\ (∀ (j : Nat) (i : Int), m <= j -> is[j]? = some i -> cu[j]? = some (Jw (mem i))))
  (fun _ j _ => is.length - (intOf j).toNat)
 case atStart =>
  have hka : kept p is (k + 1) = is.take k := by
   rw [kept_succ (List.getElem?_eq_getElem hk), HPK.out]; simp only [if_true, List.append_nil]; exact kept_all (fun j i hj hi => by have := HPJ.out j hj; rw [List.getElem?_eq_getElem (by omega)] at hi; cases hi; exact this)
  refine ⟨k, k + 1, rfl, by simp, by omega, by omega, by rw [hka, List.length_take]; omega, chg_of_drewN w _ _, cur, HG.out, hcs, fun j i h => ?_, fun j i _ h => HC.out j i h⟩
  rw [hka, List.getElem?_take] at h; by_cases hj : j < k
  · rw [if_pos hj] at h; exact HC.out j i h
  · rw [if_neg hj] at h; cases h
 case round =>
  obtain ⟨n, m, rfl, rfl, hnm, hm, hn, hC, cu, hgu, hcu, h1, h2⟩ := hrel; have HGU := Hd hgu; have H1 := Hd h1; have H2 := Hd h2; have HN := Hd hn; have HCH := Hd hC; have hbr : Below B w0 wr := hb.trans (hC.below (by have := Kb HG.out; omega) (fun k _ hk => by have hk : k = g := hk; omega))
  clear hgu h1 h2 hn hC; by_cases hlt : m < is.length
  · have hik := List.getElem?_eq_getElem hlt
    have c0 := H2.out m _ (Nat.le_refl _) hik; rw [<- Ka HGU.out] at c0; obtain ⟨i, hi⟩ : ∃ i, is[m] = i := ⟨_, rfl⟩; rw [hi] at c0 hik; simp only [Jw] at c0; have hmem : i ∈ is := List.mem_of_getElem? hik; have HIK := Hd hik; have HM := Hd hmem; have wm : IntKind.i64.wrap ((m : Int) + 1) = ((m + 1 : Nat) : Int) := by rw [IntWalk.i64_in _ (by omega)]; omega
    have wn : IntKind.i64.wrap ((n : Int) + 1) = ((n + 1 : Nat) : Int) := by rw [IntWalk.i64_in _ (by omega)]; omega
    clear hi hik hmem; have HD : Hid (∀ N, Calls Tryz.prog 95 #[.pointer (some ⟨mem i, 0, none⟩), .pointer (some ⟨bx, 0, none⟩)] (wr.drewN N) fun e W' => e = .returned (.bool (p i)) /\ ∃ q, W' = (wr.drewN N).drewN q) := Hd (fun N => HP.out i HM.out _ ⟨hbr.os, hbr.tape, hbr.output, hbr.size, hbr.block⟩)
    cases hp : p i with
    | true =>
     rw [hp] at HD; go_wp2_with (go_at_call 95; refine (HD.out 0).mono ?_; rintro e w' ⟨rfl, q2, rfl⟩)
     have hke : kept p is (m + 1) = kept p is m := by rw [kept_succ HIK.out, hp]; simp
     exact ⟨⟨n, m + 1, rfl, by simp, by omega, by omega, by rw [hke]; exact HN.out, HCH.out.trans (chg_of_drewN wr _ _), cu, HGU.out, hcu, by rw [hke]; exact H1.out, fun j i hj => H2.out j i (by omega)⟩, by simp only [intOf]; omega⟩
    | false =>
     rw [hp] at HD; have hnc : n < cu.size := by omega
     have cn : wr.cell? ⟨g, n, none⟩ = some cu[n] := by rw [Ka HGU.out]; exact Array.getElem?_eq_getElem hnc
     have fn : wr.frozen? ⟨g, n, none⟩ = false := Kr HGU.out n; go_wp2_with (go_at_call 95; refine (HD.out 0).mono ?_; rintro e w' ⟨rfl, q2, rfl⟩)
     have hke : kept p is (m + 1) = kept p is m ++ [i] := by rw [kept_succ HIK.out, hp]; simp
     refine ⟨⟨n + 1, m + 1, by simp, by simp, by omega, by omega, by rw [hke, List.length_append, <- HN.out]; rfl, (HCH.out.trans (chg_of_drewN wr _ _)).setCell _ (fun _ _ => rfl), _, Kf HGU.out, by simpa using hcu, fun j i' hj => ?_, fun j i' hj hi' => ?_⟩, by simp only [intOf]; omega⟩
     · rw [Array.getElem?_setIfInBounds]
       rw [hke] at hj; rcases Nat.lt_trichotomy j n with h | h | h
       · rw [if_neg (by omega)]
         rw [List.getElem?_append_left (by rw [<- HN.out]; exact h)] at hj
         exact H1.out j i' hj
       · subst h
         rw [List.getElem?_append_right (by rw [<- HN.out]; exact Nat.le_refl _), <- HN.out, Nat.sub_self] at hj
         simp only [List.getElem?_cons_zero, Option.some.injEq] at hj; subst hj; rw [if_pos rfl, if_pos hnc]; rfl
       · rw [List.getElem?_eq_none (by rw [List.length_append, <- HN.out]; simp; omega)] at hj
         cases hj
     · rw [Array.getElem?_setIfInBounds, if_neg (by omega)]
       exact H2.out j i' (by omega) hi'
  · have hml : m = is.length := by omega
    have hnl : n < is.length := by omega
    obtain ⟨wc, hwc⟩ : ∃ wc, wr.setCells g n (List.replicate (is.length - n) (Value.pointer none)) = wc := ⟨_, rfl⟩
    have hclr : ∀ ty c, (Builtin.clear_ #[140] ty #[.slice (some ⟨g, n, none⟩) (is.length - n) c]).run Tryz.prog wr = .ok (.tuple #[]) wc := fun ty c => by
     rw [<- hwc]
     exact Lib.run_clear_slice wr 140 142 ty (.pointer none) Tryz.underlying140 (fun w => by kernel_rfl) rfl rfl g n (is.length - n) c (by omega)
      (fun j hj => by rw [Ka HGU.out, Array.getElem?_eq_getElem (by omega)]; rfl) (fun j _ => Kr HGU.out _)
    have i1 : (0 : Int) <= n := by omega
    have i2 : (n : Int) <= is.length := by omega
    go_wp2; go_ret
    obtain ⟨hc1, cu', hc2, hc3, hc4⟩ := setCells_at g (List.replicate (is.length - n) (Value.pointer none)) n wr cu _ _ HGU.out; rw [hwc] at hc1 hc2; have hka : kept p is m = is.filter (fun i => !p i) := by rw [hml]; unfold kept; rw [List.take_length]
    have hnf : n = (is.filter (fun i => !p i)).length := by rw [<- hka]; exact HN.out
    refine ⟨by rw [<- hnf]; simp, HCH.out.trans hc1, cu', hc2, by omega, fun j i hj => ?_⟩
    rw [<- hka] at hj
    have hjn : j < n := by
     rcases Nat.lt_or_ge j n with h | h
     · exact h
     · rw [List.getElem?_eq_none (by have := HN.out; omega)] at hj; cases hj
    rw [hc4 j hjn]; exact H1.out j i hj
theorem delT_none (B : Nat) (w0 : World) (bx : Nat) (is : List Int) (mem : Int -> Nat) (p : Int -> Bool) (hP : Says B w0 95 #[.pointer (some ⟨bx, 0, none⟩)] is mem p) (g cap : Nat) (w : World) (hb : Below B w0 w) (hl : is.length < 1000000)
  (hc : ∀ (j : Nat) (i : Int), is[j]? = some i -> w.cell? ⟨g, j, none⟩ = some (Jw (mem i))) (hno : ∀ i ∈ is, p i = false) :
  Calls Tryz.prog 94 #[.slice (some ⟨g, 0, none⟩) is.length cap, .func (.func 95) #[] #[.pointer (some ⟨bx, 0, none⟩)]] w fun e w' =>
   e = .returned (.slice (some ⟨g, 0, none⟩) is.length cap) /\ ∃ q, w' = w.drewN q := by
 have hidx : Calls Tryz.prog 133 #[.slice (some ⟨g, 0, none⟩) is.length cap, .func (.func 95) #[] #[.pointer (some ⟨bx, 0, none⟩)]] w fun e w' => e = .returned (.int .i64 (-1)) /\ ∃ q, w' = w.drewN q := by
  refine (idxT_any B w0 bx is mem p hP g cap w hb hl hc).mono ?_; rintro e w' ⟨hq, ⟨k', hk', rfl, h1, h2⟩ | ⟨rfl, h1⟩⟩
  · rw [hno _ (List.getElem_mem hk')] at h1; cases h1
  · exact ⟨rfl, hq⟩
 have HI := Hd hidx; clear hidx hP hc; go_enter Tryz.func94, Tryz.ntmps94; go_wp2_with (go_at_call 133; refine HI.out.mono ?_; rintro e w1 ⟨rfl, q, rfl⟩)
 go_ret
 exact ⟨rfl, _, rfl⟩
theorem delT_nil (bx : Nat) (w : World) :
  Calls Tryz.prog 94 #[.slice none 0 0, .func (.func 95) #[] #[.pointer (some ⟨bx, 0, none⟩)]] w fun e w' => e = .returned (.slice none 0 0) /\ w' = w := by
 go_enter Tryz.func94, Tryz.ntmps94; go_wp2; go_loop [8] (fun i => i = .int .i64 0) (fun _ => 0)
 case atStart => rfl
 case round =>
  subst hrel; go_wp2; go_ret
  exact ⟨rfl, rfl⟩
theorem delT_any (B : Nat) (w0 : World) (bx : Nat) (is : List Int) (mem : Int -> Nat) (p : Int -> Bool) (hP : Says B w0 95 #[.pointer (some ⟨bx, 0, none⟩)] is mem p) (v : Value) (w : World) (hb : Below B w0 w) (hBw : B <= w.heap.size) (hl : is.length < 1000000)
  (hrow : w.ownsRow B 142 1 v is.length (is.map (fun i => Jw (mem i)))) :
  Calls Tryz.prog 94 #[v, .func (.func 95) #[] #[.pointer (some ⟨bx, 0, none⟩)]] w fun e w' =>
   ∃ v', e = .returned v' /\ w'.ownsRow B 142 1 v' (is.filter (fun i => !p i)).length ((is.filter (fun i => !p i)).map (fun i => Jw (mem i))) /\ Below B w0 w' := by
 rcases hrow.2 with ⟨rfl, hz⟩ | ⟨g, cap, cur, rfl, hBg, hg, h1, h2, h3, h4⟩
 · have his : is = [] := List.eq_nil_of_length_eq_zero hz
   subst his; refine (delT_nil bx w).mono ?_; rintro e w' ⟨rfl, rfl⟩; exact ⟨_, rfl, hrow, hb⟩
 · have hcur : ∀ (j : Nat) (i : Int), is[j]? = some i -> cur[j]? = some (Jw (mem i)) := fun j i hj => by
    have hjl : j < is.length := by
     rcases Nat.lt_or_ge j is.length with h' | h'
     · exact h'
     · rw [List.getElem?_eq_none h'] at hj; cases hj
    have h5 : (cur.toList.take (is.length * 1))[j]? = some (Jw (mem i)) := by rw [h4, List.getElem?_map, hj]; rfl
    rwa [List.getElem?_take, if_pos (by omega), Array.getElem?_toList] at h5
   by_cases hno : ∀ i ∈ is, p i = false
   · have hf : is.filter (fun i => !p i) = is := List.filter_eq_self.2 (fun i hi => by rw [hno i hi]; rfl)
     rw [hf]; refine (delT_none B w0 bx is mem p hP g cap w hb hl (fun j i hj => by rw [Ka hg]; exact hcur j i hj) hno).mono ?_
     rintro e w' ⟨rfl, q, rfl⟩; exact ⟨_, rfl, hrow, hb.os, hb.tape, hb.output, hb.size, hb.block⟩
   · obtain ⟨k, hk, hpk, hpj⟩ : ∃ (k : Nat) (hk : k < is.length), p is[k] = true /\ ∀ j (hj : j < k), p (is[j]'(by omega)) = false := by
      clear hrow h4 hcur hP hl h1
      induction is with
      | nil => exact absurd (fun i hi => by cases hi) hno
      | cons a r ih =>
       cases ha : p a with
       | true => exact ⟨0, by simp, ha, fun j hj => by omega⟩
       | false =>
        obtain ⟨k, hk, e1, e2⟩ := ih (fun h => hno (fun i hi => by rcases List.mem_cons.1 hi with rfl | hi; · exact ha
                                                                   · exact h i hi))
        refine ⟨k + 1, by simp; omega, by simpa using e1, fun j hj => ?_⟩
        cases j with
        | zero => exact ha
        | succ j => simpa using e2 j (by omega)
     refine (delT_some B w0 bx is mem p hP g cap w hb hl cur hg hBg h1 (by omega) hcur k hk hpk hpj).mono ?_
     rintro e w' ⟨rfl, hC, cur', hg', hs', hc'⟩; have hle := List.length_filter_le (fun i => !p i) is
     refine ⟨_, rfl, ⟨by simp, .inr ⟨g, cap, cur', rfl, hBg, hg', by omega, h2, by omega, ?_⟩⟩, hb.trans (hC.below hBw (fun k _ hk => by have hk : k = g := hk; omega))⟩
     refine List.ext_getElem? (fun j => ?_)
     rw [List.getElem?_take, List.getElem?_map, Array.getElem?_toList]; by_cases hj : j < (is.filter (fun i => !p i)).length
     · rw [if_pos (by omega), List.getElem?_eq_getElem hj, hc' j _ (List.getElem?_eq_getElem hj)]; rfl
     · rw [if_neg (by omega), List.getElem?_eq_none (by omega)]; rfl
theorem says2 (w0 : World) (g : Nat) (cb : Array Value) (is : List Int) (mem : Int -> Nat) (p : Int -> Bool) (bx : Nat) (hbx : w0.cell? ⟨bx, 0, none⟩ = some (.func (.func g) #[] cb))
  (eg : ∀ args w, (callFunc g args).run Tryz.prog w = .ok (.enter g args) w)
  (h : ∀ i ∈ is, ∀ W, Below w0.heap.size w0 W -> Calls Tryz.prog g (#[Jw (mem i)] ++ cb) W fun e W' => e = .returned (.bool (p i)) /\ ∃ q, W' = W.drewN q) :
  Says w0.heap.size w0 95 #[.pointer (some ⟨bx, 0, none⟩)] is mem (fun i => !p i) := by
 intro i hi W hW; have hlt := World.block_lt_of_cell? _ _ hbx; have c0 : W.cell? ⟨bx, 0, none⟩ = some (.func (.func g) #[] cb) := (hW.cell (p := ⟨bx, 0, none⟩) hlt).trans hbx; have HP := Hd (fun n => h i hi (W.drewN n) ⟨hW.os, hW.tape, hW.output, hW.size, hW.block⟩)
 clear h
 show Calls Tryz.prog 95 #[Jw (mem i), .pointer (some ⟨bx, 0, none⟩)] W _
 simp only [Jw] at HP ⊢; go_enter Tryz.func95, Tryz.ntmps95; go_wp2; refine (HP.out 0).mono ?_; rintro e w' ⟨rfl, q, rfl⟩; go_wp2; go_ret
 exact ⟨rfl, _, rfl⟩
theorem valuesT_any (b : Nat) (w : World) : Calls Tryz.prog 91 #[.map (some b)] w fun e w' =>
  e = .returned (.func (.func 131) #[] #[.pointer (some ⟨w.heap.size, 0, none⟩)]) /\ w' = w.alloc (.cells #[.map (some b)] 123) := by
 go_enter Tryz.func91, Tryz.ntmps91; go_wp2; go_ret
 exact ⟨rfl, rfl⟩
theorem tsorted_any (is : List Int) (mem : Int -> Nat) (p : Int -> Bool) (b : Nat) (g : Nat) (cb : Array Value) (w : World) (hr : Rise is) (hl : is.length < 1000000)
  (hM : Kw Tryz.prog 3 w b (is.map (fun i => (i, Jw (mem i))))) (hc : ∀ i ∈ is, w.cell? ⟨mem i, 0, none⟩ = some (.int .i64 i))
  (eg : ∀ args w, (callFunc g args).run Tryz.prog w = .ok (.enter g args) w)
  (h : ∀ i ∈ is, ∀ W, Below w.heap.size w W -> Calls Tryz.prog g (#[Jw (mem i)] ++ cb) W fun e W' => e = .returned (.bool (p i)) /\ ∃ q, W' = W.drewN q) :
  Calls Tryz.prog 66 #[.map (some b), .func (.func g) #[] cb] w fun e w' =>
   ∃ v, e = .returned v /\ w'.ownsRow w.heap.size 142 1 v (is.filter p).length ((is.filter p).map (fun i => Jw (mem i))) /\ Below w.heap.size w w' := by
 obtain ⟨w1, hw1⟩ : ∃ w1, w.alloc (.cells #[.func (.func g) #[] cb] 145) = w1 := ⟨_, rfl⟩; have hb1 : Below w.heap.size w w1 := by rw [<- hw1]; exact (Below.refl _ _).alloc (Nat.le_refl _) _
 have hs1 : w1.heap.size = w.heap.size + 1 := by rw [<- hw1]; simp
 have hx1 : w1.heap[w.heap.size]? = some (.cells #[.func (.func g) #[] cb] 145 (0, 0)) := by rw [<- hw1]; exact Kc w _
 obtain ⟨w2, hw2⟩ : ∃ w2, w1.alloc (.cells #[.map (some b)] 123) = w2 := ⟨_, rfl⟩; have hb2 : Below w.heap.size w w2 := by rw [<- hw2]; exact hb1.alloc (by omega) _
 have hb12 : Below w1.heap.size w1 w2 := by rw [<- hw2]; exact (Below.refl _ _).alloc (Nat.le_refl _) _
 have hs2 : w2.heap.size = w.heap.size + 2 := by rw [<- hw2]; simp; omega
 have hx2 : w2.heap[w.heap.size + 1]? = some (.cells #[.map (some b)] 123 (0, 0)) := by rw [<- hw2]; exact Jh _ _ (by omega)
 have hM2 : Kw Tryz.prog 3 w2 b (is.map (fun i => (i, Jw (mem i)))) := hM.heap (hb2.block b hM.lt)
 have hlt : ∀ i ∈ is, mem i < w.heap.size := fun i hi => World.block_lt_of_cell? _ _ (hc i hi)
 have hS := sortedT_any is mem b (w.heap.size + 1) w2 hr hl (by omega) (by rw [Ka hx2]; rfl) hM2 (fun i hi => (hb2.cell (p := ⟨mem i, 0, none⟩) (hlt i hi)).trans (hc i hi))
 have hSay := says2 w1 g cb is mem p w.heap.size (by rw [Ka hx1]; rfl) eg (fun i hi W hW => h i hi W (hb1.trans (hW.mono (by omega))))
 have HS := Hd hS; have HSAY := Hd hSay; have HW1 := Hd hw1; have HS1 := Hd hs1; have HW2 := Hd hw2; have HB12 := Hd hb12; have HB1 := Hd hb1; clear hM hM2 hc h hS hSay hw1 hw2 hx1 hx2 hb2 hb12 hb1; go_enter Tryz.func66, Tryz.ntmps66
 go_wp2_with (first
  | (go_at_call 91; rw [HW1.out]; refine (valuesT_any b w1).mono ?_; rintro e w' ⟨rfl, rfl⟩; rw [HW2.out, HS1.out])
  | (go_at_call 90; refine HS.out.mono ?_; rintro e w3 ⟨v, rfl, hrow, _, hb3⟩)
  | (go_at_call 94; refine (delT_any w1.heap.size w1 w.heap.size is mem _ HSAY.out v w3 (HB12.out.trans (hb3.mono (by omega))) (by have := hb3.size; omega) hl (Jl hrow (by omega))).mono ?_; rintro e w4 ⟨v', rfl, hrow', hb4⟩))
 go_ret
 simp only [Bool.not_not] at hrow'; exact ⟨_, rfl, Jl hrow' (by omega), HB1.out.trans (hb4.mono (by omega))⟩
theorem valuesQ_any (b : Nat) (w : World) : Calls Tryz.prog 126 #[.map (some b)] w fun e w' =>
  e = .returned (.func (.func 142) #[] #[.pointer (some ⟨w.heap.size, 0, none⟩)]) /\ w' = w.alloc (.cells #[.map (some b)] 209) := by
 go_enter Tryz.func126, Tryz.ntmps126; go_wp2; go_ret
 exact ⟨rfl, rfl⟩
def Jb (l : List Upd) : List Upd := (l.mergeSort Kv).take 4
def sendL (sends : Int) (l : List Upd) (u : Upd) : List Upd := l.filter (fun v => v.k.id != u.k.id) ++ (if u.sent + 1 = sends then [] else [⟨u.k, u.sent + 1⟩])
def takeL (sends : Int) (l : List Upd) : List Upd := l.filter (fun u => !((Jb l).any fun v => v.k.id == u.k.id)) ++ ((Jb l).map fun u => (⟨u.k, u.sent + 1⟩ : Upd)).filter (fun u => u.sent != sends)
theorem sendL_all (sends : Int) (l : List Upd) : ∀ (f : List Upd), (uids f).Nodup -> f.foldl (sendL sends) l = l.filter (fun u => !(f.any fun v => v.k.id == u.k.id)) ++ (f.map fun u => (⟨u.k, u.sent + 1⟩ : Upd)).filter (fun u => u.sent != sends) := by
 intro f hf
 suffices h : ∀ (f p : List Upd), (uids (p ++ f)).Nodup -> f.foldl (sendL sends) (l.filter (fun u => !(p.any fun v => v.k.id == u.k.id)) ++ (p.map fun u => (⟨u.k, u.sent + 1⟩ : Upd)).filter (fun u => u.sent != sends)) =
   l.filter (fun u => !((p ++ f).any fun v => v.k.id == u.k.id)) ++ ((p ++ f).map fun u => (⟨u.k, u.sent + 1⟩ : Upd)).filter (fun u => u.sent != sends) by
  have := h f [] (by simpa using hf)
  have e : l.filter (fun u => !(([] : List Upd).any fun v => v.k.id == u.k.id)) = l := List.filter_eq_self.2 (fun u _ => rfl)
  rw [e] at this
  simpa using this
 intro f
 induction f with
 | nil => intro p _; simp
 | cons a r ih =>
  intro p hp
  have hn : ∀ u ∈ p, u.k.id ≠ a.k.id := fun u hu e => by
   simp only [uids, List.map_append, List.map_cons] at hp; have := (List.nodup_append.1 hp).2.2 u.k.id (List.mem_map.2 ⟨u, hu, rfl⟩) a.k.id (by simp)
   exact this e
  have hpa : p ++ a :: r = (p ++ [a]) ++ r := by simp
  rw [List.foldl_cons, hpa, <- ih (p ++ [a]) (by rw [<- hpa]; exact hp)]
  congr 1
  unfold sendL; rw [List.filter_append, List.filter_filter]
  have e1 : (l.filter fun v => (v.k.id != a.k.id) && !(p.any fun v_1 => v_1.k.id == v.k.id)) = l.filter (fun u => !((p ++ [a]).any fun v => v.k.id == u.k.id)) := by
   refine List.filter_congr (fun u _ => ?_)
   simp only [List.any_append, List.any_cons, List.any_nil, Bool.or_false, Bool.not_or]; rw [Bool.and_comm]
   congr 1
   rw [bne, Bool.beq_comm]
  have e2 : ((p.map fun u => (⟨u.k, u.sent + 1⟩ : Upd)).filter (fun u => u.sent != sends)).filter (fun v => v.k.id != a.k.id) = (p.map fun u => (⟨u.k, u.sent + 1⟩ : Upd)).filter (fun u => u.sent != sends) := by
   refine List.filter_eq_self.2 (fun v hv => ?_)
   obtain ⟨u, hu, rfl⟩ := List.mem_map.1 (List.mem_filter.1 hv).1
   simpa using hn u hu
  rw [e1, e2, List.append_assoc, List.map_append, List.filter_append]
  congr 2
  by_cases h : a.sent + 1 = sends
  · simp [h]
  · simp [h]
theorem firstL_nd {l : List Upd} (h : (uids l).Nodup) : (uids (Jb l)).Nodup := by
 have hp : (uids (l.mergeSort Kv)).Perm (uids l) := (List.mergeSort_perm l Kv).map _; have := hp.nodup_iff.2 h; unfold Jb uids at *; rw [List.map_take]; exact this.sublist (List.take_sublist _ _)
theorem takeL_eq (sends : Int) {l : List Upd} (h : (uids l).Nodup) : (Jb l).foldl (sendL sends) l = takeL sends l := sendL_all sends l _ (firstL_nd h)
theorem qPairs_put2 (l : List Upd) (u : Upd) : (Jz l).filter (fun p => p.1 != u.k.id) ++ [(u.k.id, u.v)] = Jz (l.filter (fun v => v.k.id != u.k.id) ++ [u]) := by
 simp only [Jz, List.map_append, List.map_cons, List.map_nil, List.filter_map]
 rfl
theorem qPairs_del (l : List Upd) (i : Int) : (Jz l).filter (fun p => p.1 != i) = Jz (l.filter (fun v => v.k.id != i)) := by
 simp only [Jz, List.filter_map]
 rfl
theorem filter_put (l : List Upd) (u : Upd) : (l.filter (fun v => v.k.id != u.k.id) ++ [u]).filter (fun v => v.k.id != u.k.id) = l.filter (fun v => v.k.id != u.k.id) := by
 rw [List.filter_append, List.filter_filter]
 simp
structure TkI (bm : Nat) (sends : Int) (l : List Upd) (a : Option Addr) (cap : Nat) (w : World) (k : Nat) (vo : Value) (wr : World) : Prop where
 row : wr.ownsRow w.heap.size 205 4 (.slice a l.length cap) l.length ((l.mergeSort Kv).flatMap cellsQ)
 out : wr.ownsRow w.heap.size 76 3 vo k (Kd (((Jb l).map (·.k)).take k))
 map : Kw Tryz.prog 3 wr bm (Jz (((Jb l).take k).foldl (sendL sends) l))
 chg : Chg (fun j _ => j = bm) w wr
theorem rows_apart {w : World} {B e s n B' e' s' n' : Nat} {v u : Value} {xs ys : List Value} (h : w.ownsRow B e s v n xs) (h' : w.ownsRow B' e' s' u n' ys) (hne : e ≠ e') {k : Nat} (hk : v.ownBlock = some k) : u.ownBlock ≠ some k := fun hu => by
 obtain ⟨_, c, hc⟩ := Ke h hk; obtain ⟨_, c', hc'⟩ := Ke h' hu; rw [hc] at hc'; simp only [Option.some.injEq, Obj.cells.injEq] at hc'; exact hne hc'.2.1
theorem Chg.andThen {S S' : Nat -> Obj -> Prop} {w w1 w2 : World} (h : Chg S w w1) (h' : Chg S' w1 w2) (hS : ∀ k o, w.heap[k]? = some o -> S' k o -> S k o) : Chg S w w2 :=
 ⟨h'.os.trans h.os, h'.tape.trans h.tape, h'.output.trans h.output, Nat.le_trans h.size h'.size, fun k o ho hs => h'.kept k o (h.kept k o ho hs) (fun hk => hs (hS k o ho hk))⟩
theorem Ju {w w' : World} {B e s n : Nat} {v : Value} {xs : List Value} (h : w.ownsRow B e s v n xs) (hb : ∀ k, v.ownBlock = some k -> w'.heap[k]? = w.heap[k]?) : w'.ownsRow B e s v n xs := by
 refine ⟨h.1, ?_⟩; rcases h.2 with hn | ⟨g, cap, cur, rfl, hB, hg, rest⟩
 · exact .inl hn
 · exact .inr ⟨g, cap, cur, rfl, hB, (hb g rfl).trans hg, rest⟩
theorem keyCells_snoc (l : List K) (k : K) : Kd (l ++ [k]) = Kd l ++ [.int .i64 k.id, .int .i64 k.inc, .int .i64 k.st] := by simp [Kd]
theorem firstL_len (l : List Upd) : (Jb l).length = min 4 l.length := by unfold Jb; rw [List.length_take, List.length_mergeSort]
theorem sendL_len (sends : Int) (l : List Upd) (u : Upd) : (sendL sends l u).length <= l.length + 1 := by
 unfold sendL; rw [List.length_append]; have := List.length_filter_le (fun v : Upd => v.k.id != u.k.id) l
 split <;> simp <;> omega
theorem sendLs_len (sends : Int) (f : List Upd) : ∀ l : List Upd, (f.foldl (sendL sends) l).length <= l.length + f.length := by
 induction f with
 | nil => intro l; simp
 | cons a r ih => intro l; rw [List.foldl_cons]; have := ih (sendL sends l a); have := sendL_len sends l a; simp only [List.length_cons]; omega
theorem TkI.cells {bm : Nat} {sends : Int} {l : List Upd} {a : Option Addr} {cap : Nat} {w wr : World} {k : Nat} {vo : Value} (h : TkI bm sends l a cap w k vo wr) {u : Upd} (hu : (Jb l)[k]? = some u) :
  ∃ g, a = some ⟨g, 0, none⟩ /\ g < wr.heap.size /\ wr.cell? ⟨g, k * 4, none⟩ = some (.int .i64 u.k.id) /\ wr.cell? ⟨g, k * 4 + 1, none⟩ = some (.int .i64 u.k.inc) /\ wr.cell? ⟨g, k * 4 + 2, none⟩ = some (.int .i64 u.k.st) /\ wr.cell? ⟨g, k * 4 + 3, none⟩ = some (.int .i64 u.sent) := by
 have hs : (l.mergeSort Kv)[k]? = some u := by
  unfold Jb at hu; rw [List.getElem?_take] at hu
  split at hu
  · exact hu
  · cases hu
 have hat := fun t ht => flat_at cellsQ 4 (fun _ => rfl) (l.mergeSort Kv) k t ht u hs
 have hc := Ki.row h.row; obtain ⟨b0, o0, e0, l0, c0⟩ := hc _ _ (hat 0 (by omega))
 obtain ⟨b1, o1, e1, l1, c1⟩ := hc _ _ (hat 1 (by omega))
 obtain ⟨b2, o2, e2, l2, c2⟩ := hc _ _ (hat 2 (by omega))
 obtain ⟨b3, o3, e3, l3, c3⟩ := hc _ _ (hat 3 (by omega))
 have ho : o0 = 0 := by
  rcases h.row.2 with ⟨e, _⟩ | ⟨g, cp, cur, e, _⟩
  · rw [e0] at e; simp at e
  · rw [e0] at e; simp only [Value.slice.injEq, Option.some.injEq, Addr.mk.injEq] at e; exact e.1.2.1
 subst e0; simp only [Option.some.injEq, Addr.mk.injEq] at e1 e2 e3; obtain ⟨rfl, rfl, _⟩ := e1; obtain ⟨rfl, rfl, _⟩ := e2; obtain ⟨rfl, rfl, _⟩ := e3; subst ho; simp only [Nat.zero_add, Nat.add_zero] at c0 c1 c2 c3; exact ⟨b0, rfl, l0, c0, c1, c2, c3⟩
theorem take_news (bq bm : Nat) (sends : Int) (l : List Upd) (w : World) (hq : w.heap[bq]? = some (.cells #[.int .i64 sends, .map (some bm)] 211 (0, 0))) (hm : Kw Tryz.prog 3 w bm (Jz l)) (hnd : (uids l).Nodup) (hl : l.length < 900000)
  (hfit : ∀ u ∈ l, fitsI u.k.id /\ 0 <= u.sent /\ u.sent < 1000000) :
  Calls Tryz.prog 86 #[.pointer (some ⟨bq, 0, none⟩), .int .i64 4] w fun e w' =>
   ∃ v, e = .returned v /\ w'.ownsRow w.heap.size 76 3 v (Jb l).length (Kd ((Jb l).map (·.k))) /\ Kw Tryz.prog 3 w' bm (Jz (takeL sends l)) /\ Chg (fun k _ => k = bm) w w' := by
 obtain ⟨w1, hw1⟩ : ∃ w1, w.alloc (.cells #[.map (some bm)] 209) = w1 := ⟨_, rfl⟩; have hb1 : Below w.heap.size w w1 := by rw [<- hw1]; exact (Below.refl _ _).alloc (Nat.le_refl _) _
 have hs1 : w1.heap.size = w.heap.size + 1 := by rw [<- hw1]; simp
 have hx1 : w1.heap[w.heap.size]? = some (.cells #[.map (some bm)] 209 (0, 0)) := by rw [<- hw1]; exact Kc w _
 have hS := sortedQ_any l bm w.heap.size w1 hnd (by omega) (by omega) (by rw [Ka hx1]; rfl) (hm.heap (hb1.block bm hm.lt))
 have HS := Hd hS; have HW1 := Hd hw1; have HB1 := Hd hb1; have HM := Hd hm; have HQ := Hd hq; have HF := Hd hfit; have HND := Hd hnd; have c1 : w.cell? ⟨bq, 1, none⟩ = some (.map (some bm)) := by rw [Ka hq]; rfl
 clear hS hw1 hb1 hm hq hx1 hfit hnd; obtain ⟨n4, hn4⟩ : ∃ n4 : Nat, n4 = min 4 l.length := ⟨_, rfl⟩; have hmin : min 4 ((l.length : Nat) : Int) = (n4 : Int) := by omega
 have hn4l : n4 = (Jb l).length := by rw [firstL_len, hn4]
 have HN4 := Hd hn4l; have hn4c : n4 <= l.length := by omega
 have hn44 : n4 <= 4 := by omega
 clear hn4 hn4l; go_enter Tryz.func86, Tryz.ntmps86
 go_wp2_with (first
  | (go_at_call 126; refine (valuesQ_any bm w).mono ?_; rintro e w' ⟨rfl, rfl⟩; rw [HW1.out])
  | (go_at_call 125; refine HS.out.mono ?_; rintro e w2 ⟨v, rfl, hrow, hb2⟩; obtain ⟨a, cap, rfl⟩ := Kg hrow; have hcap : (n4 : Int) <= cap := by rcases hrow.2 with ⟨e, e'⟩ | ⟨g, cp, cur, e, _, _, h1, _⟩ <;> simp only [Value.slice.injEq] at e <;> omega))
 go_loopw [6, 22] (fun o i wr => ∃ (k : Nat), k <= n4 /\ i = .int .i64 k /\ TkI bm sends l a cap w k o wr) (fun _ i _ => n4 - (intOf i).toNat)
 case atStart => exact ⟨0, Nat.zero_le _, rfl, ⟨Jl hrow (by omega), ⟨rfl, .inl ⟨rfl, rfl⟩⟩, HM.out.heap ((hb2.block bm (by have := HM.out.lt; omega)).trans (HB1.out.block bm HM.out.lt)), Zc (HB1.out.trans (hb2.mono (by omega)))⟩⟩
 case round =>
  obtain ⟨k, hk, rfl, hI⟩ := hrel; have HI := Hd hI; clear hI hrow hb2; by_cases hlt : k < n4
  · have hu := List.getElem?_eq_getElem (show k < (Jb l).length by rw [<- HN4.out]; exact hlt)
    obtain ⟨u, hue⟩ : ∃ u, (Jb l)[k]'(by rw [<- HN4.out]; exact hlt) = u := ⟨_, rfl⟩
    rw [hue] at hu; obtain ⟨g, rfl, hg, c0, c1, c2, c3⟩ := HI.out.cells hu; obtain ⟨⟨u1, u2, u3⟩, u4⟩ := u; simp only at c0 c1 c2 c3; have HU := Hd hu; clear hu hue; obtain ⟨w3, hw3⟩ : ∃ w3, wr.alloc (.cells #[.int .i64 u1, .int .i64 u2, .int .i64 u3, .int .i64 u4] 205) = w3 := ⟨_, rfl⟩; have HW3 := Hd hw3; clear hw3; have hs3 : w3.heap.size = wr.heap.size + 1 := by rw [<- HW3.out]; simp
    have hx3 : w3.heap[wr.heap.size]? = some (.cells #[.int .i64 u1, .int .i64 u2, .int .i64 u3, .int .i64 u4] 205 (0, 0)) := by rw [<- HW3.out]; exact Kc wr _
    have d0 := Ka hx3 0; have d1 := Ka hx3 1; have d2 := Ka hx3 2; have d3 := Ka hx3 3; simp only [List.getElem?_toArray, List.getElem?_cons_succ, List.getElem?_cons_zero] at d0 d1 d2 d3; have hfr3 := Kr hx3; have hb3 : Below wr.heap.size wr w3 := by rw [<- HW3.out]; exact (Below.refl _ _).alloc (Nat.le_refl _) _
    have HX3 := Hd hx3; have HB3 := Hd hb3; have hout3 : w3.ownsRow w.heap.size 76 3 u6 k (Kd (((Jb l).map (·.k)).take k)) := Ks HI.out.out hb3; have HO3 := Hd (hout3.alloc (.cells #[.int .i64 u1, .int .i64 u2, .int .i64 u3] 76)); have HNW := Hd (Kt w3 [.int .i64 u1, .int .i64 u2, .int .i64 u3] 76 (n := wr.heap.size + 1) hs3.symm); have hwsz : w.heap.size <= wr.heap.size := HI.out.chg.size; have K3 := Hd (show k + 1 <= maxLen by unfold maxLen; omega)
    obtain ⟨i0, hi, hz0, hz1, hz2⟩ := info_parts info_key; clear hx3 hb3 hout3; go_upto_region 6 with (fail); rw [HW3.out]; go_wp2_with (at_builtin; refine wpList_append_own _ rfl _ _ 46 rfl w.heap.size 76 i0 _ 3 24 Tryz.underlying46 hi hz0 hz1 hz2 rfl (by decide) u6 k _ rfl HO3.out ⟨wr.heap.size + 1, 0, none⟩ 1 1 _ rfl rfl HNW.out (by simp [Value.oneCell']) K3.out (by omega) (by simp; omega) ?_)
    intro v' w5 hown5 hg5 hnil5; obtain ⟨ad', cp', rfl⟩ := Kg hown5; have hbm := HM.out.lt; have hbq := Kb HQ.out; have hu6 : ∀ j, u6.ownBlock = some j -> w.heap.size <= j /\ j < wr.heap.size := fun j hj => HI.out.out.lt j hj
    have hblk : ∀ j, j < w3.heap.size -> u6.ownBlock ≠ some j -> w5.heap[j]? = w3.heap[j]? := fun j hj hne => (hg5.block j (by simp; omega) (fun e => hne e.symm)).trans (Below.heap_alloc _ _ _ hj)
    have hold : ∀ j, j < wr.heap.size -> u6.ownBlock ≠ some j -> w5.heap[j]? = wr.heap[j]? := fun j hj hne => (hblk j (by omega) hne).trans (HB3.out.block j hj)
    have hx5 : w5.heap[wr.heap.size]? = some (.cells #[.int .i64 u1, .int .i64 u2, .int .i64 u3, .int .i64 u4] 205 (0, 0)) := (hblk _ (by omega) (fun e => by have := hu6 _ e; omega)).trans HX3.out
    have hc5 : Chg (fun j _ => u6.ownBlock = some j \/ j = bm \/ j = wr.heap.size) wr w5 :=
     ((Zc (S := fun j _ => u6.ownBlock = some j \/ j = bm \/ j = wr.heap.size) HB3.out).trans ((Chg.refl _ w3).alloc _)).grown hg5 (fun j o e _ => .inl e)
    have hm5 : Kw Tryz.prog 3 w5 bm (Jz (((Jb l).take k).foldl (sendL sends) l)) := HI.out.map.heap (hold bm HI.out.map.lt (fun e => by have := hu6 _ e; omega))
    have hrow5 : w5.ownsRow w.heap.size 205 4 (.slice (some ⟨g, 0, none⟩) l.length cap) l.length ((l.mergeSort Kv).flatMap cellsQ) :=
     ((Ks HI.out.row HB3.out).alloc _).kept hg5 (by
      cases hb : u6.ownBlock with
      | none => exact .inr (by simp [Value.ownBlock])
      | some j => exact .inr (fun e => rows_apart HI.out.row HI.out.out (by decide) e (by rw [hb])))
    have hq5 : w5.heap[bq]? = some (.cells #[.int .i64 sends, .map (some bm)] 211 (0, 0)) := by
     obtain ⟨es, n, hmm⟩ := HM.out.isMap; have h1 := HI.out.chg.kept _ _ HQ.out (Kx HQ.out hmm); exact (hold bq (Kb h1) (fun e => by have := hu6 _ e; omega)).trans h1
    obtain ⟨w6, hw6⟩ : ∃ w6, w5.setCell ⟨wr.heap.size, 3, none⟩ (.int .i64 (u4 + 1)) = w6 := ⟨_, rfl⟩; have hx6 : w6.heap[wr.heap.size]? = some (.cells #[.int .i64 u1, .int .i64 u2, .int .i64 u3, .int .i64 (u4 + 1)] 205 (0, 0)) := by rw [<- hw6]; exact Kf hx5
    have hne6 : ∀ j, j ≠ wr.heap.size -> w6.heap[j]? = w5.heap[j]? := fun j hj => by rw [<- hw6]; exact Kj _ _ _ _ _ hj
    have hc6 : Chg (fun j _ => u6.ownBlock = some j \/ j = bm \/ j = wr.heap.size) wr w6 := by rw [<- hw6]; exact hc5.setCell _ (fun _ _ => .inr (.inr rfl))
    have hm6 : Kw Tryz.prog 3 w6.drew bm (Jz (((Jb l).take k).foldl (sendL sends) l)) := hm5.heap (hne6 bm (by have := HI.out.map.lt; omega))
    have hq6 : w6.heap[bq]? = some (.cells #[.int .i64 sends, .map (some bm)] 211 (0, 0)) := (hne6 bq (by omega)).trans hq5
    have hlen6 : (((Jb l).take k).foldl (sendL sends) l).length < 1000000 - 1 := by
     have := sendLs_len sends ((Jb l).take k) l; rw [List.length_take] at this; have := hl; omega
    have hul : (⟨⟨u1, u2, u3⟩, u4⟩ : Upd) ∈ l := (List.mergeSort_perm l Kv).mem_iff.1 (List.mem_of_mem_take (List.mem_of_getElem? HU.out)); obtain ⟨hf1, hf2, hf3⟩ := HF.out _ hul; simp only at hf1 hf2 hf3; obtain ⟨w7, hr7, hm7, hg7, hs7⟩ := hm6.store Tryz.underlying3 Tryz.underlying209 (by rw [qPairs_len]; omega) u1 (wf_of_fits hf1) (.agg #[.int .i64 u1, .int .i64 u2, .int .i64 u3, .int .i64 (u4 + 1)])
    have wu : IntKind.i64.wrap (u4 + 1) = u4 + 1 := IntWalk.i64_in _ (by omega)
    have hx7 : w7.heap[wr.heap.size]? = some (.cells #[.int .i64 u1, .int .i64 u2, .int .i64 u3, .int .i64 (u4 + 1)] 205 (0, 0)) := (hg7.block _ (Kb hx6) (fun e => by cases e; have := HI.out.map.lt; omega)).trans hx6
    have hq7 : w7.heap[bq]? = some (.cells #[.int .i64 sends, .map (some bm)] 211 (0, 0)) := (hg7.block _ (Kb hq6) (fun e => by
     obtain ⟨es, n, hmm⟩ := HM.out.isMap; exact Kx HQ.out hmm (by cases e; rfl))).trans hq6
    have hc7 : Chg (fun j _ => u6.ownBlock = some j \/ j = bm \/ j = wr.heap.size) wr w7 := hc6.drew.grown hg7 (fun j o e _ => .inr (.inl (by cases e; rfl)))
    have hput : Kw Tryz.prog 3 w7 bm (Jz ((((Jb l).take k).foldl (sendL sends) l).filter (fun v => v.k.id != u1) ++ [⟨⟨u1, u2, u3⟩, u4 + 1⟩])) := by
     have e := qPairs_put2 (((Jb l).take k).foldl (sendL sends) l) ⟨⟨u1, u2, u3⟩, u4 + 1⟩; rw [<- e]; exact hm7
    have d60 := Ka hx6 0; have d61 := Ka hx6 1; have d62 := Ka hx6 2; have d63 := Ka hx6 3; have d70 := Ka hx7 0; have d73 := Ka hx7 3; have q61 := Ka hq6 1; have q71 := Ka hq7 1; have q70 := Ka hq7 0; have q51 := Ka hq5 1; have d53 := Ka hx5 3; have f5 := Kr hx5; simp only [List.getElem?_toArray, List.getElem?_cons_succ, List.getElem?_cons_zero] at d60 d61 d62 d63 d70 d73 q61 q71 q70 d53 q51; have hk7 : ∀ j, w.heap.size <= j -> j ≠ wr.heap.size -> j < w5.heap.size -> w7.heap[j]? = w5.heap[j]? := fun j h1 h2 h3 => (hg7.block j (by rw [<- hw6]; simpa using h3) (fun e => by cases e; omega)).trans (hne6 j h2)
    have HR7 := Hd (Ju hrow5 (fun j hj => by
     obtain ⟨a1, c, a2⟩ := Ke hrow5 hj; have := (HI.out.row.lt j hj).2; exact hk7 j a1 (by omega) (Kb a2)))
    have HO7 := Hd (Ju hown5 (fun j hj => by
     obtain ⟨a1, c, a2⟩ := Ke hown5 hj; exact hk7 j a1 (fun e => cells_ne a2 hx5 (by decide) e) (Kb a2)))
    have HW6 := Hd hw6; have HP7 := Hd hput; have HC7 := Hd hc7; have HOW := Hd hown5; have HROW := Hd hrow5; have HG5 := Hd hg5; have HN6 := Hd hne6; have HX7 := Hd hx7; have HG7 := Hd hg7; have HU6 := Hd hu6; clear hu6 hk7 hw6 hm5 hm6 hm7 hput hc5 hc6 hc7 hown5 hrow5 hg5 hblk hold hx5 hx6 hx7 hne6 hq5 hq6 hq7 hg7; go_upto_region 8 with (fail); rw [HW6.out]; go_region
    all_goals
     by_cases hs : u4 + 1 = sends
     · have hsb : (u4 + 1 == sends) = true := by simpa using hs
       have HS1 := Hd hs; clear hs; go_wp2; go_quiet (fail); obtain ⟨w8, hr8, hm8, hg8, hs8⟩ := Kw.drop (w := w7.drewN (nq + 1)) Tryz.underlying3 Tryz.underlying209 (HP7.out.heap rfl) u1 (wf_of_fits hf1) 0; have HM8 := Hd hm8; have HG8 := Hd hg8; clear hm8 hg8; go_upto_region 10 with (fail); go_region
       all_goals
        go_wp2; go_roundw
        case rel =>
         have ef : ((Jb l).take (k + 1)) = (Jb l).take k ++ [⟨⟨u1, u2, u3⟩, u4⟩] := by rw [List.take_add_one, HU.out]; rfl
         have ek : Kd (((Jb l).map (·.k)).take (k + 1)) = Kd (((Jb l).map (·.k)).take k) ++ [.int .i64 u1, .int .i64 u2, .int .i64 u3] := by
          rw [<- List.map_take, ef, List.map_append, <- List.map_take]; exact keyCells_snoc _ _
         refine ⟨k + 1, by omega, by go_num, ⟨?_, ?_, ?_, ?_⟩⟩
         · refine Ju HR7.out (fun j hj => ?_)
           obtain ⟨a1, c, a2⟩ := Ke HR7.out hj; exact HG8.out.block j (Kb a2) (fun e => by cases e; omega)
         · rw [ek]
           refine Ju HO7.out (fun j hj => ?_)
           obtain ⟨a1, c, a2⟩ := Ke HO7.out hj; exact HG8.out.block j (Kb a2) (fun e => by cases e; omega)
         · rw [ef, List.foldl_append]
           have e := HM8.out; rw [qPairs_del] at e
           show Kw _ _ _ _ (Jz (sendL sends _ ⟨⟨u1, u2, u3⟩, u4⟩))
           unfold sendL; rw [if_pos HS1.out, List.append_nil]; have e2 := filter_put (((Jb l).take k).foldl (sendL sends) l) ⟨⟨u1, u2, u3⟩, u4 + 1⟩; simp only at e2; rw [e2] at e; exact e
         · refine HI.out.chg.andThen (((HC7.out.trans (chg_of_drewN w7 _ _)).grown HG8.out (fun j o e _ => .inr (.inl (by cases e; rfl))))) (fun j o ho hj => ?_)
           have := Kb ho; rcases hj with hj | hj | hj
           · have := HU6.out j hj; omega
           · exact hj
           · omega
        case measure => simp [intOf]; omega
     · have hsb : (u4 + 1 == sends) = false := by simpa using hs
       have HS1 := Hd hs; clear hs; go_wp2; go_quiet (fail); go_wp2; go_roundw
       case rel =>
        have ef : ((Jb l).take (k + 1)) = (Jb l).take k ++ [⟨⟨u1, u2, u3⟩, u4⟩] := by rw [List.take_add_one, HU.out]; rfl
        have ek : Kd (((Jb l).map (·.k)).take (k + 1)) = Kd (((Jb l).map (·.k)).take k) ++ [.int .i64 u1, .int .i64 u2, .int .i64 u3] := by
         rw [<- List.map_take, ef, List.map_append, <- List.map_take]; exact keyCells_snoc _ _
        refine ⟨k + 1, by omega, by go_num, ⟨?_, ?_, ?_, ?_⟩⟩
        · exact Ju HR7.out (fun j hj => rfl)
        · rw [ek]
          exact Ju HO7.out (fun j hj => rfl)
        · rw [ef, List.foldl_append]
          show Kw _ _ _ _ (Jz (sendL sends _ ⟨⟨u1, u2, u3⟩, u4⟩))
          unfold sendL; rw [if_neg HS1.out]; exact HP7.out.heap rfl
        · refine HI.out.chg.andThen (HC7.out.trans (chg_of_drewN w7 _ _)) (fun j o ho hj => ?_)
          have := Kb ho; rcases hj with hj | hj | hj
          · have := HU6.out j hj; omega
          · exact hj
          · omega
       case measure => simp [intOf]; omega
  · have hkn : k = n4 := by omega
    subst hkn; go_wp2; go_ret
    have hI := HI.out; have e1 : ((Jb l).map (·.k)).take k = (Jb l).map (·.k) := List.take_of_length_le (by rw [List.length_map, <- HN4.out]; exact Nat.le_refl _)
    have e2 : (Jb l).take k = Jb l := List.take_of_length_le (by rw [<- HN4.out]; exact Nat.le_refl _)
    have h1 := hI.out; have h2 := hI.map; rw [e1] at h1; rw [e2, takeL_eq sends HND.out] at h2; exact ⟨_, rfl, by rw [<- HN4.out]; exact h1, h2, hI.chg⟩
