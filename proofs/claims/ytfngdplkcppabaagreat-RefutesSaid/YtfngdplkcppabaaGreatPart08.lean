/-
  slices.SortedFunc over maps.Values, members.
  slices.IndexFunc at members.
  slices.DeleteFunc at members.
  slices.DeleteFunc at members, whole.
  table.Sorted.
-/
import Derived.Test.YtfngdplkcppabaaGreatPart07
import Derived.Test.YtfngdplkcppabaaGreatPart04
import Derived.Lib.SliceRun
set_option linter.all false
namespace Go.Proofs.YtfngdplkcppabaaGreat
open Go.RowKit
theorem flat_cellsT (ps : List (Int × Nat)) : (ps.map (·.2)).flatMap cellsT = ps.map (fun q => encT q.2) := by
  induction ps with
  | nil => rfl
  | cons a r ih => simp only [List.map_cons, List.flatMap_cons, ih]; rfl
set_option maxRecDepth 100000 in
set_option maxHeartbeats 2000000 in
theorem collectT_any (b : Nat) (L : List (Int × Value)) (hE : ∀ p ∈ L, ∃ y : Nat, p.2 = encT y) (Bm : Nat) (w : World) (hl : L.length < 1000000) (hBm : Bm < w.heap.size) (hm : w.cell? ⟨Bm, 0, none⟩ = some (.map (some b))) (hM : MapAt Tryz.prog 3 w b L) :
    Calls Tryz.prog 63 #[.func (.func 65) #[] #[.pointer (some ⟨Bm, 0, none⟩)]] w fun e w' =>
      ∃ (v : Value) (ps : List (Int × Nat)), e = .returned v ∧ (ps.map (fun p => (p.1, encT p.2))).Perm L ∧ w'.ownsRow w.heap.size 83 1 v ps.length ((ps.map (·.2)).flatMap cellsT) ∧ (v = .slice none 0 0 ↔ ps = []) ∧ Below w.heap.size w w' := by
  have HCOL := Lib.hid ((callsIn_wide (n := 3)).1 (collT 3 (by omega) b L hE Bm w hl hBm hm hM))
  clear hM hm
  go_enter Tryz.func63, Tryz.ntmps63
  go_wp2_with (go_at_call 77; refine HCOL.out.mono ?_; rintro e W ⟨v, ps, rfl, hp, hrow, hnil, hb⟩)
  go_ret
  exact ⟨v, ps, rfl, hp, hrow, hnil, hb⟩
set_option maxRecDepth 100000 in
set_option maxHeartbeats 2000000 in
theorem sortedT_any (is : List Int) (mem : Int → Nat) (b Bm : Nat) (w : World) (hr : Rise is) (hl : is.length < 1000000) (hBm : Bm < w.heap.size) (hm : w.cell? ⟨Bm, 0, none⟩ = some (.map (some b)))
    (hM : MapAt Tryz.prog 3 w b (is.map (fun i => (i, encT (mem i))))) (hc : ∀ i ∈ is, w.cell? ⟨mem i, 0, none⟩ = some (.int .i64 i)) :
    Calls Tryz.prog 47 #[.func (.func 65) #[] #[.pointer (some ⟨Bm, 0, none⟩)], .func (.func 49) #[] #[]] w fun e w' =>
      ∃ v, e = .returned v ∧ w'.ownsRow w.heap.size 83 1 v is.length (is.map (fun i => encT (mem i))) ∧ (v = .slice none 0 0 ↔ is = []) ∧ Below w.heap.size w w' := by
  have hcol := collectT_any b _ (fun p hp => by obtain ⟨i, _, rfl⟩ := List.mem_map.1 hp; exact ⟨mem i, rfl⟩) Bm w (by simpa using hl) hBm hm hM
  have HCOL := Lib.hid hcol
  clear hcol hM hm
  go_enter Tryz.func47, Tryz.ntmps47
  go_wp2_with (first
    | (go_at_call 63; refine HCOL.out.mono ?_; rintro e W ⟨v, ps, rfl, hp, hrow, hnil, hb⟩))
  have hp1 : (ps.map (·.1)).Perm is := by
    have := hp.map (·.1)
    simpa [List.map_map, Function.comp_def] using this
  have hpm : ∀ q ∈ ps, q.1 ∈ is ∧ q.2 = mem q.1 := fun q hq => by
    obtain ⟨i, hi, e⟩ := List.mem_map.1 (hp.mem_iff.1 (List.mem_map.2 ⟨q, hq, rfl⟩))
    simp only [Prod.mk.injEq] at e
    obtain ⟨rfl, e2⟩ := e
    exact ⟨hi, (encT_inj e2).symm⟩
  have hlen : ps.length = is.length := by simpa using hp1.length_eq
  rcases hrow.2 with ⟨rfl, hz⟩ | ⟨g, cap, cur, rfl, hbase, hgb, hr1, hr2, hr3, hr4⟩
  · have his : is = [] := List.eq_nil_of_length_eq_zero (by omega)
    subst his
    have hS := AnyF.slices_SortFunc_none (P := Tryz.prog) (ρ := laySortT_ren) { laySortT with } none 0 (.func (.func 49) #[] #[]) W
    change Calls Tryz.prog 64 _ _ _ at hS
    go_wp2_with (go_at_call 64; refine hS.mono ?_; rintro e w' ⟨rfl, rfl⟩)
    go_ret
    have hps : ps = [] := List.eq_nil_of_length_eq_zero (by simpa using hlen)
    subst hps
    exact ⟨_, rfl, by simpa using hrow, by simp, hb⟩
  · have hne : ps ≠ [] := fun e => absurd (hnil.2 e) (by simp)
    have hfl : (ps.map (·.2)).flatMap cellsT = ps.map (fun q => encT q.2) := flat_cellsT ps
    have hcs : ∀ i ∈ ps.map (·.1), mem i ≠ g ∧ W.cell? ⟨mem i, 0, none⟩ = some (.int .i64 i) := fun i hi => by
      have h1 := hc i (hp1.mem_iff.1 hi)
      have hlt := World.block_lt_of_cell? _ _ h1
      refine ⟨by simp only at hlt; omega, (hb.cell (p := ⟨mem i, 0, none⟩) hlt).trans h1⟩
    have hcur : ∀ (j : Nat) (i : Int), (ps.map (·.1))[j]? = some i → cur[j]? = some (encT (mem i)) := fun j i hj => by
      rw [List.getElem?_map] at hj
      obtain ⟨q, hq, rfl⟩ := Option.map_eq_some_iff.1 hj
      have hjl : j < ps.length := by
        rcases Nat.lt_or_ge j ps.length with h' | h'
        · exact h'
        · rw [List.getElem?_eq_none h'] at hq; cases hq
      have h4 : (cur.toList.take (ps.length * 1))[j]? = some (encT q.2) := by rw [hr4, hfl, List.getElem?_map, hq]; rfl
      rw [List.getElem?_take, if_pos (by omega), Array.getElem?_toList] at h4
      rw [h4, (hpm q (List.mem_of_getElem? hq)).2]
    have hS := sortT_any (ps.map (·.1)) mem g cap W cur hgb hcur (by simpa using hne) (by simp; omega) hcs
    rw [sort_rise hp1 hr, List.length_map] at hS
    go_wp2_with (go_at_call 64; refine hS.mono ?_; rintro e w' ⟨rfl, hC, cur', hg', hs', hcur'⟩)
    go_ret
    have hne' : is ≠ [] := fun e => hne (List.eq_nil_of_length_eq_zero (by rw [hlen, e]; rfl))
    refine ⟨_, rfl, ⟨by simp, .inr ⟨g, cap, cur', by first | rfl | rw [hlen], hbase, hg', by omega, hr2, by omega, ?_⟩⟩, by simp [hne'], hb.trans (hC.below hb.size (fun k _ hk => by have hk : k = g := hk; omega))⟩
    refine List.ext_getElem? (fun j => ?_)
    rw [List.getElem?_take, List.getElem?_map, Array.getElem?_toList]
    by_cases hj : j < is.length
    · rw [if_pos (by omega), List.getElem?_eq_getElem hj, hcur' j is[j] (List.getElem?_eq_getElem hj)]; rfl
    · rw [if_neg (by omega), List.getElem?_eq_none (by omega)]; rfl
end Go.Proofs.YtfngdplkcppabaaGreat
namespace Go.Proofs.YtfngdplkcppabaaGreat
open Go.RowKit
/-- What a predicate on members says, in any world that leaves the caller's. -/
def Says (B : Nat) (w0 : World) (g : Nat) (cb : Array Value) (is : List Int) (mem : Int → Nat) (p : Int → Bool) : Prop :=
  ∀ i ∈ is, ∀ W, Below B w0 W → Calls Tryz.prog g (#[encT (mem i)] ++ cb) W fun e W' => e = .returned (.bool (p i)) ∧ ∃ q, W' = W.drewN q
set_option maxRecDepth 100000 in
set_option maxHeartbeats 1000000 in
theorem idxT_any (B : Nat) (w0 : World) (bx : Nat) (is : List Int) (mem : Int → Nat) (p : Int → Bool) (hP : Says B w0 52 #[.pointer (some ⟨bx, 0, none⟩)] is mem p) (g cap : Nat) (w : World) (hb : Below B w0 w) (hl : is.length < 1000000)
    (hc : ∀ (j : Nat) (i : Int), is[j]? = some i → w.cell? ⟨g, j, none⟩ = some (encT (mem i))) :
    Calls Tryz.prog 67 #[.slice (some ⟨g, 0, none⟩) is.length cap, .func (.func 52) #[] #[.pointer (some ⟨bx, 0, none⟩)]] w fun e w' => (∃ q, w' = w.drewN q) ∧
      ((∃ (k : Nat) (hk : k < is.length), e = .returned (.int .i64 k) ∧ p is[k] = true ∧ ∀ j (hj : j < k), p (is[j]'(by omega)) = false) ∨ (e = .returned (.int .i64 (-1)) ∧ ∀ i ∈ is, p i = false)) := by
  have HP := Lib.hid hP
  have HC := Lib.hid hc
  clear hP hc
  go_enter Tryz.func67, Tryz.ntmps67
  go_wp2
  go_loopw [8] (fun i wr => ∃ k : Nat, k ≤ is.length ∧ i = .int .i64 k ∧ (∃ q, wr = w.drewN q) ∧ ∀ (j : Nat) (i : Int), j < k → is[j]? = some i → p i = false) (fun i _ => is.length - (intOf i).toNat)
  case atStart => exact ⟨0, by omega, rfl, ⟨0, rfl⟩, fun j _ h _ => by omega⟩
  case round =>
    obtain ⟨k, hk, rfl, ⟨q, rfl⟩, hA⟩ := hrel
    have HA := Lib.hid hA
    clear hA
    by_cases hlt : k < is.length
    · have hik := List.getElem?_eq_getElem hlt
      have c0 := HC.out k _ hik
      obtain ⟨i, hi⟩ : ∃ i, is[k] = i := ⟨_, rfl⟩
      rw [hi] at c0 hik
      simp only [encT] at c0
      have hmem : i ∈ is := List.mem_of_getElem? hik
      have HI := Lib.hid hi
      have HIK := Lib.hid hik
      have HM := Lib.hid hmem
      clear hi hik hmem
      have wk : IntKind.i64.wrap ((k : Int) + 1) = ((k + 1 : Nat) : Int) := by rw [IntWalk.i64_in _ (by omega)]; omega
      have HD : Hid (∀ n, Calls Tryz.prog 52 #[.pointer (some ⟨mem i, 0, none⟩), .pointer (some ⟨bx, 0, none⟩)] (w.drewN n) fun e W' => e = .returned (.bool (p i)) ∧ ∃ q, W' = (w.drewN n).drewN q) := Lib.hid (fun n => HP.out i HM.out _ ⟨hb.os, hb.tape, hb.output, hb.size, hb.block⟩)
      cases hp : p i with
      | true =>
        rw [hp] at HD
        go_wp2_with (go_at_call 52; refine (HD.out _).mono ?_; rintro e w' ⟨rfl, q2, rfl⟩)
        go_ret
        refine ⟨⟨_, rfl⟩, .inl ⟨k, hlt, rfl, by rw [HI.out]; exact hp, fun j hj => HA.out j _ hj (List.getElem?_eq_getElem (by omega))⟩⟩
      | false =>
        rw [hp] at HD
        go_wp2_with (go_at_call 52; refine (HD.out _).mono ?_; rintro e w' ⟨rfl, q2, rfl⟩)
        refine ⟨⟨k + 1, by omega, rfl, ⟨_, rfl⟩, fun j i' hj hi' => ?_⟩, by simp only [intOf]; omega⟩
        rcases Nat.lt_or_ge j k with h | h
        · exact HA.out j i' h hi'
        · obtain rfl : j = k := by omega
          rw [HIK.out] at hi'
          cases hi'
          exact hp
    · have : k = is.length := by omega
      subst this
      go_wp2
      go_ret
      refine ⟨⟨_, rfl⟩, .inr ⟨rfl, fun i hi => ?_⟩⟩
      obtain ⟨j, hj, e⟩ := List.mem_iff_getElem.1 hi
      exact HA.out j i hj (by rw [List.getElem?_eq_getElem hj, e])
end Go.Proofs.YtfngdplkcppabaaGreat
namespace Go.Proofs.YtfngdplkcppabaaGreat
open Go.RowKit
theorem chg_of_drewN (w : World) (S : Nat → Obj → Prop) (n : Nat) : Chg S w (w.drewN n) := ⟨rfl, rfl, rfl, Nat.le_refl _, fun _ _ h _ => h⟩
theorem setCells_at (b : Nat) : ∀ (vs : List Value) (o : Nat) (w : World) (cu : Array Value) (t : TypeId) (f : Nat × Nat), w.heap[b]? = some (.cells cu t f) →
    Chg (fun j _ => j = b) w (w.setCells b o vs) ∧ ∃ cu', (w.setCells b o vs).heap[b]? = some (.cells cu' t f) ∧ cu'.size = cu.size ∧ ∀ j, j < o → cu'[j]? = cu[j]?
  | [], _, w, cu, _, _, h => ⟨Chg.refl _ w, cu, h, rfl, fun _ _ => rfl⟩
  | v :: r, o, w, cu, t, f, h => by
    obtain ⟨h1, cu', h2, h3, h4⟩ := setCells_at b r (o + 1) (w.setCell ⟨b, o, none⟩ v) _ t f (heap_setCell_eq h)
    refine ⟨((Chg.refl _ w).setCell _ (fun _ _ => rfl)).trans h1, cu', h2, by simpa using h3, fun j hj => ?_⟩
    rw [h4 j (by omega), Array.getElem?_setIfInBounds, if_neg (by omega)]
def kept (p : Int → Bool) (is : List Int) (m : Nat) : List Int := (is.take m).filter (fun i => !p i)
theorem kept_succ {p : Int → Bool} {is : List Int} {m : Nat} {i : Int} (h : is[m]? = some i) : kept p is (m + 1) = kept p is m ++ (if p i then [] else [i]) := by
  unfold kept
  rw [List.take_add_one, h, List.filter_append]
  congr 1
  cases hp : p i <;> simp [hp]
theorem kept_le (p : Int → Bool) (is : List Int) (m : Nat) : (kept p is m).length ≤ m := by
  unfold kept
  refine Nat.le_trans (List.length_filter_le _ _) ?_
  rw [List.length_take]; omega
theorem kept_all {p : Int → Bool} {is : List Int} {m : Nat} (h : ∀ j i, j < m → is[j]? = some i → p i = false) : kept p is m = is.take m := by
  unfold kept
  refine List.filter_eq_self.2 (fun i hi => ?_)
  obtain ⟨j, hj, e⟩ := List.mem_iff_getElem.1 hi
  rw [List.length_take] at hj
  rw [List.getElem_take] at e
  rw [h j i (by omega) (by rw [List.getElem?_eq_getElem (by omega), e])]; rfl
set_option maxRecDepth 100000 in
set_option maxHeartbeats 1000000 in
theorem delT_some (B : Nat) (w0 : World) (bx : Nat) (is : List Int) (mem : Int → Nat) (p : Int → Bool) (hP : Says B w0 52 #[.pointer (some ⟨bx, 0, none⟩)] is mem p) (g cap : Nat) (w : World) (hb : Below B w0 w) (hl : is.length < 1000000)
    (cur : Array Value) (hg : w.heap[g]? = some (.cells cur 83 (0, 0))) (hBg : B ≤ g) (hcap : is.length ≤ cap) (hcs : cur.size = cap) (hc : ∀ (j : Nat) (i : Int), is[j]? = some i → cur[j]? = some (encT (mem i)))
    (k : Nat) (hk : k < is.length) (hpk : p is[k] = true) (hpj : ∀ j (hj : j < k), p (is[j]'(by omega)) = false) :
    Calls Tryz.prog 51 #[.slice (some ⟨g, 0, none⟩) is.length cap, .func (.func 52) #[] #[.pointer (some ⟨bx, 0, none⟩)]] w fun e w' =>
      e = .returned (.slice (some ⟨g, 0, none⟩) (is.filter (fun i => !p i)).length cap) ∧ Chg (fun j _ => j = g) w w' ∧
      ∃ cur' : Array Value, w'.heap[g]? = some (.cells cur' 83 (0, 0)) ∧ cur'.size = cap ∧ ∀ (j : Nat) (i : Int), (is.filter (fun i => !p i))[j]? = some i → cur'[j]? = some (encT (mem i)) := by
  have hidx : Calls Tryz.prog 67 #[.slice (some ⟨g, 0, none⟩) is.length cap, .func (.func 52) #[] #[.pointer (some ⟨bx, 0, none⟩)]] w fun e w' => e = .returned (.int .i64 k) ∧ ∃ q, w' = w.drewN q := by
    refine (idxT_any B w0 bx is mem p hP g cap w hb hl (fun j i h => by rw [cells_at hg]; exact hc j i h)).mono ?_
    rintro e w' ⟨hq, ⟨k', hk', rfl, h1, h2⟩ | ⟨rfl, h1⟩⟩
    · refine ⟨?_, hq⟩
      rcases Nat.lt_trichotomy k k' with h | h | h
      · have := h2 k h; rw [hpk] at this; cases this
      · rw [h]
      · have := hpj k' h; rw [h1] at this; cases this
    · have := h1 is[k] (List.getElem_mem hk); rw [hpk] at this; cases this
  have HI := Lib.hid hidx
  have HP := Lib.hid hP
  have HC := Lib.hid hc
  have HG := Lib.hid hg
  have HPJ := Lib.hid hpj
  have HPK := Lib.hid hpk
  have wk : IntKind.i64.wrap ((k : Int) + 1) = ((k + 1 : Nat) : Int) := by rw [IntWalk.i64_in _ (by omega)]; omega
  have hk1 : ((k : Int) == -1) = false := by rw [beq_eq_false_iff_ne]; omega
  clear hidx hP hc hg hpj hpk
  go_enter Tryz.func51, Tryz.ntmps51
  go_wp2_with (go_at_call 67; refine HI.out.mono ?_; rintro e w1 ⟨rfl, q, rfl⟩)
  go_loopw [5, 6] (fun i j wr => ∃ (n m : Nat), i = .int .i64 n ∧ j = .int .i64 m ∧ n < m ∧ m ≤ is.length ∧ n = (kept p is m).length ∧ Chg (fun j _ => j = g) w wr ∧ ∃ cu : Array Value, wr.heap[g]? = some (.cells cu 83 (0, 0)) ∧ cu.size = cap ∧
      (∀ (j : Nat) (i : Int), (kept p is m)[j]? = some i → cu[j]? = some (encT (mem i))) ∧ (∀ (j : Nat) (i : Int), m ≤ j → is[j]? = some i → cu[j]? = some (encT (mem i))))
    (fun _ j _ => is.length - (intOf j).toNat)
  case atStart =>
    have hka : kept p is (k + 1) = is.take k := by
      rw [kept_succ (List.getElem?_eq_getElem hk), HPK.out]
      simp only [if_true, List.append_nil]
      exact kept_all (fun j i hj hi => by have := HPJ.out j hj; rw [List.getElem?_eq_getElem (by omega)] at hi; cases hi; exact this)
    refine ⟨k, k + 1, rfl, by simp, by omega, by omega, by rw [hka, List.length_take]; omega, chg_of_drewN w _ _, cur, HG.out, hcs, fun j i h => ?_, fun j i _ h => HC.out j i h⟩
    rw [hka, List.getElem?_take] at h
    by_cases hj : j < k
    · rw [if_pos hj] at h; exact HC.out j i h
    · rw [if_neg hj] at h; cases h
  case round =>
    obtain ⟨n, m, rfl, rfl, hnm, hm, hn, hC, cu, hgu, hcu, h1, h2⟩ := hrel
    have HGU := Lib.hid hgu
    have H1 := Lib.hid h1
    have H2 := Lib.hid h2
    have HN := Lib.hid hn
    have HCH := Lib.hid hC
    have hbr : Below B w0 wr := hb.trans (hC.below (by have := heap_lt HG.out; omega) (fun k _ hk => by have hk : k = g := hk; omega))
    clear hgu h1 h2 hn hC
    by_cases hlt : m < is.length
    · have hik := List.getElem?_eq_getElem hlt
      have c0 := H2.out m _ (Nat.le_refl _) hik
      rw [← cells_at HGU.out] at c0
      obtain ⟨i, hi⟩ : ∃ i, is[m] = i := ⟨_, rfl⟩
      rw [hi] at c0 hik
      simp only [encT] at c0
      have hmem : i ∈ is := List.mem_of_getElem? hik
      have HIK := Lib.hid hik
      have HM := Lib.hid hmem
      have wm : IntKind.i64.wrap ((m : Int) + 1) = ((m + 1 : Nat) : Int) := by rw [IntWalk.i64_in _ (by omega)]; omega
      have wn : IntKind.i64.wrap ((n : Int) + 1) = ((n + 1 : Nat) : Int) := by rw [IntWalk.i64_in _ (by omega)]; omega
      clear hi hik hmem
      have HD : Hid (∀ N, Calls Tryz.prog 52 #[.pointer (some ⟨mem i, 0, none⟩), .pointer (some ⟨bx, 0, none⟩)] (wr.drewN N) fun e W' => e = .returned (.bool (p i)) ∧ ∃ q, W' = (wr.drewN N).drewN q) := Lib.hid (fun N => HP.out i HM.out _ ⟨hbr.os, hbr.tape, hbr.output, hbr.size, hbr.block⟩)
      cases hp : p i with
      | true =>
        rw [hp] at HD
        go_wp2_with (go_at_call 52; refine (HD.out 0).mono ?_; rintro e w' ⟨rfl, q2, rfl⟩)
        have hke : kept p is (m + 1) = kept p is m := by rw [kept_succ HIK.out, hp]; simp
        exact ⟨⟨n, m + 1, rfl, by simp, by omega, by omega, by rw [hke]; exact HN.out, HCH.out.trans (chg_of_drewN wr _ _), cu, HGU.out, hcu, by rw [hke]; exact H1.out, fun j i hj => H2.out j i (by omega)⟩, by simp only [intOf]; omega⟩
      | false =>
        rw [hp] at HD
        have hnc : n < cu.size := by omega
        have cn : wr.cell? ⟨g, n, none⟩ = some cu[n] := by rw [cells_at HGU.out]; exact Array.getElem?_eq_getElem hnc
        have fn : wr.frozen? ⟨g, n, none⟩ = false := unfrozen HGU.out n
        go_wp2_with (go_at_call 52; refine (HD.out 0).mono ?_; rintro e w' ⟨rfl, q2, rfl⟩)
        have hke : kept p is (m + 1) = kept p is m ++ [i] := by rw [kept_succ HIK.out, hp]; simp
        refine ⟨⟨n + 1, m + 1, by simp, by simp, by omega, by omega, by rw [hke, List.length_append, ← HN.out]; rfl, (HCH.out.trans (chg_of_drewN wr _ _)).setCell _ (fun _ _ => rfl), _, heap_setCell_eq HGU.out, by simpa using hcu, fun j i' hj => ?_, fun j i' hj hi' => ?_⟩, by simp only [intOf]; omega⟩
        · rw [Array.getElem?_setIfInBounds]
          rw [hke] at hj
          rcases Nat.lt_trichotomy j n with h | h | h
          · rw [if_neg (by omega)]
            rw [List.getElem?_append_left (by rw [← HN.out]; exact h)] at hj
            exact H1.out j i' hj
          · subst h
            rw [List.getElem?_append_right (by rw [← HN.out]; exact Nat.le_refl _), ← HN.out, Nat.sub_self] at hj
            simp only [List.getElem?_cons_zero, Option.some.injEq] at hj
            subst hj
            rw [if_pos rfl, if_pos hnc]; rfl
          · rw [List.getElem?_eq_none (by rw [List.length_append, ← HN.out]; simp; omega)] at hj
            cases hj
        · rw [Array.getElem?_setIfInBounds, if_neg (by omega)]
          exact H2.out j i' (by omega) hi'
    · have hml : m = is.length := by omega
      have hnl : n < is.length := by omega
      obtain ⟨wc, hwc⟩ : ∃ wc, wr.setCells g n (List.replicate (is.length - n) (Value.pointer none)) = wc := ⟨_, rfl⟩
      have hclr : ∀ ty c, (Builtin.clear_ #[84] ty #[.slice (some ⟨g, n, none⟩) (is.length - n) c]).run Tryz.prog wr = .ok (.tuple #[]) wc := fun ty c => by
        rw [← hwc]
        exact Lib.run_clear_slice wr 84 83 ty (.pointer none) Tryz.underlying84 (fun w => by kernel_rfl) rfl rfl g n (is.length - n) c (by omega)
          (fun j hj => by rw [cells_at HGU.out, Array.getElem?_eq_getElem (by omega)]; rfl) (fun j _ => unfrozen HGU.out _)
      have i1 : (0 : Int) ≤ n := by omega
      have i2 : (n : Int) ≤ is.length := by omega
      go_wp2
      go_ret
      obtain ⟨hc1, cu', hc2, hc3, hc4⟩ := setCells_at g (List.replicate (is.length - n) (Value.pointer none)) n wr cu _ _ HGU.out
      rw [hwc] at hc1 hc2
      have hka : kept p is m = is.filter (fun i => !p i) := by rw [hml]; unfold kept; rw [List.take_length]
      have hnf : n = (is.filter (fun i => !p i)).length := by rw [← hka]; exact HN.out
      refine ⟨by rw [← hnf]; simp, HCH.out.trans hc1, cu', hc2, by omega, fun j i hj => ?_⟩
      rw [← hka] at hj
      have hjn : j < n := by
        rcases Nat.lt_or_ge j n with h | h
        · exact h
        · rw [List.getElem?_eq_none (by have := HN.out; omega)] at hj; cases hj
      rw [hc4 j hjn]
      exact H1.out j i hj
end Go.Proofs.YtfngdplkcppabaaGreat
namespace Go.Proofs.YtfngdplkcppabaaGreat
open Go.RowKit
set_option maxRecDepth 100000 in
set_option maxHeartbeats 1000000 in
theorem delT_none (B : Nat) (w0 : World) (bx : Nat) (is : List Int) (mem : Int → Nat) (p : Int → Bool) (hP : Says B w0 52 #[.pointer (some ⟨bx, 0, none⟩)] is mem p) (g cap : Nat) (w : World) (hb : Below B w0 w) (hl : is.length < 1000000)
    (hc : ∀ (j : Nat) (i : Int), is[j]? = some i → w.cell? ⟨g, j, none⟩ = some (encT (mem i))) (hno : ∀ i ∈ is, p i = false) :
    Calls Tryz.prog 51 #[.slice (some ⟨g, 0, none⟩) is.length cap, .func (.func 52) #[] #[.pointer (some ⟨bx, 0, none⟩)]] w fun e w' =>
      e = .returned (.slice (some ⟨g, 0, none⟩) is.length cap) ∧ ∃ q, w' = w.drewN q := by
  have hidx : Calls Tryz.prog 67 #[.slice (some ⟨g, 0, none⟩) is.length cap, .func (.func 52) #[] #[.pointer (some ⟨bx, 0, none⟩)]] w fun e w' => e = .returned (.int .i64 (-1)) ∧ ∃ q, w' = w.drewN q := by
    refine (idxT_any B w0 bx is mem p hP g cap w hb hl hc).mono ?_
    rintro e w' ⟨hq, ⟨k', hk', rfl, h1, h2⟩ | ⟨rfl, h1⟩⟩
    · rw [hno _ (List.getElem_mem hk')] at h1; cases h1
    · exact ⟨rfl, hq⟩
  have HI := Lib.hid hidx
  clear hidx hP hc
  go_enter Tryz.func51, Tryz.ntmps51
  go_wp2_with (go_at_call 67; refine HI.out.mono ?_; rintro e w1 ⟨rfl, q, rfl⟩)
  go_ret
  exact ⟨rfl, _, rfl⟩
set_option maxRecDepth 100000 in
set_option maxHeartbeats 1000000 in
theorem delT_nil (bx : Nat) (w : World) :
    Calls Tryz.prog 51 #[.slice none 0 0, .func (.func 52) #[] #[.pointer (some ⟨bx, 0, none⟩)]] w fun e w' => e = .returned (.slice none 0 0) ∧ w' = w := by
  go_enter Tryz.func51, Tryz.ntmps51
  go_wp2
  go_loop [8] (fun i => i = .int .i64 0) (fun _ => 0)
  case atStart => rfl
  case round =>
    subst hrel
    go_wp2
    go_ret
    exact ⟨rfl, rfl⟩
/-- Those that do not go, in their order. -/
theorem delT_any (B : Nat) (w0 : World) (bx : Nat) (is : List Int) (mem : Int → Nat) (p : Int → Bool) (hP : Says B w0 52 #[.pointer (some ⟨bx, 0, none⟩)] is mem p) (v : Value) (w : World) (hb : Below B w0 w) (hBw : B ≤ w.heap.size) (hl : is.length < 1000000)
    (hrow : w.ownsRow B 83 1 v is.length (is.map (fun i => encT (mem i)))) :
    Calls Tryz.prog 51 #[v, .func (.func 52) #[] #[.pointer (some ⟨bx, 0, none⟩)]] w fun e w' =>
      ∃ v', e = .returned v' ∧ w'.ownsRow B 83 1 v' (is.filter (fun i => !p i)).length ((is.filter (fun i => !p i)).map (fun i => encT (mem i))) ∧ Below B w0 w' := by
  rcases hrow.2 with ⟨rfl, hz⟩ | ⟨g, cap, cur, rfl, hBg, hg, h1, h2, h3, h4⟩
  · have his : is = [] := List.eq_nil_of_length_eq_zero hz
    subst his
    refine (delT_nil bx w).mono ?_
    rintro e w' ⟨rfl, rfl⟩
    exact ⟨_, rfl, hrow, hb⟩
  · have hcur : ∀ (j : Nat) (i : Int), is[j]? = some i → cur[j]? = some (encT (mem i)) := fun j i hj => by
      have hjl : j < is.length := by
        rcases Nat.lt_or_ge j is.length with h' | h'
        · exact h'
        · rw [List.getElem?_eq_none h'] at hj; cases hj
      have h5 : (cur.toList.take (is.length * 1))[j]? = some (encT (mem i)) := by rw [h4, List.getElem?_map, hj]; rfl
      rwa [List.getElem?_take, if_pos (by omega), Array.getElem?_toList] at h5
    by_cases hno : ∀ i ∈ is, p i = false
    · have hf : is.filter (fun i => !p i) = is := List.filter_eq_self.2 (fun i hi => by rw [hno i hi]; rfl)
      rw [hf]
      refine (delT_none B w0 bx is mem p hP g cap w hb hl (fun j i hj => by rw [cells_at hg]; exact hcur j i hj) hno).mono ?_
      rintro e w' ⟨rfl, q, rfl⟩
      exact ⟨_, rfl, hrow, hb.os, hb.tape, hb.output, hb.size, hb.block⟩
    · obtain ⟨k, hk, hpk, hpj⟩ : ∃ (k : Nat) (hk : k < is.length), p is[k] = true ∧ ∀ j (hj : j < k), p (is[j]'(by omega)) = false := by
        clear hrow h4 hcur hP hl h1
        induction is with
        | nil => exact absurd (fun i hi => by cases hi) hno
        | cons a r ih =>
          cases ha : p a with
          | true => exact ⟨0, by simp, ha, fun j hj => by omega⟩
          | false =>
            obtain ⟨k, hk, e1, e2⟩ := ih (fun h => hno (fun i hi => by rcases List.mem_cons.1 hi with rfl | hi; · exact ha
                                                                       · exact h i hi))
            refine ⟨k + 1, by simp; omega, by simpa using e1, fun j hj => ?_⟩
            cases j with
            | zero => exact ha
            | succ j => simpa using e2 j (by omega)
      refine (delT_some B w0 bx is mem p hP g cap w hb hl cur hg hBg h1 (by omega) hcur k hk hpk hpj).mono ?_
      rintro e w' ⟨rfl, hC, cur', hg', hs', hc'⟩
      have hle := List.length_filter_le (fun i => !p i) is
      refine ⟨_, rfl, ⟨by simp, .inr ⟨g, cap, cur', rfl, hBg, hg', by omega, h2, by omega, ?_⟩⟩, hb.trans (hC.below hBw (fun k _ hk => by have hk : k = g := hk; omega))⟩
      refine List.ext_getElem? (fun j => ?_)
      rw [List.getElem?_take, List.getElem?_map, Array.getElem?_toList]
      by_cases hj : j < (is.filter (fun i => !p i)).length
      · rw [if_pos (by omega), List.getElem?_eq_getElem hj, hc' j _ (List.getElem?_eq_getElem hj)]; rfl
      · rw [if_neg (by omega), List.getElem?_eq_none (by omega)]; rfl
end Go.Proofs.YtfngdplkcppabaaGreat
namespace Go.Proofs.YtfngdplkcppabaaGreat
open Go.RowKit
set_option maxRecDepth 100000 in
set_option maxHeartbeats 1000000 in
theorem says2 (w0 : World) (g : Nat) (cb : Array Value) (is : List Int) (mem : Int → Nat) (p : Int → Bool) (bx : Nat) (hbx : w0.cell? ⟨bx, 0, none⟩ = some (.func (.func g) #[] cb))
    (eg : ∀ args w, (callFunc g args).run Tryz.prog w = .ok (.enter g args) w)
    (h : ∀ i ∈ is, ∀ W, Below w0.heap.size w0 W → Calls Tryz.prog g (#[encT (mem i)] ++ cb) W fun e W' => e = .returned (.bool (p i)) ∧ ∃ q, W' = W.drewN q) :
    Says w0.heap.size w0 52 #[.pointer (some ⟨bx, 0, none⟩)] is mem (fun i => !p i) := by
  intro i hi W hW
  have hlt := World.block_lt_of_cell? _ _ hbx
  have c0 : W.cell? ⟨bx, 0, none⟩ = some (.func (.func g) #[] cb) := (hW.cell (p := ⟨bx, 0, none⟩) hlt).trans hbx
  have HP := Lib.hid (fun n => h i hi (W.drewN n) ⟨hW.os, hW.tape, hW.output, hW.size, hW.block⟩)
  clear h
  show Calls Tryz.prog 52 #[encT (mem i), .pointer (some ⟨bx, 0, none⟩)] W _
  simp only [encT] at HP ⊢
  go_enter Tryz.func52, Tryz.ntmps52
  go_wp2
  refine (HP.out 0).mono ?_
  rintro e w' ⟨rfl, q, rfl⟩
  go_wp2
  go_ret
  exact ⟨rfl, _, rfl⟩
set_option maxHeartbeats 1000000 in
theorem valuesT_any (b : Nat) (w : World) : Calls Tryz.prog 48 #[.map (some b)] w fun e w' =>
    e = .returned (.func (.func 65) #[] #[.pointer (some ⟨w.heap.size, 0, none⟩)]) ∧ w' = w.alloc (.cells #[.map (some b)] 71) := by
  go_enter Tryz.func48, Tryz.ntmps48
  go_wp2
  go_ret
  exact ⟨rfl, rfl⟩
set_option maxRecDepth 100000 in
set_option maxHeartbeats 1000000 in
theorem tsorted_any (is : List Int) (mem : Int → Nat) (p : Int → Bool) (b : Nat) (g : Nat) (cb : Array Value) (w : World) (hr : Rise is) (hl : is.length < 1000000)
    (hM : MapAt Tryz.prog 3 w b (is.map (fun i => (i, encT (mem i))))) (hc : ∀ i ∈ is, w.cell? ⟨mem i, 0, none⟩ = some (.int .i64 i))
    (eg : ∀ args w, (callFunc g args).run Tryz.prog w = .ok (.enter g args) w)
    (h : ∀ i ∈ is, ∀ W, Below w.heap.size w W → Calls Tryz.prog g (#[encT (mem i)] ++ cb) W fun e W' => e = .returned (.bool (p i)) ∧ ∃ q, W' = W.drewN q) :
    Calls Tryz.prog 27 #[.map (some b), .func (.func g) #[] cb] w fun e w' =>
      ∃ v, e = .returned v ∧ w'.ownsRow w.heap.size 83 1 v (is.filter p).length ((is.filter p).map (fun i => encT (mem i))) ∧ Below w.heap.size w w' := by
  obtain ⟨w1, hw1⟩ : ∃ w1, w.alloc (.cells #[.func (.func g) #[] cb] 86) = w1 := ⟨_, rfl⟩
  have hb1 : Below w.heap.size w w1 := by rw [← hw1]; exact (Below.refl _ _).alloc (Nat.le_refl _) _
  have hs1 : w1.heap.size = w.heap.size + 1 := by rw [← hw1]; simp
  have hx1 : w1.heap[w.heap.size]? = some (.cells #[.func (.func g) #[] cb] 86 (0, 0)) := by rw [← hw1]; exact heap_alloc_eq w _
  obtain ⟨w2, hw2⟩ : ∃ w2, w1.alloc (.cells #[.map (some b)] 71) = w2 := ⟨_, rfl⟩
  have hb2 : Below w.heap.size w w2 := by rw [← hw2]; exact hb1.alloc (by omega) _
  have hb12 : Below w1.heap.size w1 w2 := by rw [← hw2]; exact (Below.refl _ _).alloc (Nat.le_refl _) _
  have hs2 : w2.heap.size = w.heap.size + 2 := by rw [← hw2]; simp; omega
  have hx2 : w2.heap[w.heap.size + 1]? = some (.cells #[.map (some b)] 71 (0, 0)) := by rw [← hw2]; exact heap_new _ _ (by omega)
  have hM2 : MapAt Tryz.prog 3 w2 b (is.map (fun i => (i, encT (mem i)))) := hM.heap (hb2.block b hM.lt)
  have hlt : ∀ i ∈ is, mem i < w.heap.size := fun i hi => World.block_lt_of_cell? _ _ (hc i hi)
  have hS := sortedT_any is mem b (w.heap.size + 1) w2 hr hl (by omega) (by rw [cells_at hx2]; rfl) hM2 (fun i hi => (hb2.cell (p := ⟨mem i, 0, none⟩) (hlt i hi)).trans (hc i hi))
  have hSay := says2 w1 g cb is mem p w.heap.size (by rw [cells_at hx1]; rfl) eg (fun i hi W hW => h i hi W (hb1.trans (hW.mono (by omega))))
  have HS := Lib.hid hS
  have HSAY := Lib.hid hSay
  have HW1 := Lib.hid hw1
  have HS1 := Lib.hid hs1
  have HW2 := Lib.hid hw2
  have HB12 := Lib.hid hb12
  have HB1 := Lib.hid hb1
  clear hM hM2 hc h hS hSay hw1 hw2 hx1 hx2 hb2 hb12 hb1
  go_enter Tryz.func27, Tryz.ntmps27
  go_wp2_with (first
    | (go_at_call 48; rw [HW1.out]; refine (valuesT_any b w1).mono ?_; rintro e w' ⟨rfl, rfl⟩; rw [HW2.out, HS1.out])
    | (go_at_call 47; refine HS.out.mono ?_; rintro e w3 ⟨v, rfl, hrow, _, hb3⟩)
    | (go_at_call 51; refine (delT_any w1.heap.size w1 w.heap.size is mem _ HSAY.out v w3 (HB12.out.trans (hb3.mono (by omega))) (by have := hb3.size; omega) hl (own_below hrow (by omega))).mono ?_; rintro e w4 ⟨v', rfl, hrow', hb4⟩))
  go_ret
  simp only [Bool.not_not] at hrow'
  exact ⟨_, rfl, own_below hrow' (by omega), HB1.out.trans (hb4.mono (by omega))⟩
end Go.Proofs.YtfngdplkcppabaaGreat
