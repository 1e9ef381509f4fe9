/-
  gossiplaw: what a script has made; text; a step on what the caller owns.
-/
import Derived.Test.YtfngdplkcppabaaGreatDoorLooks
import Derived.Test.YtfngdplkcppabaaGreatDoorEncoded
import Derived.Deep.DeepMust
namespace Go.Proofs.YtfngdplkcppabaaGreatDoor
open Go.RowKit

/-- Numbers in a block of their own type. -/
def IntIn (w : World) (a : Option Addr) (l : List Int) : Prop :=
  CellsAt w a (l.map (Value.int .i64)) ∧ ∀ b off, a = some ⟨b, off, none⟩ → l ≠ [] → ∃ cs f, w.heap[b]? = some (.cells cs 3 f)
def fits (n : Int) : Prop := -9223372036854775808 ≤ n ∧ n ≤ 9223372036854775807
/-- What a script has made. -/
structure Sd where
  ts : List ByteArray
  m : M
  ds : List Int
  ow : List (Int × ByteArray)
  xs : List Value
  ys : List Value
  os : List Value
  ks : List Value
  mark : Int
/-- The types of the World's own rows. -/
def rowTypes : List TypeId := [41, 9, 46, 77, 60]
/-- Also: of what is held. -/
def heldTypes : List TypeId := [76, 78]
/-- The script's World in block b, n steps on. -/
structure SAt (B0 b n : Nat) (w : World) (f : Nat → Value) (d : Sd) : Prop where
  blk : WB w b f
  hB : B0 ≤ b
  t0 : ∃ a c, f 0 = .slice a d.ts.length c
  tr : w.ownsRow B0 9 1 (f 0) d.ts.length (d.ts.map Value.string)
  tn : d.ts.length ≤ n
  tz : ∀ t ∈ d.ts, t.size ≤ 16384
  m1 : f 1 = .int .i64 d.m.kind
  m2 : f 2 = .int .i64 d.m.frm
  m3 : f 3 = .int .i64 d.m.inc
  m4 : f 4 = .int .i64 d.m.seq
  m5 : f 5 = .int .i64 d.m.tgt
  m6 : ∃ a c, f 6 = .slice a d.m.ups.length c ∧ RKeys w a d.m.ups
  mn : d.m.ups.length ≤ n + 8
  d7 : ∃ a c, f 7 = .slice a d.ds.length c ∧ IntIn w a d.ds
  dn : d.ds.length ≤ n
  df : ∀ x ∈ d.ds, fits x
  cf : ∀ i, 8 ≤ i → i < 14 → ∃ c, f i = .int .i64 c ∧ fits c
  o15 : ∃ a c, f 15 = .slice a d.ow.length c
  orow : w.ownsRow B0 60 2 (f 15) d.ow.length (pkCells d.ow)
  on : d.ow.length ≤ 60
  oz : ∀ p ∈ d.ow, p.2.size ≤ 60
  l16 : ∃ a c, f 16 = .slice a d.xs.length c
  l17 : ∃ a c, f 17 = .slice a d.xs.length c
  lx : w.ownsRow B0 46 1 (f 16) d.xs.length d.xs
  ly : w.ownsRow B0 46 1 (f 17) d.xs.length d.ys
  ln : d.xs.length ≤ 4 * n
  lne : ∀ g, (f 16).ownBlock = some g → (f 17).ownBlock ≠ some g
  lh : ∀ (i : Nat) v u, d.xs[i]? = some v → d.ys[i]? = some u → HeldK w.heap.size w v u
  l18 : ∃ a c, f 18 = .slice a d.os.length c
  l19 : ∃ a c, f 19 = .slice a d.os.length c
  lo : w.ownsRow B0 77 1 (f 18) d.os.length d.os
  lk : w.ownsRow B0 77 1 (f 19) d.os.length d.ks
  lon : d.os.length ≤ 8 * n
  lone : ∀ g, (f 18).ownBlock = some g → (f 19).ownBlock ≠ some g
  lp : ∀ (i : Nat) v u, d.os[i]? = some v → d.ks[i]? = some u → HeldP w.heap.size w v u
  m20 : f 20 = .int .i64 d.mark
  mb : 0 ≤ d.mark ∧ d.mark ≤ 100 * n
/-- What other code may turn without touching the World. -/
def Foreign (f : Nat → Value) (k : Nat) (o : Obj) : Prop :=
  (∀ cs t fr, o = .cells cs t fr → t ∉ rowTypes ∧ t ∉ heldTypes) ∧ (f 6).ownBlock ≠ some k ∧ (f 7).ownBlock ≠ some k

theorem RKeys.chg {S : Nat → Obj → Prop} {w w' : World} {a : Option Addr} {n c : Nat} {l : List K} (h : RKeys w a l) (hc : Chg S w w') (hS : ∀ k o, (Value.slice a n c).ownBlock = some k → ¬ S k o) : RKeys w' a l := by
  have hb : ∀ b off, a = some ⟨b, off, Option.none⟩ → w'.heap[b]? = w.heap[b]? := by
    intro b off e
    obtain ⟨cs, fr, hg⟩ := h.2 _ e
    rw [hg]
    exact hc.kept b _ hg (hS b _ (by rw [e]; rfl))
  refine ⟨(h.1.cells.heap fun b off e hlt => ⟨hb b off e, Nat.lt_of_lt_of_le hlt hc.size⟩).keys, fun p hp => ?_⟩
  obtain ⟨cs, fr, hg⟩ := h.2 p hp
  refine ⟨cs, fr, ?_⟩
  exact hc.kept p.block _ hg (hS p.block _ (by rw [hp]; rfl))
theorem IntIn.chg {S : Nat → Obj → Prop} {w w' : World} {a : Option Addr} {n c : Nat} {l : List Int} (h : IntIn w a l) (hc : Chg S w w') (hS : ∀ k o, (Value.slice a n c).ownBlock = some k → ¬ S k o) : IntIn w' a l := by
  by_cases hl : l = []
  · subst hl
    exact ⟨fun j v hj => by simp at hj, fun b off e hn => absurd rfl hn⟩
  refine ⟨h.1.heap fun b off e hlt => ⟨?_, Nat.lt_of_lt_of_le hlt hc.size⟩, fun b off e hn => ?_⟩
  · obtain ⟨cs, fr, hg⟩ := h.2 b off e hl
    rw [hg]; exact hc.kept b _ hg (hS b _ (by rw [e]; rfl))
  · obtain ⟨cs, fr, hg⟩ := h.2 b off e hl
    exact ⟨cs, fr, hc.kept b _ hg (hS b _ (by rw [e]; rfl))⟩
theorem own_foreign {S : Nat → Obj → Prop} {w w' : World} {B e s n : Nat} {v : Value} {xs : List Value} (h : w.ownsRow B e s v n xs) (hc : Chg S w w') (hS : ∀ k o, w.heap[k]? = some o → S k o → ∀ cs fr, o ≠ .cells cs e fr) : w'.ownsRow B e s v n xs := by
  refine ⟨h.1, ?_⟩
  rcases h.2 with hn | ⟨g, cap, cur, rfl, hb, hg, rest⟩
  · exact .inl hn
  · exact .inr ⟨g, cap, cur, rfl, hb, hc.kept g _ hg (fun hs => hS g _ hg hs _ _ rfl), rest⟩

/-- Other code leaves the World as it is. -/
theorem SAt.foreign {S : Nat → Obj → Prop} {B0 b n : Nat} {w w' : World} {f : Nat → Value} {d : Sd} (h : SAt B0 b n w f d) (hc : Chg S w w') (hS : ∀ k o, w.heap[k]? = some o → S k o → Foreign f k o) : SAt B0 b n w' f d := by
  have hrow : ∀ t, t ∈ rowTypes → ∀ k o, w.heap[k]? = some o → S k o → ∀ cs fr, o ≠ .cells cs t fr := fun t ht k o hk hs cs fr e => ((hS k o hk hs).1 cs t fr e).1 ht
  have hheld : ∀ t, t ∈ heldTypes → ∀ k o, w.heap[k]? = some o → S k o → ∀ cs fr, o ≠ .cells cs t fr := fun t ht k o hk hs cs fr e => ((hS k o hk hs).1 cs t fr e).2 ht
  obtain ⟨a6, c6, e6, hk6⟩ := h.m6
  obtain ⟨a7, c7, e7, hi7⟩ := h.d7
  have hn6 : ∀ k, (f 6).ownBlock = some k → ∀ o, w.heap[k]? = some o → ¬ S k o := fun k e o hk hs => (hS k o hk hs).2.1 e
  have hn7 : ∀ k, (f 7).ownBlock = some k → ∀ o, w.heap[k]? = some o → ¬ S k o := fun k e o hk hs => (hS k o hk hs).2.2 e
  have hc' : Chg (fun k o => S k o ∧ w.heap[k]? = some o) w w' := ⟨hc.os, hc.tape, hc.output, hc.size, fun k o hk hs => hc.kept k o hk (fun h => hs ⟨h, hk⟩)⟩
  exact { h with
    blk := h.blk.heap (by obtain ⟨cs, hb⟩ := h.blk.block; rw [hb]; exact hc.kept b _ hb (fun hs => hrow _ (by simp [rowTypes]) b _ hb hs _ _ rfl))
    tr := own_foreign h.tr hc (hrow _ (by simp [rowTypes]))
    m6 := ⟨a6, c6, e6, hk6.chg (n := d.m.ups.length) (c := c6) hc' (fun k o e hs => hn6 k (by rw [e6]; exact e) o hs.2 hs.1)⟩
    d7 := ⟨a7, c7, e7, hi7.chg (n := d.ds.length) (c := c7) hc' (fun k o e hs => hn7 k (by rw [e7]; exact e) o hs.2 hs.1)⟩
    orow := own_foreign h.orow hc (hrow _ (by simp [rowTypes]))
    lx := own_foreign h.lx hc (hrow _ (by simp [rowTypes]))
    ly := own_foreign h.ly hc (hrow _ (by simp [rowTypes]))
    lo := own_foreign h.lo hc (hrow _ (by simp [rowTypes]))
    lk := own_foreign h.lk hc (hrow _ (by simp [rowTypes]))
    lh := fun i v u hv hu => ((h.lh i v u hv hu).chg hc (fun k cs fr _ hk hs => hheld _ (by simp [heldTypes]) k _ hk hs _ _ rfl)).mono hc.size
    lp := fun i v u hv hu => ((h.lp i v u hv hu).chg hc (fun k cs fr _ hk hs => hheld _ (by simp [heldTypes]) k _ hk hs _ _ rfl)).mono hc.size }
theorem SAt.below {B0 b n : Nat} {w w' : World} {f : Nat → Value} {d : Sd} (h : SAt B0 b n w f d) (hb : Below w.heap.size w w') : SAt B0 b n w' f d :=
  h.foreign (S := fun k _ => w.heap.size ≤ k) ⟨hb.os, hb.tape, hb.output, hb.size, fun k o hk _ => (hb.block k (heap_lt hk)).trans hk⟩ (fun k o hk hs => by have := heap_lt hk; omega)
theorem SAt.mono {B0 b n n' : Nat} {w : World} {f : Nat → Value} {d : Sd} (h : SAt B0 b n w f d) (hn : n ≤ n') : SAt B0 b n' w f d :=
  { h with tn := Nat.le_trans h.tn hn, mn := by have := h.mn; omega, dn := Nat.le_trans h.dn hn, ln := by have := h.ln; omega, lon := by have := h.lon; omega, mb := by have := h.mb; omega }

theorem RKeys.typed {S : Nat → Obj → Prop} {w w' : World} {a : Option Addr} {l : List K} (h : RKeys w a l) (hc : Chg S w w') (hS : ∀ k o, w.heap[k]? = some o → S k o → ∀ cs fr, o ≠ .cells cs 58 fr) : RKeys w' a l := by
  have hk : ∀ p, a = some p → w'.heap[p.block]? = w.heap[p.block]? := by
    intro p e
    obtain ⟨cs, fr, hg⟩ := h.2 p e
    rw [hg]; exact hc.kept _ _ hg (fun hs => hS _ _ hg hs _ _ rfl)
  refine ⟨(h.1.cells.heap fun b off e hlt => ⟨hk _ e, Nat.lt_of_lt_of_le hlt hc.size⟩).keys, fun p hp => ?_⟩
  obtain ⟨cs, fr, hg⟩ := h.2 p hp
  exact ⟨cs, fr, (hk p hp).trans hg⟩
theorem IntIn.typed {S : Nat → Obj → Prop} {w w' : World} {a : Option Addr} {l : List Int} (h : IntIn w a l) (hc : Chg S w w') (hS : ∀ k o, w.heap[k]? = some o → S k o → ∀ cs fr, o ≠ .cells cs 3 fr) : IntIn w' a l := by
  by_cases hl : l = []
  · subst hl
    exact ⟨fun j v hj => by simp at hj, fun b off e hn => absurd rfl hn⟩
  have hk : ∀ b off, a = some ⟨b, off, none⟩ → w'.heap[b]? = w.heap[b]? := by
    intro b off e
    obtain ⟨cs, fr, hg⟩ := h.2 b off e hl
    rw [hg]; exact hc.kept _ _ hg (fun hs => hS _ _ hg hs _ _ rfl)
  refine ⟨h.1.heap fun b off e hlt => ⟨hk b off e, Nat.lt_of_lt_of_le hlt hc.size⟩, fun b off e hn => ?_⟩
  obtain ⟨cs, fr, hg⟩ := h.2 b off e hn
  exact ⟨cs, fr, (hk b off e).trans hg⟩
/-- What of the World lies as it lay, where blocks of the types T alone have turned. -/
structure Kept (T : List TypeId) (B0 : Nat) (w' : World) (f : Nat → Value) (d : Sd) : Prop where
  tr : 9 ∉ T → w'.ownsRow B0 9 1 (f 0) d.ts.length (d.ts.map Value.string)
  m6 : 58 ∉ T → ∃ a c, f 6 = .slice a d.m.ups.length c ∧ RKeys w' a d.m.ups
  d7 : 3 ∉ T → ∃ a c, f 7 = .slice a d.ds.length c ∧ IntIn w' a d.ds
  orow : 60 ∉ T → w'.ownsRow B0 60 2 (f 15) d.ow.length (pkCells d.ow)
  lx : 46 ∉ T → w'.ownsRow B0 46 1 (f 16) d.xs.length d.xs
  ly : 46 ∉ T → w'.ownsRow B0 46 1 (f 17) d.xs.length d.ys
  lh : 76 ∉ T → ∀ (i : Nat) v u, d.xs[i]? = some v → d.ys[i]? = some u → HeldK w'.heap.size w' v u
  lo : 77 ∉ T → w'.ownsRow B0 77 1 (f 18) d.os.length d.os
  lk : 77 ∉ T → w'.ownsRow B0 77 1 (f 19) d.os.length d.ks
  lp : 78 ∉ T → ∀ (i : Nat) v u, d.os[i]? = some v → d.ks[i]? = some u → HeldP w'.heap.size w' v u
theorem SAt.kept {T : List TypeId} {S : Nat → Obj → Prop} {B0 b n : Nat} {w w' : World} {f : Nat → Value} {d : Sd} (h : SAt B0 b n w f d) (hc : Chg S w w')
    (hT : ∀ k o, w.heap[k]? = some o → S k o → ∃ cs t fr, o = .cells cs t fr ∧ t ∈ T) : Kept T B0 w' f d := by
  have ht : ∀ t, t ∉ T → ∀ k o, w.heap[k]? = some o → S k o → ∀ cs fr, o ≠ .cells cs t fr := by
    intro t hn k o hk hs cs fr e
    obtain ⟨cs', t', fr', e', hm⟩ := hT k o hk hs
    rw [e] at e'
    simp only [Obj.cells.injEq] at e'
    exact hn (e'.2.1 ▸ hm)
  obtain ⟨a6, c6, e6, hk6⟩ := h.m6
  obtain ⟨a7, c7, e7, hi7⟩ := h.d7
  exact ⟨fun hn => own_foreign h.tr hc (ht _ hn), fun hn => ⟨a6, c6, e6, hk6.typed hc (ht _ hn)⟩, fun hn => ⟨a7, c7, e7, hi7.typed hc (ht _ hn)⟩, fun hn => own_foreign h.orow hc (ht _ hn),
    fun hn => own_foreign h.lx hc (ht _ hn), fun hn => own_foreign h.ly hc (ht _ hn),
    fun hn i v u hv hu => ((h.lh i v u hv hu).chg hc (fun k cs fr _ hk hs => ht _ hn k _ hk hs _ _ rfl)).mono hc.size,
    fun hn => own_foreign h.lo hc (ht _ hn), fun hn => own_foreign h.lk hc (ht _ hn),
    fun hn i v u hv hu => ((h.lp i v u hv hu).chg hc (fun k cs fr _ hk hs => ht _ hn k _ hk hs _ _ rfl)).mono hc.size⟩
/-- The World's block alone. -/
theorem SAt.onlyB {B0 b n : Nat} {w : World} {f : Nat → Value} {d : Sd} (h : SAt B0 b n w f d) : ∀ k o, w.heap[k]? = some o → k = b → ∃ cs t fr, o = .cells cs t fr ∧ t ∈ [41] := by
  rintro k o hk rfl
  obtain ⟨cs, hb⟩ := h.blk.block
  rw [hb] at hk; cases hk; exact ⟨_, _, _, rfl, by simp⟩
/-- What the script's own steps turn: the World's block, and rows of its own kinds. -/
def SQ (B0 b : Nat) (k : Nat) (o : Obj) : Prop := B0 ≤ k ∧ (k = b ∨ ∃ cs t fr, o = .cells cs t fr ∧ t ∈ rowTypes)
theorem Chg.after {S : Nat → Obj → Prop} {B0 b : Nat} {w w1 w' : World} (h : Chg S w1 w') (hb : Below w.heap.size w w1) (hS : ∀ k o, w1.heap[k]? = some o → S k o → B0 ≤ k ∧ (k = b ∨ ∃ cs t fr, o = .cells cs t fr ∧ t ∈ rowTypes)) : Chg (SQ B0 b) w w' :=
  ⟨h.os.trans hb.os, h.tape.trans hb.tape, h.output.trans hb.output, Nat.le_trans hb.size h.size, fun k o hk hs => by
    have hk1 := (hb.block k (heap_lt hk)).trans hk
    exact h.kept k o hk1 (fun h' => hs (hS k o hk1 h'))⟩
/-- A text more. -/
theorem SAt.text {B0 b n : Nat} {w w1 w4 : World} {f : Nat → Value} {d : Sd} (h : SAt B0 b n w f d) {s : ByteArray} (hs : s.size ≤ 16384) (hb : Below w.heap.size w w1) {g c : Nat}
    (hl : w4.ownsRow B0 9 1 (.slice (some ⟨g, 0, none⟩) (d.ts.length + 1) c) (d.ts.length + 1) (d.ts.map Value.string ++ [.string s])) (hto : AppTo w1 w4 (f 0) g) :
    w4.cell? ⟨b, 0, none⟩ = some (f 0) ∧ w4.frozen? ⟨b, 0, none⟩ = false ∧
    SAt B0 b (n + 1) (w4.setCell ⟨b, 0, none⟩ (.slice (some ⟨g, 0, none⟩) (d.ts.length + 1) c)) (upd f 0 (.slice (some ⟨g, 0, none⟩) (d.ts.length + 1) c)) { d with ts := d.ts ++ [s] } ∧
    Chg (SQ B0 b) w (w4.setCell ⟨b, 0, none⟩ (.slice (some ⟨g, 0, none⟩) (d.ts.length + 1) c)) := by
  have h1 := h.below hb
  have hn0 : (f 0).ownBlock ≠ some b := h1.blk.neOwn h1.tr (by decide)
  have hb4 : WB w4 b f := h1.blk.grown hto.grown hn0
  have hl5 := own_chg hl ((Chg.refl (fun k _ => k = b) w4).setCell (p := ⟨b, 0, none⟩) (.slice (some ⟨g, 0, none⟩) (d.ts.length + 1) c) (fun _ _ => rfl)) (fun g' o e e' => hb4.neOwn hl (by decide) (e' ▸ e))
  have hc1 : Chg (fun k o => k = b ∨ (f 0).ownBlock = some k) w1 (w4.setCell ⟨b, 0, none⟩ (.slice (some ⟨g, 0, none⟩) (d.ts.length + 1) c)) :=
    ((Chg.refl _ w1).grown hto.grown (fun k o e _ => .inr e)).setCell _ (fun _ _ => .inl rfl)
  have hT : ∀ k o, w1.heap[k]? = some o → (k = b ∨ (f 0).ownBlock = some k) → ∃ cs t fr, o = .cells cs t fr ∧ t ∈ [41, 9] := by
    intro k o hk hs
    rcases hs with rfl | hs
    · obtain ⟨cs, hb⟩ := h1.blk.block
      rw [hb] at hk; cases hk; exact ⟨_, _, _, rfl, by simp⟩
    · obtain ⟨_, cur, hg⟩ := ownsRow_blk h1.tr hs
      rw [hg] at hk; cases hk; exact ⟨_, _, _, rfl, by simp⟩
  have K := h1.kept hc1 hT
  refine ⟨hb4.cell (by omega), hb4.free 0, ?_, ?_⟩
  · have e : ∀ i, i ≠ 0 → upd f 0 (.slice (some ⟨g, 0, none⟩) (d.ts.length + 1) c) i = f i := fun i hi => upd_other _ _ _ hi
    exact {
      blk := hb4.set (by omega) _
      hB := h.hB
      t0 := ⟨_, _, by rw [upd_same]; simp; exact ⟨rfl, rfl⟩⟩
      tr := by rw [upd_same]; simpa using hl5
      tn := by have := h.tn; simp; omega
      tz := fun t ht => by
        rcases List.mem_append.1 ht with ht | ht
        · exact h.tz t ht
        · simp only [List.mem_cons, List.not_mem_nil, or_false] at ht; subst ht; exact hs
      m1 := by rw [e _ (by omega)]; exact h.m1
      m2 := by rw [e _ (by omega)]; exact h.m2
      m3 := by rw [e _ (by omega)]; exact h.m3
      m4 := by rw [e _ (by omega)]; exact h.m4
      m5 := by rw [e _ (by omega)]; exact h.m5
      m6 := by rw [e _ (by omega)]; exact K.m6 (by decide)
      mn := by have := h.mn; show d.m.ups.length ≤ _; omega
      d7 := by rw [e _ (by omega)]; exact K.d7 (by decide)
      dn := by have := h.dn; show d.ds.length ≤ _; omega
      df := h.df
      cf := fun i h8 h14 => by rw [e _ (by omega)]; exact h.cf i h8 h14
      o15 := by rw [e _ (by omega)]; exact h.o15
      orow := by rw [e _ (by omega)]; exact K.orow (by decide)
      on := h.on
      oz := h.oz
      l16 := by rw [e _ (by omega)]; exact h.l16
      l17 := by rw [e _ (by omega)]; exact h.l17
      lx := by rw [e _ (by omega)]; exact K.lx (by decide)
      ly := by rw [e _ (by omega)]; exact K.ly (by decide)
      ln := by have := h.ln; show d.xs.length ≤ _; omega
      lne := by rw [e _ (by omega), e _ (by omega)]; exact h.lne
      lh := K.lh (by decide)
      l18 := by rw [e _ (by omega)]; exact h.l18
      l19 := by rw [e _ (by omega)]; exact h.l19
      lo := by rw [e _ (by omega)]; exact K.lo (by decide)
      lk := by rw [e _ (by omega)]; exact K.lk (by decide)
      lon := by have := h.lon; show d.os.length ≤ _; omega
      lone := by rw [e _ (by omega), e _ (by omega)]; exact h.lone
      lp := K.lp (by decide)
      m20 := by rw [e _ (by omega)]; exact h.m20
      mb := by have := h.mb; constructor; · exact this.1
               · show d.mark ≤ 100 * ((n + 1 : Nat) : Int); omega }
  · refine ⟨hc1.os.trans hb.os, hc1.tape.trans hb.tape, hc1.output.trans hb.output, Nat.le_trans hb.size hc1.size, fun k o hk hs => ?_⟩
    have hk1 := (hb.block k (heap_lt hk)).trans hk
    refine hc1.kept k o hk1 (fun h' => hs ?_)
    rcases h' with h' | h'
    · exact ⟨h' ▸ h.hB, .inl h'⟩
    · obtain ⟨hBk, cur, hg⟩ := ownsRow_blk h1.tr h'
      rw [hg] at hk1; cases hk1; exact ⟨hBk, .inr ⟨_, _, _, rfl, by simp [rowTypes]⟩⟩
end Go.Proofs.YtfngdplkcppabaaGreatDoor
