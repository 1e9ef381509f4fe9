/-
  Texts of the proof: SatGen, Owner, OwnerB. No condition.
-/
import Derived.Test.YtfngdplkcppabaaGreatDoorPart01
import Derived.Test.YtfngdplkcppabaaGreatDoorPart05
set_option linter.all false
set_option maxRecDepth 100000
set_option maxHeartbeats 4000000
namespace Go.Proofs.YtfngdplkcppabaaGreatDoor
open Go.RowKit
theorem SAt.turnM {T : List TypeId} {B0 b n : Nat} {w w' : World} {f f' : Nat -> Value} {d d' : Sd} (h : SAt B0 b n w f d) (K : Kept T B0 w' f d) (hb : WB w' b f')
  (he : ∀ i, i < 21 -> i ≠ 1 -> i ≠ 2 -> i ≠ 3 -> i ≠ 4 -> i ≠ 5 -> i ≠ 6 -> f' i = f i)
  (e_ts : d'.ts = d.ts) (e_ds : d'.ds = d.ds) (e_ow : d'.ow = d.ow) (e_xs : d'.xs = d.xs) (e_ys : d'.ys = d.ys) (e_os : d'.os = d.os) (e_ks : d'.ks = d.ks) (e_mark : d'.mark = d.mark)
  (n0 : 46 ∉ T) (n1 : 77 ∉ T) (n2 : 76 ∉ T) (n3 : 78 ∉ T) (n4 : 60 ∉ T) (n5 : 3 ∉ T) (n6 : 9 ∉ T)
  (h_m1 : f' 1 = .int .i64 d'.m.kind) (h_m2 : f' 2 = .int .i64 d'.m.frm) (h_m3 : f' 3 = .int .i64 d'.m.inc) (h_m4 : f' 4 = .int .i64 d'.m.seq) (h_m5 : f' 5 = .int .i64 d'.m.tgt) (h_m6 : ∃ a c, f' 6 = .slice a d'.m.ups.length c /\ RKeys w' a d'.m.ups) (h_mn : d'.m.ups.length <= n + 1 + 8) :
  SAt B0 b (n + 1) w' f' d' := by
 have g : ∀ i, (i < 21 /\ i ≠ 1 /\ i ≠ 2 /\ i ≠ 3 /\ i ≠ 4 /\ i ≠ 5 /\ i ≠ 6) -> f' i = f i := fun i h => he i h.1 h.2.1 h.2.2.1 h.2.2.2.1 h.2.2.2.2.1 h.2.2.2.2.2.1 h.2.2.2.2.2.2
 exact { blk := hb, hB := h.hB, t0 := (by rw [e_ts, g 0 (by decide)]; exact h.t0),
         tr := (by rw [e_ts, g 0 (by decide)]; exact K.tr n6),
         tn := (by rw [e_ts]; have := h.tn; omega),
         tz := (by rw [e_ts]; exact h.tz),
         m1 := h_m1,
         m2 := h_m2,
         m3 := h_m3,
         m4 := h_m4,
         m5 := h_m5,
         m6 := h_m6,
         mn := h_mn,
         d7 := (by rw [e_ds, g 7 (by decide)]; exact K.d7 n5),
         dn := (by rw [e_ds]; have := h.dn; omega),
         df := (by rw [e_ds]; exact h.df),
         cf := fun i h8 h14 => (by rw [he i (by omega) (by omega) (by omega) (by omega) (by omega) (by omega) (by omega)]; exact h.cf i h8 h14),
         o15 := (by rw [e_ow, g 15 (by decide)]; exact h.o15),
         orow := (by rw [e_ow, g 15 (by decide)]; exact K.orow n4),
         on := (by rw [e_ow]; exact h.on),
         oz := (by rw [e_ow]; exact h.oz),
         l16 := (by rw [e_xs, g 16 (by decide)]; exact h.l16),
         l17 := (by rw [e_xs, g 17 (by decide)]; exact h.l17),
         lx := (by rw [e_xs, g 16 (by decide)]; exact K.lx n0),
         ly := (by rw [e_xs, e_ys, g 17 (by decide)]; exact K.ly n0),
         ln := (by rw [e_xs]; have := h.ln; omega),
         lne := (by rw [g 16 (by decide), g 17 (by decide)]; exact h.lne),
         lh := (by rw [e_xs, e_ys]; exact K.lh n2),
         l18 := (by rw [e_os, g 18 (by decide)]; exact h.l18),
         l19 := (by rw [e_os, g 19 (by decide)]; exact h.l19),
         lo := (by rw [e_os, g 18 (by decide)]; exact K.lo n1),
         lk := (by rw [e_os, e_ks, g 19 (by decide)]; exact K.lk n1),
         lon := (by rw [e_os]; have := h.lon; omega),
         lone := (by rw [g 18 (by decide), g 19 (by decide)]; exact h.lone),
         lp := (by rw [e_os, e_ks]; exact K.lp n3),
         m20 := (by rw [e_mark, g 20 (by decide)]; exact h.m20),
         mb := (by rw [e_mark]; have := h.mb; omega) }
theorem SAt.turnD {T : List TypeId} {B0 b n : Nat} {w w' : World} {f f' : Nat -> Value} {d d' : Sd} (h : SAt B0 b n w f d) (K : Kept T B0 w' f d) (hb : WB w' b f')
  (he : ∀ i, i < 21 -> i ≠ 7 -> f' i = f i)
  (e_ts : d'.ts = d.ts) (e_m : d'.m = d.m) (e_ow : d'.ow = d.ow) (e_xs : d'.xs = d.xs) (e_ys : d'.ys = d.ys) (e_os : d'.os = d.os) (e_ks : d'.ks = d.ks) (e_mark : d'.mark = d.mark)
  (n0 : 46 ∉ T) (n1 : 77 ∉ T) (n2 : 76 ∉ T) (n3 : 78 ∉ T) (n4 : 58 ∉ T) (n5 : 60 ∉ T) (n6 : 9 ∉ T)
  (h_d7 : ∃ a c, f' 7 = .slice a d'.ds.length c /\ IntIn w' a d'.ds) (h_dn : d'.ds.length <= n + 1) (h_df : ∀ x ∈ d'.ds, fits x) :
  SAt B0 b (n + 1) w' f' d' := by
 have g : ∀ i, (i < 21 /\ i ≠ 7) -> f' i = f i := fun i h => he i h.1 h.2
 exact { blk := hb, hB := h.hB, t0 := (by rw [e_ts, g 0 (by decide)]; exact h.t0),
         tr := (by rw [e_ts, g 0 (by decide)]; exact K.tr n6),
         tn := (by rw [e_ts]; have := h.tn; omega),
         tz := (by rw [e_ts]; exact h.tz),
         m1 := (by rw [e_m, g 1 (by decide)]; exact h.m1),
         m2 := (by rw [e_m, g 2 (by decide)]; exact h.m2),
         m3 := (by rw [e_m, g 3 (by decide)]; exact h.m3),
         m4 := (by rw [e_m, g 4 (by decide)]; exact h.m4),
         m5 := (by rw [e_m, g 5 (by decide)]; exact h.m5),
         m6 := (by rw [e_m, g 6 (by decide)]; exact K.m6 n4),
         mn := (by rw [e_m]; have := h.mn; omega),
         d7 := h_d7,
         dn := h_dn,
         df := h_df,
         cf := fun i h8 h14 => (by rw [he i (by omega) (by omega)]; exact h.cf i h8 h14),
         o15 := (by rw [e_ow, g 15 (by decide)]; exact h.o15),
         orow := (by rw [e_ow, g 15 (by decide)]; exact K.orow n5),
         on := (by rw [e_ow]; exact h.on),
         oz := (by rw [e_ow]; exact h.oz),
         l16 := (by rw [e_xs, g 16 (by decide)]; exact h.l16),
         l17 := (by rw [e_xs, g 17 (by decide)]; exact h.l17),
         lx := (by rw [e_xs, g 16 (by decide)]; exact K.lx n0),
         ly := (by rw [e_xs, e_ys, g 17 (by decide)]; exact K.ly n0),
         ln := (by rw [e_xs]; have := h.ln; omega),
         lne := (by rw [g 16 (by decide), g 17 (by decide)]; exact h.lne),
         lh := (by rw [e_xs, e_ys]; exact K.lh n2),
         l18 := (by rw [e_os, g 18 (by decide)]; exact h.l18),
         l19 := (by rw [e_os, g 19 (by decide)]; exact h.l19),
         lo := (by rw [e_os, g 18 (by decide)]; exact K.lo n1),
         lk := (by rw [e_os, e_ks, g 19 (by decide)]; exact K.lk n1),
         lon := (by rw [e_os]; have := h.lon; omega),
         lone := (by rw [g 18 (by decide), g 19 (by decide)]; exact h.lone),
         lp := (by rw [e_os, e_ks]; exact K.lp n3),
         m20 := (by rw [e_mark, g 20 (by decide)]; exact h.m20),
         mb := (by rw [e_mark]; have := h.mb; omega) }
theorem SAt.turnC {T : List TypeId} {B0 b n : Nat} {w w' : World} {f f' : Nat -> Value} {d d' : Sd} (h : SAt B0 b n w f d) (K : Kept T B0 w' f d) (hb : WB w' b f')
  (he : ∀ i, i < 21 -> i ≠ 8 -> i ≠ 9 -> i ≠ 10 -> i ≠ 11 -> i ≠ 12 -> i ≠ 13 -> f' i = f i)
  (e_ts : d'.ts = d.ts) (e_m : d'.m = d.m) (e_ds : d'.ds = d.ds) (e_ow : d'.ow = d.ow) (e_xs : d'.xs = d.xs) (e_ys : d'.ys = d.ys) (e_os : d'.os = d.os) (e_ks : d'.ks = d.ks) (e_mark : d'.mark = d.mark)
  (n0 : 46 ∉ T) (n1 : 77 ∉ T) (n2 : 76 ∉ T) (n3 : 78 ∉ T) (n4 : 58 ∉ T) (n5 : 60 ∉ T) (n6 : 3 ∉ T) (n7 : 9 ∉ T)
  (h_cf : ∀ i, 8 <= i -> i < 14 -> ∃ c, f' i = .int .i64 c /\ fits c) :
  SAt B0 b (n + 1) w' f' d' := by
 have g : ∀ i, (i < 21 /\ i ≠ 8 /\ i ≠ 9 /\ i ≠ 10 /\ i ≠ 11 /\ i ≠ 12 /\ i ≠ 13) -> f' i = f i := fun i h => he i h.1 h.2.1 h.2.2.1 h.2.2.2.1 h.2.2.2.2.1 h.2.2.2.2.2.1 h.2.2.2.2.2.2
 exact { blk := hb, hB := h.hB, t0 := (by rw [e_ts, g 0 (by decide)]; exact h.t0),
         tr := (by rw [e_ts, g 0 (by decide)]; exact K.tr n7),
         tn := (by rw [e_ts]; have := h.tn; omega),
         tz := (by rw [e_ts]; exact h.tz),
         m1 := (by rw [e_m, g 1 (by decide)]; exact h.m1),
         m2 := (by rw [e_m, g 2 (by decide)]; exact h.m2),
         m3 := (by rw [e_m, g 3 (by decide)]; exact h.m3),
         m4 := (by rw [e_m, g 4 (by decide)]; exact h.m4),
         m5 := (by rw [e_m, g 5 (by decide)]; exact h.m5),
         m6 := (by rw [e_m, g 6 (by decide)]; exact K.m6 n4),
         mn := (by rw [e_m]; have := h.mn; omega),
         d7 := (by rw [e_ds, g 7 (by decide)]; exact K.d7 n6),
         dn := (by rw [e_ds]; have := h.dn; omega),
         df := (by rw [e_ds]; exact h.df),
         cf := h_cf,
         o15 := (by rw [e_ow, g 15 (by decide)]; exact h.o15),
         orow := (by rw [e_ow, g 15 (by decide)]; exact K.orow n5),
         on := (by rw [e_ow]; exact h.on),
         oz := (by rw [e_ow]; exact h.oz),
         l16 := (by rw [e_xs, g 16 (by decide)]; exact h.l16),
         l17 := (by rw [e_xs, g 17 (by decide)]; exact h.l17),
         lx := (by rw [e_xs, g 16 (by decide)]; exact K.lx n0),
         ly := (by rw [e_xs, e_ys, g 17 (by decide)]; exact K.ly n0),
         ln := (by rw [e_xs]; have := h.ln; omega),
         lne := (by rw [g 16 (by decide), g 17 (by decide)]; exact h.lne),
         lh := (by rw [e_xs, e_ys]; exact K.lh n2),
         l18 := (by rw [e_os, g 18 (by decide)]; exact h.l18),
         l19 := (by rw [e_os, g 19 (by decide)]; exact h.l19),
         lo := (by rw [e_os, g 18 (by decide)]; exact K.lo n1),
         lk := (by rw [e_os, e_ks, g 19 (by decide)]; exact K.lk n1),
         lon := (by rw [e_os]; have := h.lon; omega),
         lone := (by rw [g 18 (by decide), g 19 (by decide)]; exact h.lone),
         lp := (by rw [e_os, e_ks]; exact K.lp n3),
         m20 := (by rw [e_mark, g 20 (by decide)]; exact h.m20),
         mb := (by rw [e_mark]; have := h.mb; omega) }
theorem SAt.turnO {T : List TypeId} {B0 b n : Nat} {w w' : World} {f f' : Nat -> Value} {d d' : Sd} (h : SAt B0 b n w f d) (K : Kept T B0 w' f d) (hb : WB w' b f')
  (he : ∀ i, i < 21 -> i ≠ 15 -> f' i = f i)
  (e_ts : d'.ts = d.ts) (e_m : d'.m = d.m) (e_ds : d'.ds = d.ds) (e_xs : d'.xs = d.xs) (e_ys : d'.ys = d.ys) (e_os : d'.os = d.os) (e_ks : d'.ks = d.ks) (e_mark : d'.mark = d.mark)
  (n0 : 46 ∉ T) (n1 : 77 ∉ T) (n2 : 76 ∉ T) (n3 : 78 ∉ T) (n4 : 58 ∉ T) (n5 : 3 ∉ T) (n6 : 9 ∉ T)
  (h_o15 : ∃ a c, f' 15 = .slice a d'.ow.length c) (h_orow : w'.ownsRow B0 60 2 (f' 15) d'.ow.length (Kk d'.ow)) (h_on : d'.ow.length <= 60) (h_oz : ∀ p ∈ d'.ow, p.2.size <= 60) :
  SAt B0 b (n + 1) w' f' d' := by
 have g : ∀ i, (i < 21 /\ i ≠ 15) -> f' i = f i := fun i h => he i h.1 h.2
 exact { blk := hb, hB := h.hB, t0 := (by rw [e_ts, g 0 (by decide)]; exact h.t0),
         tr := (by rw [e_ts, g 0 (by decide)]; exact K.tr n6),
         tn := (by rw [e_ts]; have := h.tn; omega),
         tz := (by rw [e_ts]; exact h.tz),
         m1 := (by rw [e_m, g 1 (by decide)]; exact h.m1),
         m2 := (by rw [e_m, g 2 (by decide)]; exact h.m2),
         m3 := (by rw [e_m, g 3 (by decide)]; exact h.m3),
         m4 := (by rw [e_m, g 4 (by decide)]; exact h.m4),
         m5 := (by rw [e_m, g 5 (by decide)]; exact h.m5),
         m6 := (by rw [e_m, g 6 (by decide)]; exact K.m6 n4),
         mn := (by rw [e_m]; have := h.mn; omega),
         d7 := (by rw [e_ds, g 7 (by decide)]; exact K.d7 n5),
         dn := (by rw [e_ds]; have := h.dn; omega),
         df := (by rw [e_ds]; exact h.df),
         cf := fun i h8 h14 => (by rw [he i (by omega) (by omega)]; exact h.cf i h8 h14),
         o15 := h_o15,
         orow := h_orow,
         on := h_on,
         oz := h_oz,
         l16 := (by rw [e_xs, g 16 (by decide)]; exact h.l16),
         l17 := (by rw [e_xs, g 17 (by decide)]; exact h.l17),
         lx := (by rw [e_xs, g 16 (by decide)]; exact K.lx n0),
         ly := (by rw [e_xs, e_ys, g 17 (by decide)]; exact K.ly n0),
         ln := (by rw [e_xs]; have := h.ln; omega),
         lne := (by rw [g 16 (by decide), g 17 (by decide)]; exact h.lne),
         lh := (by rw [e_xs, e_ys]; exact K.lh n2),
         l18 := (by rw [e_os, g 18 (by decide)]; exact h.l18),
         l19 := (by rw [e_os, g 19 (by decide)]; exact h.l19),
         lo := (by rw [e_os, g 18 (by decide)]; exact K.lo n1),
         lk := (by rw [e_os, e_ks, g 19 (by decide)]; exact K.lk n1),
         lon := (by rw [e_os]; have := h.lon; omega),
         lone := (by rw [g 18 (by decide), g 19 (by decide)]; exact h.lone),
         lp := (by rw [e_os, e_ks]; exact K.lp n3),
         m20 := (by rw [e_mark, g 20 (by decide)]; exact h.m20),
         mb := (by rw [e_mark]; have := h.mb; omega) }
theorem SAt.turnL {T : List TypeId} {B0 b n : Nat} {w w' : World} {f f' : Nat -> Value} {d d' : Sd} (h : SAt B0 b n w f d) (K : Kept T B0 w' f d) (hb : WB w' b f')
  (he : ∀ i, i < 21 -> i ≠ 16 -> i ≠ 17 -> i ≠ 20 -> f' i = f i)
  (e_ts : d'.ts = d.ts) (e_m : d'.m = d.m) (e_ds : d'.ds = d.ds) (e_ow : d'.ow = d.ow) (e_os : d'.os = d.os) (e_ks : d'.ks = d.ks)
  (n0 : 77 ∉ T) (n1 : 78 ∉ T) (n2 : 58 ∉ T) (n3 : 60 ∉ T) (n4 : 3 ∉ T) (n5 : 9 ∉ T)
  (h_l16 : ∃ a c, f' 16 = .slice a d'.xs.length c) (h_l17 : ∃ a c, f' 17 = .slice a d'.xs.length c) (h_lx : w'.ownsRow B0 46 1 (f' 16) d'.xs.length d'.xs) (h_ly : w'.ownsRow B0 46 1 (f' 17) d'.xs.length d'.ys) (h_ln : d'.xs.length <= 4 * (n + 1)) (h_lne : ∀ g, (f' 16).ownBlock = some g -> (f' 17).ownBlock ≠ some g) (h_lh : ∀ (i : Nat) v u, d'.xs[i]? = some v -> d'.ys[i]? = some u -> HeldK w'.heap.size w' v u) (h_m20 : f' 20 = .int .i64 d'.mark) (h_mb : 0 <= d'.mark /\ d'.mark <= 100 * ((n + 1 : Nat) : Int)) :
  SAt B0 b (n + 1) w' f' d' := by
 have g : ∀ i, (i < 21 /\ i ≠ 16 /\ i ≠ 17 /\ i ≠ 20) -> f' i = f i := fun i h => he i h.1 h.2.1 h.2.2.1 h.2.2.2
 exact { blk := hb, hB := h.hB, t0 := (by rw [e_ts, g 0 (by decide)]; exact h.t0),
         tr := (by rw [e_ts, g 0 (by decide)]; exact K.tr n5),
         tn := (by rw [e_ts]; have := h.tn; omega),
         tz := (by rw [e_ts]; exact h.tz),
         m1 := (by rw [e_m, g 1 (by decide)]; exact h.m1),
         m2 := (by rw [e_m, g 2 (by decide)]; exact h.m2),
         m3 := (by rw [e_m, g 3 (by decide)]; exact h.m3),
         m4 := (by rw [e_m, g 4 (by decide)]; exact h.m4),
         m5 := (by rw [e_m, g 5 (by decide)]; exact h.m5),
         m6 := (by rw [e_m, g 6 (by decide)]; exact K.m6 n2),
         mn := (by rw [e_m]; have := h.mn; omega),
         d7 := (by rw [e_ds, g 7 (by decide)]; exact K.d7 n4),
         dn := (by rw [e_ds]; have := h.dn; omega),
         df := (by rw [e_ds]; exact h.df),
         cf := fun i h8 h14 => (by rw [he i (by omega) (by omega) (by omega) (by omega)]; exact h.cf i h8 h14),
         o15 := (by rw [e_ow, g 15 (by decide)]; exact h.o15),
         orow := (by rw [e_ow, g 15 (by decide)]; exact K.orow n3),
         on := (by rw [e_ow]; exact h.on),
         oz := (by rw [e_ow]; exact h.oz),
         l16 := h_l16,
         l17 := h_l17,
         lx := h_lx,
         ly := h_ly,
         ln := h_ln,
         lne := h_lne,
         lh := h_lh,
         l18 := (by rw [e_os, g 18 (by decide)]; exact h.l18),
         l19 := (by rw [e_os, g 19 (by decide)]; exact h.l19),
         lo := (by rw [e_os, g 18 (by decide)]; exact K.lo n0),
         lk := (by rw [e_os, e_ks, g 19 (by decide)]; exact K.lk n0),
         lon := (by rw [e_os]; have := h.lon; omega),
         lone := (by rw [g 18 (by decide), g 19 (by decide)]; exact h.lone),
         lp := (by rw [e_os, e_ks]; exact K.lp n1),
         m20 := h_m20,
         mb := h_mb }
theorem SAt.turnP {T : List TypeId} {B0 b n : Nat} {w w' : World} {f f' : Nat -> Value} {d d' : Sd} (h : SAt B0 b n w f d) (K : Kept T B0 w' f d) (hb : WB w' b f')
  (he : ∀ i, i < 21 -> i ≠ 15 -> i ≠ 18 -> i ≠ 19 -> i ≠ 20 -> f' i = f i)
  (e_ts : d'.ts = d.ts) (e_m : d'.m = d.m) (e_ds : d'.ds = d.ds) (e_xs : d'.xs = d.xs) (e_ys : d'.ys = d.ys)
  (n0 : 46 ∉ T) (n1 : 76 ∉ T) (n2 : 58 ∉ T) (n3 : 3 ∉ T) (n4 : 9 ∉ T)
  (h_o15 : ∃ a c, f' 15 = .slice a d'.ow.length c) (h_orow : w'.ownsRow B0 60 2 (f' 15) d'.ow.length (Kk d'.ow)) (h_on : d'.ow.length <= 60) (h_oz : ∀ p ∈ d'.ow, p.2.size <= 60) (h_l18 : ∃ a c, f' 18 = .slice a d'.os.length c) (h_l19 : ∃ a c, f' 19 = .slice a d'.os.length c) (h_lo : w'.ownsRow B0 77 1 (f' 18) d'.os.length d'.os) (h_lk : w'.ownsRow B0 77 1 (f' 19) d'.os.length d'.ks) (h_lon : d'.os.length <= 8 * (n + 1)) (h_lone : ∀ g, (f' 18).ownBlock = some g -> (f' 19).ownBlock ≠ some g) (h_lp : ∀ (i : Nat) v u, d'.os[i]? = some v -> d'.ks[i]? = some u -> HeldP w'.heap.size w' v u) (h_m20 : f' 20 = .int .i64 d'.mark) (h_mb : 0 <= d'.mark /\ d'.mark <= 100 * ((n + 1 : Nat) : Int)) :
  SAt B0 b (n + 1) w' f' d' := by
 have g : ∀ i, (i < 21 /\ i ≠ 15 /\ i ≠ 18 /\ i ≠ 19 /\ i ≠ 20) -> f' i = f i := fun i h => he i h.1 h.2.1 h.2.2.1 h.2.2.2.1 h.2.2.2.2
 exact { blk := hb, hB := h.hB, t0 := (by rw [e_ts, g 0 (by decide)]; exact h.t0),
         tr := (by rw [e_ts, g 0 (by decide)]; exact K.tr n4),
         tn := (by rw [e_ts]; have := h.tn; omega),
         tz := (by rw [e_ts]; exact h.tz),
         m1 := (by rw [e_m, g 1 (by decide)]; exact h.m1),
         m2 := (by rw [e_m, g 2 (by decide)]; exact h.m2),
         m3 := (by rw [e_m, g 3 (by decide)]; exact h.m3),
         m4 := (by rw [e_m, g 4 (by decide)]; exact h.m4),
         m5 := (by rw [e_m, g 5 (by decide)]; exact h.m5),
         m6 := (by rw [e_m, g 6 (by decide)]; exact K.m6 n2),
         mn := (by rw [e_m]; have := h.mn; omega),
         d7 := (by rw [e_ds, g 7 (by decide)]; exact K.d7 n3),
         dn := (by rw [e_ds]; have := h.dn; omega),
         df := (by rw [e_ds]; exact h.df),
         cf := fun i h8 h14 => (by rw [he i (by omega) (by omega) (by omega) (by omega) (by omega)]; exact h.cf i h8 h14),
         o15 := h_o15,
         orow := h_orow,
         on := h_on,
         oz := h_oz,
         l16 := (by rw [e_xs, g 16 (by decide)]; exact h.l16),
         l17 := (by rw [e_xs, g 17 (by decide)]; exact h.l17),
         lx := (by rw [e_xs, g 16 (by decide)]; exact K.lx n0),
         ly := (by rw [e_xs, e_ys, g 17 (by decide)]; exact K.ly n0),
         ln := (by rw [e_xs]; have := h.ln; omega),
         lne := (by rw [g 16 (by decide), g 17 (by decide)]; exact h.lne),
         lh := (by rw [e_xs, e_ys]; exact K.lh n1),
         l18 := h_l18,
         l19 := h_l19,
         lo := h_lo,
         lk := h_lk,
         lon := h_lon,
         lone := h_lone,
         lp := h_lp,
         m20 := h_m20,
         mb := h_mb }
theorem SAt.turnML {T : List TypeId} {B0 b n : Nat} {w w' : World} {f f' : Nat -> Value} {d d' : Sd} (h : SAt B0 b n w f d) (K : Kept T B0 w' f d) (hb : WB w' b f')
  (he : ∀ i, i < 21 -> i ≠ 1 -> i ≠ 2 -> i ≠ 3 -> i ≠ 4 -> i ≠ 5 -> i ≠ 6 -> i ≠ 16 -> i ≠ 17 -> i ≠ 20 -> f' i = f i)
  (e_ts : d'.ts = d.ts) (e_ds : d'.ds = d.ds) (e_ow : d'.ow = d.ow) (e_os : d'.os = d.os) (e_ks : d'.ks = d.ks)
  (n0 : 77 ∉ T) (n1 : 78 ∉ T) (n2 : 60 ∉ T) (n3 : 3 ∉ T) (n4 : 9 ∉ T)
  (h_m1 : f' 1 = .int .i64 d'.m.kind) (h_m2 : f' 2 = .int .i64 d'.m.frm) (h_m3 : f' 3 = .int .i64 d'.m.inc) (h_m4 : f' 4 = .int .i64 d'.m.seq) (h_m5 : f' 5 = .int .i64 d'.m.tgt) (h_m6 : ∃ a c, f' 6 = .slice a d'.m.ups.length c /\ RKeys w' a d'.m.ups) (h_mn : d'.m.ups.length <= n + 1 + 8) (h_l16 : ∃ a c, f' 16 = .slice a d'.xs.length c) (h_l17 : ∃ a c, f' 17 = .slice a d'.xs.length c) (h_lx : w'.ownsRow B0 46 1 (f' 16) d'.xs.length d'.xs) (h_ly : w'.ownsRow B0 46 1 (f' 17) d'.xs.length d'.ys) (h_ln : d'.xs.length <= 4 * (n + 1)) (h_lne : ∀ g, (f' 16).ownBlock = some g -> (f' 17).ownBlock ≠ some g) (h_lh : ∀ (i : Nat) v u, d'.xs[i]? = some v -> d'.ys[i]? = some u -> HeldK w'.heap.size w' v u) (h_m20 : f' 20 = .int .i64 d'.mark) (h_mb : 0 <= d'.mark /\ d'.mark <= 100 * ((n + 1 : Nat) : Int)) :
  SAt B0 b (n + 1) w' f' d' := by
 have g : ∀ i, (i < 21 /\ i ≠ 1 /\ i ≠ 2 /\ i ≠ 3 /\ i ≠ 4 /\ i ≠ 5 /\ i ≠ 6 /\ i ≠ 16 /\ i ≠ 17 /\ i ≠ 20) -> f' i = f i := fun i h => he i h.1 h.2.1 h.2.2.1 h.2.2.2.1 h.2.2.2.2.1 h.2.2.2.2.2.1 h.2.2.2.2.2.2.1 h.2.2.2.2.2.2.2.1 h.2.2.2.2.2.2.2.2.1 h.2.2.2.2.2.2.2.2.2
 exact { blk := hb, hB := h.hB, t0 := (by rw [e_ts, g 0 (by decide)]; exact h.t0),
         tr := (by rw [e_ts, g 0 (by decide)]; exact K.tr n4),
         tn := (by rw [e_ts]; have := h.tn; omega),
         tz := (by rw [e_ts]; exact h.tz),
         m1 := h_m1,
         m2 := h_m2,
         m3 := h_m3,
         m4 := h_m4,
         m5 := h_m5,
         m6 := h_m6,
         mn := h_mn,
         d7 := (by rw [e_ds, g 7 (by decide)]; exact K.d7 n3),
         dn := (by rw [e_ds]; have := h.dn; omega),
         df := (by rw [e_ds]; exact h.df),
         cf := fun i h8 h14 => (by rw [he i (by omega) (by omega) (by omega) (by omega) (by omega) (by omega) (by omega) (by omega) (by omega) (by omega)]; exact h.cf i h8 h14),
         o15 := (by rw [e_ow, g 15 (by decide)]; exact h.o15),
         orow := (by rw [e_ow, g 15 (by decide)]; exact K.orow n2),
         on := (by rw [e_ow]; exact h.on),
         oz := (by rw [e_ow]; exact h.oz),
         l16 := h_l16,
         l17 := h_l17,
         lx := h_lx,
         ly := h_ly,
         ln := h_ln,
         lne := h_lne,
         lh := h_lh,
         l18 := (by rw [e_os, g 18 (by decide)]; exact h.l18),
         l19 := (by rw [e_os, g 19 (by decide)]; exact h.l19),
         lo := (by rw [e_os, g 18 (by decide)]; exact K.lo n0),
         lk := (by rw [e_os, e_ks, g 19 (by decide)]; exact K.lk n0),
         lon := (by rw [e_os]; have := h.lon; omega),
         lone := (by rw [g 18 (by decide), g 19 (by decide)]; exact h.lone),
         lp := (by rw [e_os, e_ks]; exact K.lp n1),
         m20 := h_m20,
         mb := h_mb }
structure Sop where
 kind : Int
 x : Int
 a : Int
 b : Int
 c : Int
 d : Int
 e : Int
 s : ByteArray
def Sop.v (o : Sop) : Value := .agg #[.int .i64 o.kind, .int .i64 o.x, .int .i64 o.a, .int .i64 o.b, .int .i64 o.c, .int .i64 o.d, .int .i64 o.e, .string o.s]
structure Sop.Ok (o : Sop) : Prop where
 kind : fits o.kind
 x : fits o.x
 a : fits o.a
 b : fits o.b
 c : fits o.c
 d : fits o.d
 e : fits o.e
 s : o.s.size <= 16384
def OwnPost (B0 b n : Nat) (w : World) (f : Nat -> Value) (e : Ending) (w' : World) : Prop :=
 e = .returned (.bool true) /\ ∃ f' d', SAt B0 b (n + 1) w' f' d' /\ K14 w f f' /\ Chg (SQ B0 b) w w'
theorem info_string : (Tryz.prog.info? 9).map (fun i => (i.zero, i.size, i.bytes)) = some (some (.string ⟨#[]⟩), 1, 16) := by kernel_rfl
theorem owner_text (B0 b n : Nat) (w : World) (f : Nat -> Value) (d : Sd) (h : SAt B0 b n w f d) (o : Sop) (ho : o.Ok) (hk : o.kind = 1) (hn : n <= 100000) :
  Calls Tryz.prog 11 #[.pointer (some ⟨b, 0, none⟩), o.v] w (OwnPost B0 b n w f) := by
 obtain ⟨kind, x, oa, ob, oc, od, oe, s⟩ := o; simp only at hk; subst hk; have hs := ho.s; simp only at hs; obtain ⟨a, cap, e0⟩ := h.t0; have htn := h.tn; have c0 : w.cell? ⟨b, 0, none⟩ = some (.slice a d.ts.length cap) := by rw [<- e0]; exact h.blk.cell (by omega)
 have fr0 := h.blk.free 0; have htr := h.tr; rw [e0] at htr; have H := Hd h; have HR := Hd htr; obtain ⟨m, hm⟩ : ∃ m, d.ts.length = m := ⟨_, rfl⟩; rw [hm] at c0 HR htn; have HM := Hd hm; clear htr h hm ho; obtain ⟨i0, hi, hz0, hz1, hz2⟩ := info_parts info_string; obtain ⟨w1, hw1⟩ : ∃ w1, w.alloc (.cells #[.int .i64 1, .int .i64 x, .int .i64 oa, .int .i64 ob, .int .i64 oc, .int .i64 od, .int .i64 oe, .string s] 28) = w1 := ⟨_, rfl⟩; have hb1 : Below w.heap.size w w1 := by rw [<- hw1]; exact (Below.refl _ _).alloc (Nat.le_refl _) _
 have hx1 : w1.heap[w.heap.size]? = some (.cells #[.int .i64 1, .int .i64 x, .int .i64 oa, .int .i64 ob, .int .i64 oc, .int .i64 od, .int .i64 oe, .string s] 28 (0, 0)) := by rw [<- hw1]; exact Kc w _
 have hsz1 : w1.heap.size = w.heap.size + 1 := by rw [<- hw1]; simp
 have c0' : w1.cell? ⟨b, 0, none⟩ = some (.slice a m cap) := (hb1.cell H.out.blk.lt).trans c0; have hR1 := Ks HR.out hb1; have hB0 : B0 <= w.heap.size := by have := H.out.hB; have := H.out.blk.lt; omega
 have hnew := Kt w1 [.string s] 9 (n := w1.heap.size) rfl; have HX1 := Hd (Ka hx1); have HSZ1 := Hd hsz1; have HB1 := Hd hb1; have HRW := Hd (hR1.alloc (.cells #[.string s] 9)).drew; have HNEW : Hid (∀ j u, [Value.string s][j]? = some u -> (w1.alloc (.cells #[.string s] 9)).drew.cell? ((⟨w1.heap.size, 0, none⟩ : Addr).add j) = some u) := hnew; have HW1 := Hd hw1; have k3 : m + 1 <= maxLen := by unfold maxLen; omega
 have K3 := Hd k3; have E0 := Hd e0; clear hb1 hx1 hsz1 hR1 hnew hw1 k3 e0 c0; unfold Sop.v; go_enter Tryz.func11, Tryz.ntmps11; go_wp2_with fail
 rw [HW1.out]; have ca : ∀ o, (w1.alloc o).cell? ⟨b, 0, none⟩ = some (.slice a m cap) := fun o => by rw [World.cell?_alloc_lt _ _ _ (World.block_lt_of_cell? _ _ c0')]; exact c0'
 have cx := HX1.out 7; simp only [List.getElem?_toArray, List.getElem?_cons_succ, List.getElem?_cons_zero] at cx; go_region_law (refine Ji rfl _ _ _ rfl B0 9 i0 _ 1 16 Tryz.underlying30 hi hz0 hz1 hz2 rfl (by decide) (.slice a m cap) m _ rfl HRW.out ⟨w1.heap.size, 0, none⟩ 1 1 _ rfl rfl HNEW.out (by simp [Value.oneCell']) (by omega) K3.out (by omega) (by have := HSZ1.out; simp; omega) ?_; intro g gc w4 hl4 hto4; obtain ⟨ct, ft, hS4, hC4⟩ := H.out.text hs ((HB1.out.alloc (by have := HSZ1.out; omega) (.cells #[.string s] 9)).drew) (by rw [HM.out]; exact hl4) (by rw [E0.out, HM.out]; exact hto4); have HS4 := Hd hS4; have HC4 := Hd hC4; rw [HM.out] at HS4 HC4; rw [E0.out, HM.out] at ct; clear hS4 hC4)
 all_goals
  go_wp2; go_ret
  exact ⟨rfl, _, _, HS4.out, .upd (by omega), HC4.out⟩
theorem owner_message (B0 b n : Nat) (w : World) (f : Nat -> Value) (d : Sd) (h : SAt B0 b n w f d) (o : Sop) (ho : o.Ok) (hk : o.kind = 3) :
  Calls Tryz.prog 11 #[.pointer (some ⟨b, 0, none⟩), o.v] w (OwnPost B0 b n w f) := by
 obtain ⟨kind, x, oa, ob, oc, od, oe, s⟩ := o; simp only at hk; subst hk; obtain ⟨_, _, ha, hbb, hcc, hdd, hee, hs⟩ := ho; simp only at ha hbb hcc hdd hee hs; obtain ⟨w1, hw1⟩ : ∃ w1, w.alloc (.cells #[.int .i64 3, .int .i64 x, .int .i64 oa, .int .i64 ob, .int .i64 oc, .int .i64 od, .int .i64 oe, .string s] 28) = w1 := ⟨_, rfl⟩; have hb1 : Below w.heap.size w w1 := by rw [<- hw1]; exact (Below.refl _ _).alloc (Nat.le_refl _) _
 have hx1 : w1.heap[w.heap.size]? = some (.cells #[.int .i64 3, .int .i64 x, .int .i64 oa, .int .i64 ob, .int .i64 oc, .int .i64 od, .int .i64 oe, .string s] 28 (0, 0)) := by rw [<- hw1]; exact Kc w _
 have hsz1 : w1.heap.size = w.heap.size + 1 := by rw [<- hw1]; simp
 have hB0 : B0 <= w.heap.size := by have := h.hB; have := h.blk.lt; omega
 have hlt := h.blk.lt; have H := Hd h; have HS1 := Hd (h.below hb1); have HX1 := Hd (Ka hx1); have HSZ1 := Hd hsz1; have HB1 := Hd hb1; have HW1 := Hd hw1; clear hb1 hx1 hsz1 h hw1; unfold Sop.v; go_enter Tryz.func11, Tryz.ntmps11; go_upto_region 11 with (fail); rw [HW1.out]; have fr := HS1.out.blk.free; have c1 : w1.cell? ⟨b, 1, none⟩ = some (f 1) := HS1.out.blk.cell (by omega)
 have c2 : w1.cell? ⟨b, 2, none⟩ = some (f 2) := HS1.out.blk.cell (by omega)
 have c3 : w1.cell? ⟨b, 3, none⟩ = some (f 3) := HS1.out.blk.cell (by omega)
 have c4 : w1.cell? ⟨b, 4, none⟩ = some (f 4) := HS1.out.blk.cell (by omega)
 have c5 : w1.cell? ⟨b, 5, none⟩ = some (f 5) := HS1.out.blk.cell (by omega)
 have c6 : w1.cell? ⟨b, 6, none⟩ = some (f 6) := HS1.out.blk.cell (by omega)
 have x2 := HX1.out 2; have x3 := HX1.out 3; have x4 := HX1.out 4; have x5 := HX1.out 5; have x6 := HX1.out 6; simp only [List.getElem?_toArray, List.getElem?_cons_succ, List.getElem?_cons_zero] at x2 x3 x4 x5 x6; go_wp2; go_ret
 have hc : Chg (fun k _ => k = b) w1 ((((((w1.setCell ⟨b, 1, none⟩ (.int .i64 oa)).setCell ⟨b, 2, none⟩ (.int .i64 ob)).setCell ⟨b, 3, none⟩ (.int .i64 oc)).setCell ⟨b, 4, none⟩ (.int .i64 od)).setCell ⟨b, 5, none⟩ (.int .i64 oe)).setCell ⟨b, 6, none⟩ (.slice none 0 0)) :=
  ((((((Chg.refl (fun k _ => k = b) w1).setCell (p := ⟨b, 1, none⟩) _ (fun _ _ => rfl)).setCell (p := ⟨b, 2, none⟩) _ (fun _ _ => rfl)).setCell (p := ⟨b, 3, none⟩) _ (fun _ _ => rfl)).setCell (p := ⟨b, 4, none⟩) _ (fun _ _ => rfl)).setCell (p := ⟨b, 5, none⟩) _ (fun _ _ => rfl)).setCell (p := ⟨b, 6, none⟩) _ (fun _ _ => rfl)
 have hblk := (((((HS1.out.blk.set (i := 1) (by omega) (.int .i64 oa)).set (i := 2) (by omega) (.int .i64 ob)).set (i := 3) (by omega) (.int .i64 oc)).set (i := 4) (by omega) (.int .i64 od)).set (i := 5) (by omega) (.int .i64 oe)).set (i := 6) (by omega) (.slice none 0 0)
 have K := HS1.out.kept (T := [41]) hc (HS1.out.onlyB)
 refine ⟨rfl, _, { d with m := ⟨oa, ob, oc, od, oe, []⟩ }, HS1.out.turnM (d' := { d with m := ⟨oa, ob, oc, od, oe, []⟩ }) K hblk (fun i _ h1 h2 h3 h4 h5 h6 => by simp [upd, h1, h2, h3, h4, h5, h6]) rfl rfl rfl rfl rfl rfl rfl rfl (by decide) (by decide) (by decide) (by decide) (by decide) (by decide) (by decide)
  rfl rfl rfl rfl rfl ⟨none, 0, rfl, RKeys.none _⟩ (by simp), ⟨by simp [upd], fun i hi k hk => by rcases hi with rfl | rfl <;> simp [upd, Value.ownBlock] at hk ⊢; exact .inl hk⟩, hc.after HB1.out (fun _ _ _ e => ⟨e ▸ H.out.hB, .inl e⟩)⟩
theorem owner_shape (B0 b n : Nat) (w : World) (f : Nat -> Value) (d : Sd) (h : SAt B0 b n w f d) (o : Sop) (ho : o.Ok) (hk : o.kind = 8) :
  Calls Tryz.prog 11 #[.pointer (some ⟨b, 0, none⟩), o.v] w (OwnPost B0 b n w f) := by
 obtain ⟨kind, x, oa, ob, oc, od, oe, s⟩ := o; simp only at hk; subst hk; obtain ⟨_, _, ha, hbb, hcc, hdd, hee, hs⟩ := ho; simp only at ha hbb hcc hdd hee hs; obtain ⟨w1, hw1⟩ : ∃ w1, w.alloc (.cells #[.int .i64 8, .int .i64 x, .int .i64 oa, .int .i64 ob, .int .i64 oc, .int .i64 od, .int .i64 oe, .string s] 28) = w1 := ⟨_, rfl⟩; have hb1 : Below w.heap.size w w1 := by rw [<- hw1]; exact (Below.refl _ _).alloc (Nat.le_refl _) _
 have hx1 : w1.heap[w.heap.size]? = some (.cells #[.int .i64 8, .int .i64 x, .int .i64 oa, .int .i64 ob, .int .i64 oc, .int .i64 od, .int .i64 oe, .string s] 28 (0, 0)) := by rw [<- hw1]; exact Kc w _
 have hsz1 : w1.heap.size = w.heap.size + 1 := by rw [<- hw1]; simp
 have hB0 : B0 <= w.heap.size := by have := h.hB; have := h.blk.lt; omega
 have hlt := h.blk.lt; have H := Hd h; have HS1 := Hd (h.below hb1); have HX1 := Hd (Ka hx1); have HSZ1 := Hd hsz1; have HB1 := Hd hb1; have HW1 := Hd hw1; clear hb1 hx1 hsz1 h hw1; unfold Sop.v; go_enter Tryz.func11, Tryz.ntmps11; go_upto_region 21 with (fail); rw [HW1.out]; have fr := HS1.out.blk.free; have c8 : w1.cell? ⟨b, 8, none⟩ = some (f 8) := HS1.out.blk.cell (by omega)
 have c9 : w1.cell? ⟨b, 9, none⟩ = some (f 9) := HS1.out.blk.cell (by omega)
 have c10 : w1.cell? ⟨b, 10, none⟩ = some (f 10) := HS1.out.blk.cell (by omega)
 have c11 : w1.cell? ⟨b, 11, none⟩ = some (f 11) := HS1.out.blk.cell (by omega)
 have c12 : w1.cell? ⟨b, 12, none⟩ = some (f 12) := HS1.out.blk.cell (by omega)
 have c13 : w1.cell? ⟨b, 13, none⟩ = some (f 13) := HS1.out.blk.cell (by omega)
 have x2 := HX1.out 2; have x3 := HX1.out 3; have x4 := HX1.out 4; have x5 := HX1.out 5; have x6 := HX1.out 6; simp only [List.getElem?_toArray, List.getElem?_cons_succ, List.getElem?_cons_zero] at x2 x3 x4 x5 x6; go_wp2; go_ret
 have hc : Chg (fun k _ => k = b) w1 ((((((w1.setCell ⟨b, 8, none⟩ (.int .i64 0)).setCell ⟨b, 9, none⟩ (.int .i64 oa)).setCell ⟨b, 10, none⟩ (.int .i64 ob)).setCell ⟨b, 11, none⟩ (.int .i64 oc)).setCell ⟨b, 12, none⟩ (.int .i64 od)).setCell ⟨b, 13, none⟩ (.int .i64 oe)) :=
  ((((((Chg.refl (fun k _ => k = b) w1).setCell (p := ⟨b, 8, none⟩) _ (fun _ _ => rfl)).setCell (p := ⟨b, 9, none⟩) _ (fun _ _ => rfl)).setCell (p := ⟨b, 10, none⟩) _ (fun _ _ => rfl)).setCell (p := ⟨b, 11, none⟩) _ (fun _ _ => rfl)).setCell (p := ⟨b, 12, none⟩) _ (fun _ _ => rfl)).setCell (p := ⟨b, 13, none⟩) _ (fun _ _ => rfl)
 have hblk := (((((HS1.out.blk.set (i := 8) (by omega) (.int .i64 0)).set (i := 9) (by omega) (.int .i64 oa)).set (i := 10) (by omega) (.int .i64 ob)).set (i := 11) (by omega) (.int .i64 oc)).set (i := 12) (by omega) (.int .i64 od)).set (i := 13) (by omega) (.int .i64 oe)
 have K := HS1.out.kept (T := [41]) hc (HS1.out.onlyB)
 refine ⟨rfl, _, d, HS1.out.turnC (d' := d) K hblk (fun i _ h1 h2 h3 h4 h5 h6 => by simp [upd, h1, h2, h3, h4, h5, h6]) rfl rfl rfl rfl rfl rfl rfl rfl rfl (by decide) (by decide) (by decide) (by decide) (by decide) (by decide) (by decide) (by decide)
  (fun i h8 h14 => ?_), .same (by simp [upd]) (by simp [upd]) (by simp [upd]), hc.after HB1.out (fun _ _ _ e => ⟨e ▸ H.out.hB, .inl e⟩)⟩
 have : i = 8 \/ i = 9 \/ i = 10 \/ i = 11 \/ i = 12 \/ i = 13 := by omega
 rcases this with rfl | rfl | rfl | rfl | rfl | rfl
 · exact ⟨0, by simp [upd], by unfold fits; omega⟩
 · exact ⟨oa, by simp [upd], ha⟩
 · exact ⟨ob, by simp [upd], hbb⟩
 · exact ⟨oc, by simp [upd], hcc⟩
 · exact ⟨od, by simp [upd], hdd⟩
 · exact ⟨oe, by simp [upd], hee⟩
theorem owner_update (B0 b n : Nat) (w : World) (f : Nat -> Value) (d : Sd) (h : SAt B0 b n w f d) (o : Sop) (ho : o.Ok) (hk : o.kind = 4) (hn : n <= 100000) :
  Calls Tryz.prog 11 #[.pointer (some ⟨b, 0, none⟩), o.v] w (OwnPost B0 b n w f) := by
 obtain ⟨kind, x, oa, ob, oc, od, oe, s⟩ := o; simp only at hk; subst hk; obtain ⟨_, _, ha, hbb, hcc, hdd, hee, hs⟩ := ho; simp only at ha hbb hcc hdd hee hs; obtain ⟨w1, hw1⟩ : ∃ w1, w.alloc (.cells #[.int .i64 4, .int .i64 x, .int .i64 oa, .int .i64 ob, .int .i64 oc, .int .i64 od, .int .i64 oe, .string s] 28) = w1 := ⟨_, rfl⟩; have hb1 : Below w.heap.size w w1 := by rw [<- hw1]; exact (Below.refl _ _).alloc (Nat.le_refl _) _
 have hx1 : w1.heap[w.heap.size]? = some (.cells #[.int .i64 4, .int .i64 x, .int .i64 oa, .int .i64 ob, .int .i64 oc, .int .i64 od, .int .i64 oe, .string s] 28 (0, 0)) := by rw [<- hw1]; exact Kc w _
 have hsz1 : w1.heap.size = w.heap.size + 1 := by rw [<- hw1]; simp
 have hB0 : B0 <= w.heap.size := by have := h.hB; have := h.blk.lt; omega
 have hlt := h.blk.lt; have H := Hd h; have HS1 := Hd (h.below hb1); have HX1 := Hd (Ka hx1); have HSZ1 := Hd hsz1; have HB1 := Hd hb1; have HW1 := Hd hw1; clear hb1 hx1 hsz1 h hw1; obtain ⟨a6, c6, e6, hk6⟩ := HS1.out.m6; have hmn := HS1.out.mn; obtain ⟨m, hm⟩ : ∃ m, d.m.ups.length = m := ⟨_, rfl⟩; rw [hm] at e6 hmn; have cc6 : w1.cell? ⟨b, 6, none⟩ = some (.slice a6 m c6) := by rw [<- e6]; exact HS1.out.blk.cell (by omega)
 have HC6 := Hd hk6.1.cells; have HM := Hd hm; have k3 : 0 + m <= maxLen := by unfold maxLen; omega
 have k4 : (0 + m) * 24 <= 140737488355328 := by omega
 have k5 : 0 + m + 1 <= maxLen := by unfold maxLen; omega
 have K3 := Hd k3; have K4 := Hd k4; have K5 := Hd k5; have hkl : (Kd d.m.ups).length = m * 3 := by rw [Jt]; omega
 have HKL := Hd hkl; obtain ⟨i0, hi, hz0, hz1, hz2⟩ := info_parts info_rkey; clear e6 hk6 hm k3 k4 k5 hkl; unfold Sop.v; go_enter Tryz.func11, Tryz.ntmps11; go_upto_region 13 with (fail); rw [HW1.out]; have x2 := HX1.out 2; have x3 := HX1.out 3; have x4 := HX1.out 4; simp only [List.getElem?_toArray, List.getElem?_cons_succ, List.getElem?_cons_zero] at x2 x3 x4; go_wp2_with (at_builtin; refine Km _ rfl _ _ 31 rfl B0 58 i0 _ 3 24 Tryz.underlying31 hi hz0 hz1 hz2 rfl (by decide) (.slice none 0 0) 0 [] rfl (World.ownsRow_nil _ _ _ _) a6 m c6 _ rfl HKL.out HC6.out (keyCells_one _) K3.out K4.out (by have := HSZ1.out; omega) ?_)
 intro a7 c7 w2 hl2 hto2; have hg2 : w1.grownBy w2 none := hto2.grown; have hblk2 := HS1.out.blk.grown hg2 (by simp)
 have y2 := (hg2.cell_far ⟨w.heap.size, 2, none⟩ (by have := HSZ1.out; simp; omega) (by simp)).trans x2
 have y3 := (hg2.cell_far ⟨w.heap.size, 3, none⟩ (by have := HSZ1.out; simp; omega) (by simp)).trans x3
 have y4 := (hg2.cell_far ⟨w.heap.size, 4, none⟩ (by have := HSZ1.out; simp; omega) (by simp)).trans x4
 have hnew := Kt w2 [.int .i64 oa, .int .i64 ob, .int .i64 oc] 58 (n := w2.heap.size) rfl; have HL2 := Hd (hl2.alloc (.cells #[.int .i64 oa, .int .i64 ob, .int .i64 oc] 58)); have HNEW := Hd hnew; have HB2 := Hd hblk2; have HG2 := Hd hg2; have HTO2 := Hd hto2; have hsz2 := hg2.size; clear hl2 hto2 hg2 hblk2 hnew x2 x3 x4 cc6; go_wp2_with (at_builtin; refine wpList_append_to _ rfl _ _ 31 rfl B0 58 i0 _ 3 24 Tryz.underlying31 hi hz0 hz1 hz2 rfl (by decide) (.slice a7 m c7) m _ rfl HL2.out ⟨w2.heap.size, 0, none⟩ 1 1 _ rfl rfl HNEW.out (by simp [Value.oneCell']) (by omega) (by have := K5.out; omega) (by omega) (by have := HSZ1.out; simp; omega) ?_)
 intro g c9 w3 hl3 hto3; have hn9 : (Value.slice a7 m c7).ownBlock ≠ some b := (HB2.out.alloc _).neOwn HL2.out (by decide)
 have hblk3 := (HB2.out.alloc (.cells #[.int .i64 oa, .int .i64 ob, .int .i64 oc] 58)).grown hto3.grown hn9; have hl4 := Kq hl3 ((Chg.refl (fun k _ => k = b) w3).setCell (p := ⟨b, 6, none⟩) (.slice (some ⟨g, 0, none⟩) (m + 1) c9) (fun _ _ => rfl)) (fun g' o e e' => hblk3.neOwn hl3 (by decide) (e' ▸ e))
 have hw2b : ∀ g', (Value.slice a7 m c7).ownBlock = some g' -> w1.heap.size <= g' := by
  intro g' e; rcases HTO2.out with ⟨rfl, n', c', e'⟩ | ⟨g'', e', h'⟩
  · simp only [Value.slice.injEq] at e'
    rw [<- e'.1] at e; simp [Value.ownBlock] at e
  · rw [e'] at e
    simp only [Value.ownBlock, Option.some.injEq] at e; rcases h' with ⟨h', _⟩ | ⟨h', _⟩
    · simp [Value.ownBlock] at h'
    · omega
 have hc : Chg (fun k _ => k = b \/ w1.heap.size <= k) w1 (w3.setCell ⟨b, 6, none⟩ (.slice (some ⟨g, 0, none⟩) (m + 1) c9)) :=
  ((((Chg.refl _ w1).grown HG2.out (fun k o e => by cases e)).alloc _).grown hto3.grown (fun k o e _ => .inr (hw2b k e))).setCell (p := ⟨b, 6, none⟩) _ (fun _ _ => .inl rfl)
 have hT : ∀ k o, w1.heap[k]? = some o -> (k = b \/ w1.heap.size <= k) -> k = b := fun k o hk hs => by have := Kb hk; omega
 have KK := HS1.out.kept (T := [41]) hc (fun k o hk hs => HS1.out.onlyB k o hk (hT k o hk hs))
 have c6 := hblk3.cell (i := 6) (by omega)
 have fr := hblk3.free 6; have hF := hblk3.set (i := 6) (by omega) (.slice (some ⟨g, 0, none⟩) (m + 1) c9)
 have hrow : (w3.setCell ⟨b, 6, none⟩ (.slice (some ⟨g, 0, none⟩) (m + 1) c9)).ownsRow B0 58 3 (.slice (some ⟨g, 0, none⟩) (m + 1) c9) (m + 1) (Kd (d.m.ups ++ [⟨oa, ob, oc⟩])) := by
  have e : Kd (d.m.ups ++ [⟨oa, ob, oc⟩]) = Kd d.m.ups ++ [.int .i64 oa, .int .i64 ob, .int .i64 oc] := by simp [Kd]
  rw [e]; exact hl4
 have hgw : ∀ k, (Value.slice (some ⟨g, 0, none⟩) (m + 1) c9).ownBlock = some k -> w.heap.size <= k := fun k hk => by
  simp only [Value.ownBlock, Option.some.injEq] at hk; subst hk; have := HSZ1.out; rcases hto3 with ⟨e, _⟩ | ⟨e, _⟩
  · have := hw2b _ e; omega
  · simp at e; omega
 have hfin : OwnPost B0 b n w f (.returned (.bool true)) (w3.setCell ⟨b, 6, none⟩ (.slice (some ⟨g, 0, none⟩) (m + 1) c9)) := by
  have hmm := HM.out; have h1 := HS1.out.m1; have h2 := HS1.out.m2; have h3 := HS1.out.m3; have h4 := HS1.out.m4; have h5 := HS1.out.m5
  have hm6 : ∃ a c, upd f 6 (.slice (some ⟨g, 0, none⟩) (m + 1) c9) 6 = .slice a (d.m.ups ++ [(⟨oa, ob, oc⟩ : K)]).length c /\ RKeys (w3.setCell ⟨b, 6, none⟩ (.slice (some ⟨g, 0, none⟩) (m + 1) c9)) a (d.m.ups ++ [⟨oa, ob, oc⟩]) :=
   ⟨_, c9, by rw [Ku]; simp [hmm], RKeys.of_row hrow⟩
  have hm7 : (d.m.ups ++ [(⟨oa, ob, oc⟩ : K)]).length <= n + 1 + 8 := by simp; omega
  have hS := HS1.out.turnM (d' := { d with m := { d.m with ups := d.m.ups ++ [⟨oa, ob, oc⟩] } }) KK hF (fun i _ h1 h2 h3 h4 h5 h6 => by simp [upd, h6]) rfl rfl rfl rfl rfl rfl rfl rfl (by decide) (by decide) (by decide) (by decide) (by decide) (by decide) (by decide)
   (by simpa [upd] using h1) (by simpa [upd] using h2) (by simpa [upd] using h3) (by simpa [upd] using h4) (by simpa [upd] using h5) hm6 hm7
  exact ⟨rfl, _, _, hS, ⟨by simp [upd], fun i hi k hk => by
   rcases hi with rfl | rfl
   · rw [Ku] at hk; exact .inr (hgw k hk)
   · exact .inl (by simpa [upd] using hk)⟩, hc.after HB1.out (fun k o hk e => ⟨(hT k o hk e) ▸ H.out.hB, .inl (hT k o hk e)⟩)⟩
 have HFIN := Hd hfin; clear hl3 hto3 hl4 hw2b hc KK hF hrow hfin hblk3 hgw; go_wp2; go_ret
 exact HFIN.out
theorem info_int' : (Tryz.prog.info? 3).map (fun i => (i.zero, i.size, i.bytes)) = some (some (.int .i64 0), 1, 8) := by kernel_rfl
theorem IntIn.of_row {w : World} {B n cap : Nat} {a : Option Addr} {l : List Int} (h : w.ownsRow B 3 1 (.slice a n cap) n (l.map (Value.int .i64))) : IntIn w a l := by
 refine ⟨Ki.row h, fun p e => ?_⟩
 rcases h.2 with ⟨e', _⟩ | ⟨g, cap', cur, e', _, hg, _⟩
 · simp only [Value.slice.injEq] at e'; rw [e'.1] at e; cases e
 · simp only [Value.slice.injEq] at e'; rw [e'.1] at e; cases e; exact ⟨_, _, hg⟩
theorem owner_draw (B0 b n : Nat) (w : World) (f : Nat -> Value) (d : Sd) (h : SAt B0 b n w f d) (o : Sop) (ho : o.Ok) (hk : o.kind = 7) (hn : n <= 100000) :
  Calls Tryz.prog 11 #[.pointer (some ⟨b, 0, none⟩), o.v] w (OwnPost B0 b n w f) := by
 obtain ⟨kind, x, oa, ob, oc, od, oe, s⟩ := o; simp only at hk; subst hk; obtain ⟨_, _, ha, hbb, hcc, hdd, hee, hs⟩ := ho; simp only at ha hbb hcc hdd hee hs; obtain ⟨w1, hw1⟩ : ∃ w1, w.alloc (.cells #[.int .i64 7, .int .i64 x, .int .i64 oa, .int .i64 ob, .int .i64 oc, .int .i64 od, .int .i64 oe, .string s] 28) = w1 := ⟨_, rfl⟩; have hb1 : Below w.heap.size w w1 := by rw [<- hw1]; exact (Below.refl _ _).alloc (Nat.le_refl _) _
 have hx1 : w1.heap[w.heap.size]? = some (.cells #[.int .i64 7, .int .i64 x, .int .i64 oa, .int .i64 ob, .int .i64 oc, .int .i64 od, .int .i64 oe, .string s] 28 (0, 0)) := by rw [<- hw1]; exact Kc w _
 have hsz1 : w1.heap.size = w.heap.size + 1 := by rw [<- hw1]; simp
 have hB0 : B0 <= w.heap.size := by have := h.hB; have := h.blk.lt; omega
 have hlt := h.blk.lt; have H := Hd h; have HS1 := Hd (h.below hb1); have HX1 := Hd (Ka hx1); have HSZ1 := Hd hsz1; have HB1 := Hd hb1; have HW1 := Hd hw1; clear hb1 hx1 hsz1 h hw1; obtain ⟨a6, c6, e6, hk6⟩ := HS1.out.d7; have hmn := HS1.out.dn; obtain ⟨m, hm⟩ : ∃ m, d.ds.length = m := ⟨_, rfl⟩; rw [hm] at e6 hmn; have cc6 : w1.cell? ⟨b, 7, none⟩ = some (.slice a6 m c6) := by rw [<- e6]; exact HS1.out.blk.cell (by omega)
 have HC6 := Hd hk6.1; have HM := Hd hm; have k3 : 0 + m <= maxLen := by unfold maxLen; omega
 have k4 : (0 + m) * 8 <= 140737488355328 := by omega
 have k5 : 0 + m + 1 <= maxLen := by unfold maxLen; omega
 have K3 := Hd k3; have K4 := Hd k4; have K5 := Hd k5; have hkl : (d.ds.map (Value.int .i64)).length = m * 1 := by rw [List.length_map]; omega
 have HKL := Hd hkl
 have h1c : ∀ u ∈ d.ds.map (Value.int .i64), u.oneCell' = true := by
  intro u hu; obtain ⟨x, _, rfl⟩ := List.mem_map.1 hu
  rfl
 have H1C := Hd h1c; obtain ⟨L, hL⟩ : ∃ L, d.ds.map (Value.int .i64) = L := ⟨_, rfl⟩; rw [hL] at HC6 HKL H1C; have HL := Hd hL; obtain ⟨i0, hi, hz0, hz1, hz2⟩ := info_parts info_int'; clear e6 hk6 hm k3 k4 k5 hkl h1c hL; unfold Sop.v; go_enter Tryz.func11, Tryz.ntmps11; go_upto_region 17 with (fail); rw [HW1.out]; have x2 := HX1.out 2; simp only [List.getElem?_toArray, List.getElem?_cons_succ, List.getElem?_cons_zero] at x2; go_wp2_with (at_builtin; refine Km _ rfl _ _ 24 rfl B0 3 i0 _ 1 8 Tryz.underlying24 hi hz0 hz1 hz2 rfl (by decide) (.slice none 0 0) 0 [] rfl (World.ownsRow_nil _ _ _ _) a6 m c6 _ rfl HKL.out HC6.out H1C.out K3.out K4.out (by have := HSZ1.out; omega) ?_)
 intro a7 c7 w2 hl2 hto2; have hg2 : w1.grownBy w2 none := hto2.grown; have hblk2 := HS1.out.blk.grown hg2 (by simp)
 have y2 := (hg2.cell_far ⟨w.heap.size, 2, none⟩ (by have := HSZ1.out; simp; omega) (by simp)).trans x2
 have hnew := Kt w2 [.int .i64 oa] 3 (n := w2.heap.size) rfl; have HL2 := Hd (hl2.alloc (.cells #[.int .i64 oa] 3)); have HNEW := Hd hnew; have HB2 := Hd hblk2; have HG2 := Hd hg2; have HTO2 := Hd hto2; have hsz2 := hg2.size; clear hl2 hto2 hg2 hblk2 hnew x2 cc6; go_wp2_with (at_builtin; refine wpList_append_to _ rfl _ _ 24 rfl B0 3 i0 _ 1 8 Tryz.underlying24 hi hz0 hz1 hz2 rfl (by decide) (.slice a7 m c7) m _ rfl HL2.out ⟨w2.heap.size, 0, none⟩ 1 1 _ rfl rfl HNEW.out (by simp [Value.oneCell']) (by omega) (by have := K5.out; omega) (by omega) (by have := HSZ1.out; simp; omega) ?_)
 intro g c9 w3 hl3 hto3; have hn9 : (Value.slice a7 m c7).ownBlock ≠ some b := (HB2.out.alloc _).neOwn HL2.out (by decide)
 have hblk3 := (HB2.out.alloc (.cells #[.int .i64 oa] 3)).grown hto3.grown hn9; have hl4 := Kq hl3 ((Chg.refl (fun k _ => k = b) w3).setCell (p := ⟨b, 7, none⟩) (.slice (some ⟨g, 0, none⟩) (m + 1) c9) (fun _ _ => rfl)) (fun g' o e e' => hblk3.neOwn hl3 (by decide) (e' ▸ e))
 have hw2b : ∀ g', (Value.slice a7 m c7).ownBlock = some g' -> w1.heap.size <= g' := by
  intro g' e; rcases HTO2.out with ⟨rfl, n', c', e'⟩ | ⟨g'', e', h'⟩
  · simp only [Value.slice.injEq] at e'
    rw [<- e'.1] at e; simp [Value.ownBlock] at e
  · rw [e'] at e
    simp only [Value.ownBlock, Option.some.injEq] at e; rcases h' with ⟨h', _⟩ | ⟨h', _⟩
    · simp [Value.ownBlock] at h'
    · omega
 have hc : Chg (fun k _ => k = b \/ w1.heap.size <= k) w1 (w3.setCell ⟨b, 7, none⟩ (.slice (some ⟨g, 0, none⟩) (m + 1) c9)) :=
  ((((Chg.refl _ w1).grown HG2.out (fun k o e => by cases e)).alloc _).grown hto3.grown (fun k o e _ => .inr (hw2b k e))).setCell (p := ⟨b, 7, none⟩) _ (fun _ _ => .inl rfl)
 have hT : ∀ k o, w1.heap[k]? = some o -> (k = b \/ w1.heap.size <= k) -> k = b := fun k o hk hs => by have := Kb hk; omega
 have KK := HS1.out.kept (T := [41]) hc (fun k o hk hs => HS1.out.onlyB k o hk (hT k o hk hs))
 have c6 := hblk3.cell (i := 7) (by omega)
 have fr := hblk3.free 7; have hF := hblk3.set (i := 7) (by omega) (.slice (some ⟨g, 0, none⟩) (m + 1) c9)
 have hrow : (w3.setCell ⟨b, 7, none⟩ (.slice (some ⟨g, 0, none⟩) (m + 1) c9)).ownsRow B0 3 1 (.slice (some ⟨g, 0, none⟩) (m + 1) c9) (m + 1) ((d.ds ++ [oa]).map (Value.int .i64)) := by
  rw [List.map_append, HL.out]; exact hl4
 have hgw : ∀ k, (Value.slice (some ⟨g, 0, none⟩) (m + 1) c9).ownBlock = some k -> w.heap.size <= k := fun k hk => by
  simp only [Value.ownBlock, Option.some.injEq] at hk; subst hk; have := HSZ1.out; rcases hto3 with ⟨e, _⟩ | ⟨e, _⟩
  · have := hw2b _ e; omega
  · simp at e; omega
 have hfin : OwnPost B0 b n w f (.returned (.bool true)) (w3.setCell ⟨b, 7, none⟩ (.slice (some ⟨g, 0, none⟩) (m + 1) c9)) := by
  have hmm := HM.out
  have hm6 : ∃ a c, upd f 7 (.slice (some ⟨g, 0, none⟩) (m + 1) c9) 7 = .slice a (d.ds ++ [oa]).length c /\ IntIn (w3.setCell ⟨b, 7, none⟩ (.slice (some ⟨g, 0, none⟩) (m + 1) c9)) a (d.ds ++ [oa]) :=
   ⟨_, c9, by rw [Ku]; simp [hmm], IntIn.of_row hrow⟩
  have hm7 : (d.ds ++ [oa]).length <= n + 1 := by simp; omega
  have hm8 : ∀ x ∈ d.ds ++ [oa], fits x := fun x hx => by
   rcases List.mem_append.1 hx with hx | hx
   · exact HS1.out.df x hx
   · simp only [List.mem_cons, List.not_mem_nil, or_false] at hx; subst hx; exact ha
  have hS := HS1.out.turnD (d' := { d with ds := d.ds ++ [oa] }) KK hF (fun i _ h7 => by simp [upd, h7]) rfl rfl rfl rfl rfl rfl rfl rfl (by decide) (by decide) (by decide) (by decide) (by decide) (by decide) (by decide)
   hm6 hm7 hm8
  exact ⟨rfl, _, _, hS, ⟨by simp [upd], fun i hi k hk => by
   rcases hi with rfl | rfl
   · exact .inl (by simpa [upd] using hk)
   · rw [Ku] at hk; exact .inr (hgw k hk)⟩, hc.after HB1.out (fun k o hk e => ⟨(hT k o hk e) ▸ H.out.hB, .inl (hT k o hk e)⟩)⟩
 have HFIN := Hd hfin; clear hl3 hto3 hl4 hw2b hc KK hF hrow hfin hblk3 hgw; go_wp2; go_ret
 exact HFIN.out
