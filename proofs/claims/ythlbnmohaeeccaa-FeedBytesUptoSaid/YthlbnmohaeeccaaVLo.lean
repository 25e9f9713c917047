/- Parts of the proof in YthlbnmohaeeccaaVFin: FeCg. -/
import Derived.Test.YthlbnmohaeeccaaVLf
import Derived.Test.YthlbnmohaeeccaaVLm
import Derived.Test.YthlbnmohaeeccaaVK4
set_option linter.unusedVariables false
set_option linter.unusedSimpArgs false
section
set_option maxHeartbeats 4000000
set_option maxRecDepth 200000
namespace Go.Px.Fe
open Go.Proofs Go.Px.Fs
theorem tauR_s {n : Nat} (h : n < 4294967296) : tauR n = n := by
 unfold tauR
 rw [if_neg (by omega)]
theorem num_r {l : Str} (h : l ≠ []) : numR l 0 = tauR (valN l) := numR_tau l 0 h
attribute [local irreducible] Go.Px.KOk tauR
theorem k33' {l : Str} (h : l ≠ []) (hl : l.length ≤ 100000000) : KOk cF 33 [bysA l] (.int .i64 (tauR (valN l))) := by
 have := k33 l hl
 rwa [num_r h] at this
theorem valN_l {l : Str} {n : Nat} (h : l.length ≤ n) (hn : n ≤ 4) : valN l < 4294967296 := Nat.lt_of_lt_of_le (valN_lt l) (Nat.pow_le_pow_right (n := 256) (by decide) (Nat.le_trans h hn))
theorem pDs_1 {n : Nat} {c : Str} (h : c.length < 2) : pDs (n + 1) c = none := by rw [pDs, if_pos h]
theorem pDs_2 {n : Nat} {c : Str} (h : ¬ c.length < 2) (h2 : (c.drop 2).length < valN (c.take 2)) : pDs (n + 1) c = none := by rw [pDs, if_neg h, if_pos h2]
theorem pDs_3 {n : Nat} {c : Str} (h : ¬ c.length < 2) (h2 : ¬ (c.drop 2).length < valN (c.take 2)) : pDs (n + 1) c = (pD ((c.drop 2).take (valN (c.take 2)))).bind fun d => (pDs n ((c.drop 2).drop (valN (c.take 2)))).map fun x => (d :: x.1, x.2) := by rw [pDs, if_neg h, if_neg h2]
theorem map_cons' (n8 : Nat) (ds : List Da) (dd : Da) (o : Option (List Da × Str)) : ((some dd).bind fun d => o.map fun x => (d :: x.1, x.2)).map (fun x => ((n8, ds ++ x.1), x.2)) = o.map fun x => ((n8, (ds ++ [dd]) ++ x.1), x.2) := by
 cases o with
 | none => rfl
 | some x => show some ((n8, ds ++ (dd :: x.1)), x.2) = some ((n8, (ds ++ [dd]) ++ x.1), x.2); rw [List.append_assoc]; rfl
theorem feed_step' {b c d : Str} {raw : List (Nat × List Da)} {n8 : Nat} {ds : List Da} (hc0 : c.length ≠ 0) (hfe : pFeed b = (pFeed c).map (raw ++ ·)) : (pTx c = some ((n8, ds), d) → pFeed b = (pFeed d).map ((raw ++ [(n8, ds)]) ++ ·)) ∧ (pTx c = none → pFeed b = none) := by
 refine ⟨fun h => ?_, fun h => ?_⟩
 ·rw [hfe, pFeed_s hc0 h]
  cases pFeed d with
  | none => rfl
  | some r => show some (raw ++ ((n8, ds) :: r)) = some ((raw ++ [(n8, ds)]) ++ r); rw [List.append_assoc]; rfl
 ·rw [hfe, pFeed_n hc0 h]; rfl
theorem pDs_z' (d : Str) {n k : Nat} (h : n ≤ k) (n8 : Nat) (ds : List Da) : (pDs (n - k) d).map (fun x => ((n8, ds ++ x.1), x.2)) = some ((n8, ds), d) := by
 rw [show n - k = 0 by omega]
 show some ((n8, ds ++ []), d) = _
 rw [List.append_nil]
theorem pRead_n {τ : Nat → Int} {b : Str} (h : pFeed b = none) : pRead τ b = none := by unfold pRead; rw [h]
def In13 (b : Str) (s : Nat × List Tx) : Prop := s.1 ≤ b.length ∧ 12 * s.2.length ≤ s.1 ∧ ∃ raw, s.2 = raw.map (toTx tauR) ∧ pFeed b = (pFeed (b.drop s.1)).map (raw ++ ·)
def In13k (b : Str) (a n8 n4 : Nat) (s : Nat × Nat × List Da) : Prop := s.1 ≤ n4 ∧ a + 12 + 2 * s.2.2.length ≤ s.2.1 ∧ s.2.1 ≤ b.length ∧ pTx (b.drop a) = (pDs (n4 - s.1) (b.drop s.2.1)).map fun x => ((n8, s.2.2 ++ x.1), x.2)
theorem out13 {b : Str} {a p n8 n4 k : Nat} {out : List Tx} {raw : List (Nat × List Da)} {t8 : Int} {ds : List Da} (hab : a < b.length) (hlen : 12 * out.length ≤ a) (hraw : out = raw.map (toTx tauR)) (hfe : pFeed b = (pFeed (b.drop a)).map (raw ++ ·)) (ht8 : tauR n8 = t8) (hk : In13k b a n8 n4 (k, p, ds)) (hg : n4 ≤ k) :
  In13 b (p, out ++ [⟨t8, ds⟩]) := by
 obtain ⟨_, h1, h2, h3⟩ := hk
 simp only at h1 h2 h3
 rw [pDs_z' _ hg] at h3
 have hs := (@feed_step' b (b.drop a) (b.drop p) raw n8 ds (by rw [List.length_drop]; omega) hfe).1 h3
 refine ⟨h2, by show 12 * (out ++ [_]).length ≤ p; rw [List.length_append]; simp only [List.length_cons, List.length_nil]; omega, raw ++ [(n8, ds)], ?_, hs⟩
 show out ++ [_] = (raw ++ [(n8, ds)]).map (toTx tauR)
 rw [List.map_append, ← hraw, ← ht8]; rfl
theorem non13 {b : Str} {a p n8 n4 k : Nat} {raw : List (Nat × List Da)} {ds : List Da} (hab : a < b.length) (hfe : pFeed b = (pFeed (b.drop a)).map (raw ++ ·)) (hk : In13k b a n8 n4 (k, p, ds)) (hn : pDs (n4 - k) (b.drop p) = none) : pRead tauR b = none := by
 have h3 := hk.2.2.2
 simp only at h3
 rw [hn] at h3
 exact pRead_n ((@feed_step' b (b.drop a) [] raw n8 ds (by rw [List.length_drop]; omega) hfe).2 h3)
theorem k13 (b : Str) (hb : b.length ≤ 100000) : KOk cF 13 [bysA b] (feedR (pRead tauR b)) := by
 refine KOk.of cF_ok eF.g Try.func13 rfl (Nat.le_of_ble_eq_true rfl) fun w F => ?_
 repeat' first | refine Go.seq ?_ | refine Go.region rfl ?_ | refine Ops.nil ?_ | refine Ops.val eF rfl rfl Zw Z1 ?_ | refine Go.block ?_
 refine Go.change (Chg.tokAt 0 4 54 2 rfl rfl) ?_
 refine Go.toHQ (N := 1) (bs := [.arr 54 2 0 []]) (L' := [(0, bysA b), (4, .own 0 0 2), (5, .int .i64 (0 : Nat))]) ?_ rfl eF.g Zt rfl rfl ⟨.inr rfl, trivial⟩ Zl rfl rfl
 refine Go.loop (fun s : Nat × List Tx => [(0, bysA b), (4, .own 0 s.2.length 2), (5, .int .i64 s.1)]) (fun s => hq 1 [.arr 54 2 s.2.length (s.2.flatMap encTx)]) (In13 b) (fun s => b.length - s.1) (0, []) ⟨Nat.zero_le _, Nat.le_refl _, [], rfl, by show _ = Option.map (fun x => x) (pFeed b); simp⟩ Zt rfl (fun s hP ih => ?_)
 obtain ⟨a, out⟩ := s
 obtain ⟨hab, hlen, raw, hraw, hfe⟩ := hP
 simp only at hab hlen hraw hfe ⊢
 by_cases c0 : (a : Int) < (b.length : Int)
 ·by_cases c12 : (b.length : Int) - (a : Int) < 12
  ·as_aux_lemma =>
    rw [show pRead tauR b = none from pRead_n ((@feed_step' b (b.drop a) [] raw 0 [] (by rw [List.length_drop]; omega) hfe).2 (by unfold pTx; rw [if_pos (by rw [List.length_drop]; omega)]))]
    repeat' first | refine Go.seq ?_ | refine Go.region rfl ?_ | refine Ops.nil ?_ | refine Ops.val eF rfl rfl Zw (by first | exact Z1 | exact Z3 | exact Y15 | exact Z6) ?_ | refine Go.condTt rfl Za ?_ | refine Go.block ?_ | refine Go.skip ?_ | refine Go.retF rfl ?_ rfl
    rfl
  ·have k1 : KOk cF 33 [bysA ((b.drop (a : Int).toNat).take (((a : Int) + 8).toNat - (a : Int).toNat))] (.int .i64 (tauR (valN ((b.drop a).take 8)))) := by
    rw [show ((a : Int) + 8).toNat - (a : Int).toNat = 8 by omega, Int.toNat_natCast]
    exact k33' (fun h => by have := congrArg List.length h; rw [List.length_take, List.length_drop] at this; simp only [List.length_nil] at this; omega) (by rw [List.length_take]; omega)
   have hl4 : (((b.drop a).drop 8).take 4).length ≤ 4 := by rw [List.length_take]; omega
   have k2 : KOk cF 33 [bysA ((b.drop ((a : Int) + 8).toNat).take (((a : Int) + 12).toNat - ((a : Int) + 8).toNat))] (.int .i64 ((valN (((b.drop a).drop 8).take 4) : Nat))) := by
    rw [show ((a : Int) + 12).toNat - ((a : Int) + 8).toNat = 4 by omega, show ((a : Int) + 8).toNat = a + 8 by omega, ← List.drop_drop, ← tauR_s (valN_l hl4 (Nat.le_refl 4))]
    exact k33' (fun h => by have := congrArg List.length h; rw [List.length_take, List.length_drop, List.length_drop] at this; simp only [List.length_nil] at this; omega) (by rw [List.length_take]; omega)
   have hpt : pTx (b.drop a) = (pDs (valN (((b.drop a).drop 8).take 4)) (b.drop (a + 12))).map fun x => ((valN ((b.drop a).take 8), x.1), x.2) := by
    unfold pTx
    rw [if_neg (by rw [List.length_drop]; omega), show (b.drop a).drop 12 = b.drop (a + 12) by rw [List.drop_drop]]
   have hv4 := valN_l hl4 (Nat.le_refl 4)
   generalize valN ((b.drop a).take 8) = n8 at *
   generalize valN (((b.drop a).drop 8).take 4) = n4 at *
   generalize ht8 : tauR n8 = t8 at *
   clear hl4
   repeat' first | refine Go.seq ?_ | refine Go.region rfl ?_ | refine Ops.nil ?_ | refine Ops.val eF rfl rfl Zw (Hop.cut eF (enc := encB) (l := b) rfl rfl rfl rfl rfl rfl rfl rfl (fun _ => rfl) (by omega)) ?_ | refine Ops.val eF rfl rfl Zw (by first | exact Z1 | exact Z3 | exact Y14 | exact Y15 | exact Z6 | exact Y36) ?_ | refine Ops.call eF rfl rfl Zw rfl rfl rfl rfl (k1) rfl ?_ | refine Ops.call eF rfl rfl Zw rfl rfl rfl rfl (k2) rfl ?_ | refine Ops.rowAt eF 1 rfl rfl Zw rfl (Hop.alloc eF rfl rfl rfl) ?_ | refine Ops.unit eF rfl Zw (Hop.store eF rfl rfl rfl rfl rfl rfl) (ArrKeep.put rfl) ?_ | refine Go.condTt rfl Za ?_ | refine Go.condFt rfl Za ?_ | refine Go.block ?_ | refine Go.skip ?_
   refine Go.change (Chg.tokCellJ 2 1 1 58 9 2 rfl (by decide) rfl rfl rfl rfl) ?_
   refine Go.toHQ (N := 3) (bs := [.arr 54 2 out.length (out.flatMap encTx), .row ⟨54, 2, .leaf, [.int .i64 t8, .own 2 0 9], none⟩, .arr 58 9 0 []]) (L' := [(0, bysA b), (4, .own 0 out.length 2), (5, .int .i64 ((a + 12 : Nat) : Int)), (6, .ptr 1 0), (7, .int .i64 (n4 : Nat)), (8, .int .i64 (0 : Nat))]) ?_ rfl eF.g Zt rfl rfl Zg Zl rfl rfl
   clear k1 k2
   refine Go.loop (fun s : Nat × Nat × List Da => [(0, bysA b), (4, .own 0 out.length 2), (5, .int .i64 s.2.1), (6, .ptr 1 0), (7, .int .i64 (n4 : Nat)), (8, .int .i64 s.1)]) (fun s => hq 3 [.arr 54 2 out.length (out.flatMap encTx), .row ⟨54, 2, .leaf, [.int .i64 t8, .own 2 s.2.2.length 9], none⟩, .arr 58 9 s.2.2.length (s.2.2.flatMap encDa)]) (In13k b a n8 n4) (fun s => n4 - s.1) (0, a + 12, []) ⟨Nat.zero_le _, Nat.le_refl _, by show a + 12 ≤ _; omega, hpt⟩ Zt rfl (fun s hP ihk => ?_)
   obtain ⟨k, p, ds⟩ := s
   have hst := hP
   obtain ⟨hk, hp, hpb, hpd⟩ := hP
   simp only at hk hp hpb hpd ⊢
   by_cases c1 : (k : Int) < (n4 : Int)
   ·have enk : n4 - k = n4 - (k + 1) + 1 := by omega
    by_cases c2 : (b.length : Int) - (p : Int) < 2
    ·as_aux_lemma =>
      rw [non13 (by omega) hfe hst (by rw [enk]; exact pDs_1 (by rw [List.length_drop]; omega))]
      repeat' first | refine Go.seq ?_ | refine Go.region rfl ?_ | refine Ops.nil ?_ | refine Ops.val eF rfl rfl Zw (by first | exact Z1 | exact Z3 | exact Y15 | exact Z6) ?_ | refine Go.condTt rfl Za ?_ | refine Go.block ?_ | refine Go.skip ?_ | refine Go.retF rfl ?_ rfl
      rfl
    ·have hl2 : ((b.drop p).take 2).length ≤ 2 := by rw [List.length_take]; omega
     have k1 : KOk cF 33 [bysA ((b.drop (p : Int).toNat).take (((p : Int) + 2).toNat - (p : Int).toNat))] (.int .i64 ((valN ((b.drop p).take 2) : Nat))) := by
      rw [show ((p : Int) + 2).toNat - (p : Int).toNat = 2 by omega, Int.toNat_natCast, ← tauR_s (valN_l hl2 (by decide))]
      exact k33' (fun h => by have := congrArg List.length h; rw [List.length_take, List.length_drop] at this; simp only [List.length_nil] at this; omega) (by rw [List.length_take]; omega)
     have hv2 := valN_l hl2 (by decide)
     have hd2 := @pDs_2 (n4 - (k + 1)) (b.drop p) (by rw [List.length_drop]; omega)
     have hd3 := @pDs_3 (n4 - (k + 1)) (b.drop p) (by rw [List.length_drop]; omega)
     rw [← enk] at hd2 hd3
     generalize valN ((b.drop p).take 2) = n2 at *
     by_cases c3 : (b.length : Int) - ((p : Int) + 2) < (n2 : Int)
     ·as_aux_lemma =>
       rw [non13 (by omega) hfe hst (hd2 (by rw [List.length_drop, List.length_drop]; omega))]
       repeat' first | refine Go.seq ?_ | refine Go.region rfl ?_ | refine Ops.nil ?_ | refine Ops.val eF rfl rfl Zw (Hop.cut eF (enc := encB) (l := b) rfl rfl rfl rfl rfl rfl rfl rfl (fun _ => rfl) (by omega)) ?_ | refine Ops.val eF rfl rfl Zw (by first | exact Z1 | exact Z3 | exact Y14 | exact Y15 | exact Z6) ?_ | refine Ops.call eF rfl rfl Zw rfl rfl rfl rfl (k1) rfl ?_ | refine Go.condTt rfl Za ?_ | refine Go.condFt rfl Za ?_ | refine Go.block ?_ | refine Go.skip ?_ | refine Go.retF rfl ?_ rfl
       rfl
     ·have hd3 := hd3 (by rw [List.length_drop, List.length_drop]; omega)
      have k3 : KOk cF 34 [.int .i64 1, bysA ((b.drop ((p : Int) + 2).toNat).take (((p : Int) + 2 + (n2 : Int)).toNat - ((p : Int) + 2).toNat))] (datR (pD (((b.drop p).drop 2).take n2))) := by
       rw [show ((p : Int) + 2 + (n2 : Int)).toNat - ((p : Int) + 2).toNat = n2 by omega, show ((p : Int) + 2).toNat = p + 2 by omega, ← List.drop_drop]
       exact k34 _ (by rw [List.length_take, List.length_drop, List.length_drop]; omega)
      cases hpd2 : pD (((b.drop p).drop 2).take n2) with
      | none =>
       as_aux_lemma =>
        rw [hpd2] at hd3 k3
        rw [non13 (by omega) hfe hst (by rw [hd3]; rfl)]
        have k3 : KOk cF 34 [.int .i64 1, bysA ((b.drop ((p : Int) + 2).toNat).take (((p : Int) + 2 + (n2 : Int)).toNat - ((p : Int) + 2).toNat))] (.tup [.agg (encDa default), .int .i64 40]) := k3
        repeat' first | refine Go.seq ?_ | refine Go.region rfl ?_ | refine Ops.nil ?_ | refine Go.condNn rfl Za ?_ | refine Ops.val eF rfl rfl Zw (Hop.cut eF (enc := encB) (l := b) rfl rfl rfl rfl rfl rfl rfl rfl (fun _ => rfl) (by omega)) ?_ | refine Ops.val eF rfl rfl Zw (by first | exact Z1 | exact Z3 | exact Y14 | exact Y15 | exact Z6) ?_ | refine Ops.call eF rfl rfl Zw rfl rfl rfl rfl (k1) rfl ?_ | refine Ops.call eF rfl rfl Zw rfl rfl rfl rfl (k3) rfl ?_ | refine Ops.rowAt eF 3 rfl rfl Zw rfl (Hop.alloc eF rfl rfl rfl) ?_ | refine Ops.unit eF rfl Zw (Hop.store eF rfl rfl rfl rfl rfl rfl) (ArrKeep.put rfl) ?_ | refine Go.condTt rfl Za ?_ | refine Go.condFt rfl Za ?_ | refine Go.block ?_ | refine Go.skip ?_ | refine Go.retF rfl ?_ rfl
        rfl
      | some dd =>
       as_aux_lemma =>
        rw [hpd2] at hd3 k3
        have k3 : KOk cF 34 [.int .i64 1, bysA ((b.drop ((p : Int) + 2).toNat).take (((p : Int) + 2 + (n2 : Int)).toNat - ((p : Int) + 2).toNat))] (.tup [.agg (encDa dd), .int .i64 0]) := k3
        have g := ihk (k + 1, p + 2 + n2, ds ++ [dd]) ⟨by show k + 1 ≤ _; omega, by show _ + 2 * (ds ++ [dd]).length ≤ p + 2 + n2; rw [List.length_append]; simp only [List.length_cons, List.length_nil]; omega, by show p + 2 + n2 ≤ _; omega, by
         rw [hpd, hd3]
         show Option.map _ _ = Option.map _ (pDs (n4 - (k + 1)) (b.drop (p + 2 + n2)))
         rw [← List.drop_drop, ← List.drop_drop]
         exact map_cons' _ _ _ _⟩ (by show n4 - (k + 1) < n4 - k; omega)
        rw [List.flatMap_append, List.length_append] at g
        have hdl : ds.length ≤ 100000 := by omega
        repeat' first | refine Go.seq ?_ | refine Go.region rfl ?_ | refine Ops.nil ?_ | refine Go.condNp rfl Za ?_ | refine Ops.val eF rfl rfl Zw (Hop.cut eF (enc := encB) (l := b) rfl rfl rfl rfl rfl rfl rfl rfl (fun _ => rfl) (by omega)) ?_ | refine Ops.val eF rfl rfl Zw (by first | exact Z1 | exact Z3 | exact Y14 | exact Y15 | exact Z4 | exact Z5 | exact Z6) ?_ | refine Ops.call eF rfl rfl Zw rfl rfl rfl rfl (k1) rfl ?_ | refine Ops.call eF rfl rfl Zw rfl rfl rfl rfl (k3) rfl ?_ | refine Ops.data eF rfl rfl Zw rfl (Hop.bslice eF rfl rfl rfl rfl rfl rfl rfl rfl rfl rfl rfl) rfl rfl ?_ | refine Ops.appendE eF rfl rfl Zw rfl rfl rfl rfl rfl rfl rfl rfl rfl rfl rfl rfl rfl rfl rfl rfl Zi rfl rfl rfl rfl rfl Zz (by omega) ?_ | refine Ops.rowAt eF 3 rfl rfl Zw rfl (Hop.alloc eF rfl rfl rfl) ?_ | refine Ops.unit eF rfl Zw (Hop.store eF rfl rfl rfl rfl rfl rfl) (ArrKeep.put rfl) ?_ | refine Go.condTt rfl Za ?_ | refine Go.condFt rfl Za ?_ | refine Go.block ?_ | refine Go.unblk ?_ | refine Go.skip ?_
        exact Go.toQ g rfl eF.g Zt rfl rfl Zg Zl rfl rfl
   ·as_aux_lemma =>
     have ho := out13 (t8 := t8) (by omega) hlen hraw hfe ht8 hst (by omega)
     have gg := ih (p, out ++ [⟨t8, ds⟩]) ho (by show b.length - p < b.length - a; omega)
     rw [List.flatMap_append, List.length_append] at gg
     have hdl : out.length ≤ 100000 := by omega
     refine Go.change (Chg.cellFrzJ 1 2 1 2 rfl (by decide) rfl rfl rfl Zj rfl rfl rfl) ?_
     refine Go.toHQ (N := 3) (bs := [.arr 54 2 out.length (out.flatMap encTx), .row ⟨54, 2, .leaf, encTx ⟨t8, ds⟩, none⟩, .none]) (L' := [(0, bysA b), (4, .own 0 out.length 2), (5, .int .i64 p), (6, .ptr 1 0), (7, .int .i64 (n4 : Nat)), (8, .int .i64 k)]) ?_ rfl eF.g Zt rfl rfl Zg Zl rfl rfl
     repeat' first | refine Go.seq ?_ | refine Go.region rfl ?_ | refine Ops.nil ?_ | refine Ops.val eF rfl rfl Zw (by first | exact Z1 | exact Z3 | exact Z5) ?_ | refine Ops.data eF rfl rfl Zw rfl (Hop.bslice eF rfl rfl rfl rfl rfl rfl rfl rfl rfl rfl rfl) rfl rfl ?_ | refine Ops.appendE eF rfl rfl Zw rfl rfl rfl rfl rfl rfl rfl rfl rfl rfl rfl rfl rfl rfl rfl rfl Zi rfl rfl rfl rfl rfl Zz (by omega) ?_ | refine Go.condFt rfl Za ?_ | refine Go.unblk ?_ | refine Go.exit rfl ?_
     exact Go.toQ gg rfl eF.g Zt rfl rfl ⟨.inr rfl, trivial⟩ Zl rfl rfl
 ·as_aux_lemma =>
   have hfb : pFeed b = some raw := by
    rw [hfe, pFeed_e (by rw [List.length_drop]; omega)]
    show some (raw ++ []) = _
    rw [List.append_nil]
   have hsm := raw_small tauR hfb
   rw [← hraw] at hsm
   have k1 := k8 out (by omega) (fun i => by have := hsm.2.1 i; omega) (fun i k => Nat.le_trans (hsm.2.2 i k) (by decide))
   rw [show pRead tauR b = bif bd (AllT out) then some out else none by unfold pRead; rw [hfb, hraw]]
   clear hfe
   refine Go.change (Chg.frz 4 rfl rfl Zj rfl rfl (fun h => by cases h)) ?_
   refine Go.toHQ (N := 1) (bs := [.none]) (L' := [(0, bysA b), (4, txsA out), (5, .int .i64 a)]) ?_ rfl eF.g Zt rfl rfl ⟨.inl rfl, trivial⟩ Zl rfl rfl
   by_cases hA : AllT out
   ·rw [bd_of hA] at k1 ⊢
    simp only [cond_true] at k1 ⊢
    repeat' first | refine Go.seq ?_ | refine Go.region rfl ?_ | refine Ops.nil ?_ | refine Ops.val eF rfl rfl Zw (by first | exact Z1 | exact Z2 | exact Z3 | exact Z6) ?_ | refine Ops.call eF rfl rfl Zw rfl rfl rfl rfl (k1) rfl ?_ | refine Go.condF rfl ?_ | refine Go.condFt rfl Za ?_ | refine Go.skip ?_ | refine Go.exit rfl ?_ | refine Go.retF rfl ?_ rfl
    rfl
   ·rw [bd_no hA] at k1 ⊢
    simp only [cond_false] at k1 ⊢
    repeat' first | refine Go.seq ?_ | refine Go.region rfl ?_ | refine Ops.nil ?_ | refine Ops.val eF rfl rfl Zw (by first | exact Z1 | exact Z2 | exact Z3 | exact Z6) ?_ | refine Ops.call eF rfl rfl Zw rfl rfl rfl rfl (k1) rfl ?_ | refine Go.condT rfl ?_ | refine Go.condFt rfl Za ?_ | refine Go.exit rfl ?_ | refine Go.retF rfl ?_ rfl
    rfl
end Go.Px.Fe
end
