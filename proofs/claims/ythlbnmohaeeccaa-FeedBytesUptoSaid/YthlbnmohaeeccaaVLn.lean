/- Parts of the proof in YthlbnmohaeeccaaVFin: FeCe. -/
import Derived.Test.YthlbnmohaeeccaaVLm
import Derived.Test.YthlbnmohaeeccaaVK4
set_option linter.unusedVariables false
set_option linter.unusedSimpArgs false
section
set_option maxHeartbeats 4000000
set_option maxRecDepth 200000
namespace Go.Px.Fe
open Go.Proofs Go.Px.Fs
theorem sgT_e (n : Nat) : sgT n = sgn (n : Int) := rfl
attribute [local irreducible] Go.Px.KOk sgT
theorem Ops.toHQ {X : Cx} {sz : Nat} {rd : Option Nat} {all : Array Oper} {rest : List Oper} {k : List It} {L L' : List (Nat × AV)} {h : Heap} {m : List Nat} {Q : Post} {bs : List AB} {N : Nat} (g : Ops X sz rd all rest k L' (hq N bs) m Q) (hN : bs.length = N) (hg : ∀ i r, X.c.g0.get i ≠ .gl r) (hs : SubL L L') (hlow : lowL N L' = true) (hn : Nat.ble N h.nxt = true) (hb : getsP h bs 0) (hbl : lowsP N bs)
  (hm : (m.all fun i => Nat.ble (i + 1) N) = true) (hrd : rdLow N rd = true) (hG : lowsB N X.gv = true := by rfl) (hz : X.g = none ∨ Nat.ble 2 N = true := by first | exact .inl rfl | exact .inr rfl) : Ops X sz rd all rest k L h m Q := by
 subst hN
 exact Ops.change (Chg.cut bs hg hs hlow hn hb hbl hm hrd hG hz) g
theorem map_cons (n8 : Nat) (ds : List Da) (dd : Da) (o : Option (List Da × Str)) : ((some dd).bind fun d => o.map fun x => (d :: x.1, x.2)).map (fun x => ((n8, ds ++ x.1), x.2)) = o.map fun x => ((n8, (ds ++ [dd]) ++ x.1), x.2) := by
 cases o with
 | none => rfl
 | some x => show some ((n8, ds ++ (dd :: x.1)), x.2) = some ((n8, (ds ++ [dd]) ++ x.1), x.2); rw [List.append_assoc]; rfl
theorem feed_step {b c d : Str} {raw : List (Nat × List Da)} {n8 : Nat} {ds : List Da} (hc0 : c.length ≠ 0) (hfe : pFeed b = (pFeed c).map (raw ++ ·)) : (pTx c = some ((n8, ds), d) → pFeed b = (pFeed d).map ((raw ++ [(n8, ds)]) ++ ·)) ∧ (pTx c = none → pFeed b = none) := by
 refine ⟨fun h => ?_, fun h => ?_⟩
 ·rw [hfe, pFeed_s hc0 h]
  cases pFeed d with
  | none => rfl
  | some r => show some (raw ++ ((n8, ds) :: r)) = some ((raw ++ [(n8, ds)]) ++ r); rw [List.append_assoc]; rfl
 ·rw [hfe, pFeed_n hc0 h]; rfl
theorem pDs_z (d : Str) {n k : Nat} (h : n ≤ k) (n8 : Nat) (ds : List Da) : (pDs (n - k) d).map (fun x => ((n8, ds ++ x.1), x.2)) = some ((n8, ds), d) := by
 rw [show n - k = 0 by omega]
 show some ((n8, ds ++ []), d) = _
 rw [List.append_nil]
def In12 (b : Str) (s : Str × Bool × List Tx) : Prop := s.1.length ≤ b.length ∧ (s.2.1 = true → s.1.length + 12 * s.2.2.length ≤ b.length ∧ ∃ raw, s.2.2 = raw.map (toTx sgT) ∧ pFeed b = (pFeed s.1).map (raw ++ ·)) ∧ (s.2.1 = false → pFeed b = none)
def me12 (s : Str × Bool × List Tx) : Nat := 2 * s.1.length + (bif s.2.1 then 1 else 0)
def In12k (c c4 : Str) (n8 n4 : Nat) (s : Nat × Str × Bool × List Da) : Prop := s.1 ≤ n4 ∧ s.2.1.length ≤ c4.length ∧ (s.2.2.1 = true → s.2.1.length + 2 * s.2.2.2.length + 12 ≤ c.length ∧ pTx c = (pDs (n4 - s.1) s.2.1).map fun x => ((n8, s.2.2.2 ++ x.1), x.2)) ∧ (s.2.2.1 = false → pTx c = none)
theorem out12 {b c c4 d : Str} {out : List Tx} {raw : List (Nat × List Da)} {n8 n4 k : Nat} {t8 : Int} {g : Bool} {ds : List Da} (hc : c.length ≤ b.length) (hc0 : c.length ≠ 0) (hc4 : c4.length ≤ c.length) (hlen : c.length + 12 * out.length ≤ b.length) (hraw : out = raw.map (toTx sgT)) (hfe : pFeed b = (pFeed c).map (raw ++ ·)) (ht8 : sgT n8 = t8) (hk : In12k c c4 n8 n4 (k, d, g, ds)) (hg : g = true → n4 ≤ k) :
  In12 b (d, g, out ++ [⟨t8, ds⟩]) ∧ me12 (d, g, out ++ [⟨t8, ds⟩]) < me12 (c, true, out) := by
 obtain ⟨_, h1, h2, h3⟩ := hk
 simp only at h1 h2 h3
 have hs := @feed_step b c d raw n8 ds hc0 hfe
 refine ⟨⟨by show d.length ≤ _; omega, fun h => ?_, fun h => hs.2 (h3 h)⟩, ?_⟩
 ·have h : g = true := h
  obtain ⟨h4, h5⟩ := h2 h
  rw [pDs_z d (hg h)] at h5
  refine ⟨by show d.length + 12 * (out ++ [_]).length ≤ _; rw [List.length_append]; simp only [List.length_cons, List.length_nil]; omega, raw ++ [(n8, ds)], ?_, hs.1 h5⟩
  show out ++ [_] = (raw ++ [(n8, ds)]).map (toTx sgT)
  rw [List.map_append, ← hraw, ← ht8]; rfl
 ·show 2 * d.length + (bif g then 1 else 0) < 2 * c.length + 1
  cases g with
  | false => show 2 * d.length + 0 < _; omega
  | true => have := (h2 rfl).1; show 2 * d.length + 1 < _; omega
theorem k12 (b : Str) (hb : b.length ≤ 100000) : KOk cF 12 [bysA b] (feedR (pRead sgT b)) := by
 refine KOk.of cF_ok eF.g Try.func12 rfl (Nat.le_of_ble_eq_true rfl) fun w F => ?_
 repeat' first | refine Go.seq ?_ | refine Go.region rfl ?_ | refine Ops.nil ?_ | refine Ops.val eF rfl rfl Zw (Hop.nilC rfl rfl) ?_ | refine Ops.val eF rfl rfl Zw (by first | exact Z1 | exact Y36) ?_ | refine Ops.rowAt eF 0 rfl rfl Zw rfl (Hop.boxC rfl rfl rfl) ?_ | refine Go.block ?_
 refine Go.change (Chg.tokAt 1 5 53 2 rfl rfl) ?_
 refine Go.toHQ (N := 2) (bs := [.row ⟨68, 2, .leaf, [bysA b, .bool true], none⟩, .arr 53 2 0 []]) (L' := [(4, .ptr 0 0), (5, .own 1 0 2)]) ?_ rfl eF.g Zt rfl rfl Zg Zl rfl rfl
 refine Go.loop (fun s : Str × Bool × List Tx => [(4, .ptr 0 0), (5, .own 1 s.2.2.length 2)]) (fun s => hq 2 [.row ⟨68, 2, .leaf, [bysA s.1, .bool s.2.1], none⟩, .arr 53 2 s.2.2.length (s.2.2.flatMap encTx)]) (In12 b) me12 (b, true, []) ⟨Nat.le_refl _, fun _ => ⟨by show b.length + 12 * 0 ≤ _; omega, [], rfl, by show _ = Option.map (fun x => x) _; simp⟩, fun h => (by cases h)⟩ Zt rfl (fun s hP ih => ?_)
 obtain ⟨c, f, out⟩ := s
 obtain ⟨hc, hy, hn⟩ := hP
 simp only at hc hy hn ⊢
 have hout : f = true → out.length ≤ 100000 := fun h => by have := (hy h).1; omega
 by_cases c0 : (c.length : Int) > 0
 ·cases f with
  | false =>
   as_aux_lemma =>
    rw [show pRead sgT b = none by unfold pRead; rw [hn rfl]]
    repeat' first | refine Go.seq ?_ | refine Go.region rfl ?_ | refine Ops.nil ?_ | refine Ops.val eF rfl rfl Zw (Hop.nilC rfl rfl) ?_ | refine Ops.val eF rfl rfl Zw (by first | exact Z1 | exact Z2 | exact Z3 | exact Z4 | exact Z5 | exact Z6) ?_ | refine Ops.skip rfl rfl Zn ?_ | refine Ops.gT rfl rfl Za ?_ | refine Go.condT rfl ?_ | refine Go.condF rfl ?_ | refine Go.exit rfl ?_ | refine Go.retF rfl ?_ rfl
    rfl
  | true =>
   obtain ⟨hlen, raw, hraw, hfe⟩ := hy rfl
   have hou := hout rfl
   clear hy hn hout
   have hc0 : c.length ≠ 0 := by omega
   have k1 := m30i c true 8 (by decide) (by omega)
   have hin := @pTx_in c
   generalize h8 : inT c true 8 = T8 at *
   obtain ⟨l8, c8, f8⟩ := T8
   have k2 := m30i c8 f8 4 (by decide) (by have := inT_le c true 8; rw [h8] at this; have := this.2.2; simp only at this; omega)
   generalize h4 : inT c8 f8 4 = T4 at *
   obtain ⟨l4, c4, f4⟩ := T4
   obtain ⟨hf4, hn4, hl8, hl4, hc8, hc4⟩ := hin rfl h4
   clear hin
   simp only at k1 k2
   have k1 : KM cF 30 (inR c true) [.ptr 0 0, .int .i64 8] (.int .u64 (valN l8 : Nat)) (inR c8 f8) := k1
   have k2 : KM cF 30 (inR c8 f8) [.ptr 0 0, .int .i64 4] (.int .u64 (valN l4 : Nat)) (inR c4 f4) := k2
   have hv8 := valN_lt8 hl8
   have hv4 : valN l4 < 4294967296 := Nat.lt_of_lt_of_le (valN_lt l4) (Nat.pow_le_pow_right (n := 256) (by decide) hl4)
   repeat' first | refine Go.seq ?_ | refine Go.region rfl ?_ | refine Ops.nil ?_ | refine Ops.val eF rfl rfl Zw (Hop.nilC rfl rfl) ?_ | refine Ops.val eF rfl rfl Zw (by first | exact Z1 | exact Z2 | exact Z3 | exact Z4 | exact Z5 | exact Z6) ?_ | refine Ops.gT rfl rfl Za ?_ | refine Go.condT rfl ?_ | refine Go.block ?_ | refine Go.skip ?_
   refine Ops.callM (v' := .int .u64 (valN l8 : Nat)) (ab := [.row ⟨68, 2, .leaf, [bysA c8, .bool f8], none⟩]) eF [0] 2 (Want.no rfl) rfl rfl rfl rfl k1 rfl (wk_eq rfl) rfl ⟨⟨rfl, ⟨_, rfl, rfl, rfl, rfl, rfl⟩⟩, trivial⟩ Zo rfl rfl rfl rfl rfl rfl rfl ?_
   refine Ops.val eF rfl rfl (Want.no rfl) (Hop.convI64 eF rfl rfl rfl rfl rfl (by omega)) ?_
   generalize ht8 : sgn ((valN l8 : Nat) : Int) = t8
   repeat' first | refine Go.seq ?_ | refine Go.region rfl ?_ | refine Ops.nil ?_ | refine Ops.val eF rfl rfl Zw (by first | exact Z1 | exact Y36) ?_ | refine Ops.rowAt eF 2 rfl rfl Zw rfl (Hop.alloc eF rfl rfl rfl) ?_ | refine Ops.unit eF rfl Zw (Hop.store eF rfl rfl rfl rfl rfl rfl) (ArrKeep.put rfl) ?_
   refine Ops.toHQ (N := 3) (bs := [.row ⟨68, 2, .leaf, [bysA c8, .bool f8], none⟩, .arr 53 2 out.length (out.flatMap encTx), .row ⟨53, 2, .leaf, [.int .i64 t8, .nilsl], none⟩]) (L' := [(31, .ptr 0 0), (4, .ptr 0 0), (5, .own 1 out.length 2), (6, .ptr 2 0)]) ?_ rfl eF.g Zt rfl rfl Zg Zl rfl rfl
   repeat' first | refine Go.seq ?_ | refine Go.region rfl ?_ | refine Ops.nil ?_ | refine Ops.callM (v' := .int .u64 _) (ab := [.row ⟨68, 2, .leaf, [bysA c4, .bool f4], none⟩]) eF [0] 3 Zw rfl rfl rfl rfl (k2) rfl (wk_eq rfl) rfl Zb Zo rfl rfl rfl rfl rfl rfl rfl ?_ | refine Ops.val eF rfl rfl Zw Z1 ?_ | refine Go.block ?_
   refine Go.change (Chg.tokCellJ 3 2 1 58 9 2 rfl (by decide) rfl rfl rfl rfl) ?_
   refine Go.toHQ (N := 4) (bs := [.row ⟨68, 2, .leaf, [bysA c4, .bool f4], none⟩, .arr 53 2 out.length (out.flatMap encTx), .row ⟨53, 2, .leaf, [.int .i64 t8, .own 3 0 9], none⟩, .arr 58 9 0 []]) (L' := [(4, .ptr 0 0), (5, .own 1 out.length 2), (6, .ptr 2 0), (7, .int .u64 (valN l4 : Nat)), (8, .int .u64 (0 : Nat))]) ?_ rfl eF.g Zt rfl rfl Zg Zl rfl rfl
   refine Go.loop (fun s : Nat × Str × Bool × List Da => [(4, .ptr 0 0), (5, .own 1 out.length 2), (6, .ptr 2 0), (7, .int .u64 (valN l4 : Nat)), (8, .int .u64 s.1)]) (fun s => hq 4 [.row ⟨68, 2, .leaf, [bysA s.2.1, .bool s.2.2.1], none⟩, .arr 53 2 out.length (out.flatMap encTx), .row ⟨53, 2, .leaf, [.int .i64 t8, .own 3 s.2.2.2.length 9], none⟩, .arr 58 9 s.2.2.2.length (s.2.2.2.flatMap encDa)]) (In12k c c4 (valN l8) (valN l4)) (fun s => valN l4 - s.1) (0, c4, f4, []) ⟨Nat.zero_le _, Nat.le_refl _, fun h => ⟨by have := (hf4 h).1; show c4.length + 2 * 0 + 12 ≤ _; omega, (hf4 h).2⟩, hn4⟩ Zt rfl (fun s hP ihk => ?_)
   obtain ⟨k, d, g, ds⟩ := s
   have hst := hP
   obtain ⟨hk, hd, hy, hn⟩ := hP
   simp only at hk hd hy hn ⊢
   clear hf4 hn4 k1 k2 h8 h4
   have ht8' : sgT (valN l8) = t8 := by rw [sgT_e]; exact ht8
   by_cases c1 : (k : Int) < (valN l4 : Nat)
   ·cases g with
    | false =>
     as_aux_lemma =>
      have ho := out12 (t8 := t8) hc hc0 hc4 hlen hraw hfe ht8' hst (fun h => by cases h)
      have gg := ih (d, false, out ++ [⟨t8, ds⟩]) ho.1 ho.2
      rw [List.flatMap_append, List.length_append] at gg
      refine Go.change (Chg.cellFrzJ 2 3 1 2 rfl (by decide) rfl rfl rfl Zj rfl rfl rfl) ?_
      refine Go.toHQ (N := 4) (bs := [.row ⟨68, 2, .leaf, [bysA d, .bool false], none⟩, .arr 53 2 out.length (out.flatMap encTx), .row ⟨53, 2, .leaf, encTx ⟨t8, ds⟩, none⟩, .none]) (L' := [(4, .ptr 0 0), (5, .own 1 out.length 2), (6, .ptr 2 0), (7, .int .u64 (valN l4 : Nat)), (8, .int .u64 (k : Nat))]) ?_ rfl eF.g Zt rfl rfl Zg Zl rfl rfl
      repeat' first | refine Go.seq ?_ | refine Go.region rfl ?_ | refine Ops.nil ?_ | refine Ops.val eF rfl rfl Zw (Hop.nilC rfl rfl) ?_ | refine Ops.val eF rfl rfl Zw (by first | exact Z1 | exact Z2 | exact Z3 | exact Z4 | exact Z5) ?_ | refine Ops.gT rfl rfl Za ?_ | refine Ops.data eF rfl rfl Zw rfl (Hop.bslice eF rfl rfl rfl rfl rfl rfl rfl rfl rfl rfl rfl) rfl rfl ?_ | refine Ops.appendE eF rfl rfl Zw rfl rfl rfl rfl rfl rfl rfl rfl rfl rfl rfl rfl rfl rfl rfl rfl Zi rfl rfl rfl rfl rfl Zz (by omega) ?_ | refine Go.condF rfl ?_ | refine Go.unblk ?_ | refine Go.exit rfl ?_
      exact Go.toQ gg rfl eF.g Zt rfl rfl Zg Zl rfl rfl
    | true =>
     obtain ⟨hlk, hpk⟩ := hy rfl
     clear hy hn
     have k1 := m30i d true 2 (by decide) (by omega)
     have hin := @pDs_in d
     have h2le := inT_le d true 2
     generalize h2 : inT d true 2 = T2 at *
     obtain ⟨l2, c2, f2⟩ := T2
     have k2 := m32 c2 f2 (valN l2) (by have := h2le.2.2; simp only at this; omega)
     generalize hkk : inT c2 f2 (valN l2) = Tk at *
     obtain ⟨lk, ck, fk⟩ := Tk
     obtain ⟨hfk, hlk2, hnk, hl2, hc2, hck, hlk3⟩ := hin (valN l4 - (k + 1)) rfl hkk
     rw [show valN l4 - (k + 1) + 1 = valN l4 - k by omega] at hfk hnk
     clear hin h2le h2 hkk
     simp only at k1 k2
     have k1 : KM cF 30 (inR d true) [.ptr 0 0, .int .i64 2] (.int .u64 (valN l2 : Nat)) (inR c2 f2) := k1
     have k3 := k31' lk (by omega)
     rw [datR_e] at k3
     have hv2 : valN l2 < 65536 := Nat.lt_of_lt_of_le (valN_lt l2) (Nat.pow_le_pow_right (n := 256) (by decide) hl2)
     have hdl : ds.length ≤ 100000 := by omega
     cases fk with
     | true =>
      as_aux_lemma =>
       have g := ihk (k + 1, ck, bd (dE (pD lk) = 0), ds ++ [dV (pD lk)]) ⟨by show k + 1 ≤ _; omega, by show ck.length ≤ _; have := hlk2 rfl; omega, fun h => ?_, fun h => ?_⟩ (by show valN l4 - (k + 1) < valN l4 - k; omega)
       rotate_left
       ·have e := dE_s h
        rw [hpk, hfk rfl, e]
        refine ⟨by have := hlk2 rfl; show ck.length + 2 * (ds ++ [_]).length + 12 ≤ _; rw [List.length_append]; simp only [List.length_cons, List.length_nil]; omega, ?_⟩
        exact map_cons _ _ _ _
       ·have e := dE_n h
        rw [hpk, hfk rfl, e]; rfl
       rw [List.flatMap_append, List.length_append] at g
       generalize dV (pD lk) = dd at *
       generalize dE (pD lk) = de at *
       repeat' first | refine Go.seq ?_ | refine Go.region rfl ?_ | refine Ops.nil ?_ | refine Ops.val eF rfl rfl Zw (Hop.nilC rfl rfl) ?_ | refine Ops.val eF rfl rfl Zw (by first | exact Hop.addUs rfl rfl rfl (by omega) | exact Hop.addU rfl rfl rfl | exact Hop.subU rfl rfl rfl | exact Hop.mulU rfl rfl rfl | exact Hop.quoU rfl rfl rfl rfl (by omega) | exact Hop.remU rfl rfl rfl rfl (by omega) | exact Hop.xorT rfl rfl rfl (by omega) | exact Hop.orB rfl rfl rfl (by omega) (by omega) (by omega) | exact Hop.shl8 rfl rfl rfl (by omega) | exact Hop.shrN rfl rfl rfl (by omega) (by omega) | exact Hop.conv eF rfl rfl rfl rfl rfl (wr_u64 (by omega)) | exact Hop.convU64 eF rfl rfl rfl rfl rfl | exact Y20 | exact Hop.convI64 eF rfl rfl rfl rfl rfl (by omega) | exact Hop.convU8 eF rfl rfl rfl rfl rfl) ?_ | refine Ops.callM (v' := .int .u64 _) (ab := [.row ⟨68, 2, .leaf, [bysA c2, .bool f2], none⟩]) eF [0] 4 Zw rfl rfl rfl rfl (k1) rfl (wk_eq rfl) rfl Zb Zo rfl rfl rfl rfl rfl rfl rfl ?_ | refine Ops.callM (v' := bysA _) (ab := [.row ⟨68, 2, .leaf, [bysA ck, .bool true], none⟩]) eF [0] 4 Zw rfl rfl rfl rfl (k2) rfl (wk_eq rfl) rfl Zb Zo rfl rfl rfl rfl rfl rfl rfl ?_ | refine Ops.val eF rfl rfl Zw (by first | exact Z1 | exact Z2 | exact Z3 | exact Z4 | exact Z5) ?_ | refine Ops.gT rfl rfl Za ?_ | refine Ops.call eF rfl rfl Zw rfl rfl rfl rfl (k3) rfl ?_ | refine Ops.data eF rfl rfl Zw rfl (Hop.bslice eF rfl rfl rfl rfl rfl rfl rfl rfl rfl rfl rfl) rfl rfl ?_ | refine Ops.appendE eF rfl rfl Zw rfl rfl rfl rfl rfl rfl rfl rfl rfl rfl rfl rfl rfl rfl rfl rfl Zi rfl rfl rfl rfl rfl Zz (by omega) ?_ | refine Ops.rowAt eF 4 rfl rfl Zw rfl (Hop.alloc eF rfl rfl rfl) ?_ | refine Ops.unit eF rfl Zw (Hop.store eF rfl rfl rfl rfl rfl rfl) (ArrKeep.put rfl) ?_ | refine Go.condT rfl ?_ | refine Go.block ?_ | refine Go.unblk ?_ | refine Go.skip ?_
       exact Go.toQ g rfl eF.g Zt rfl rfl Zg Zl rfl rfl
     | false =>
      as_aux_lemma =>
       have g := ihk (k + 1, ck, false, ds ++ [dV (pD lk)]) ⟨by show k + 1 ≤ _; omega, by show ck.length ≤ _; omega, (fun h => by cases h), fun h => by rw [hpk, hnk rfl]; rfl⟩ (by show valN l4 - (k + 1) < valN l4 - k; omega)
       rw [List.flatMap_append, List.length_append] at g
       generalize dV (pD lk) = dd at *
       generalize dE (pD lk) = de at *
       repeat' first | refine Go.seq ?_ | refine Go.region rfl ?_ | refine Ops.nil ?_ | refine Ops.val eF rfl rfl Zw (Hop.nilC rfl rfl) ?_ | refine Ops.val eF rfl rfl Zw (by first | exact Hop.addUs rfl rfl rfl (by omega) | exact Hop.addU rfl rfl rfl | exact Hop.subU rfl rfl rfl | exact Hop.mulU rfl rfl rfl | exact Hop.quoU rfl rfl rfl rfl (by omega) | exact Hop.remU rfl rfl rfl rfl (by omega) | exact Hop.xorT rfl rfl rfl (by omega) | exact Hop.orB rfl rfl rfl (by omega) (by omega) (by omega) | exact Hop.shl8 rfl rfl rfl (by omega) | exact Hop.shrN rfl rfl rfl (by omega) (by omega) | exact Hop.conv eF rfl rfl rfl rfl rfl (wr_u64 (by omega)) | exact Hop.convU64 eF rfl rfl rfl rfl rfl | exact Y20 | exact Hop.convI64 eF rfl rfl rfl rfl rfl (by omega) | exact Hop.convU8 eF rfl rfl rfl rfl rfl) ?_ | refine Ops.callM (v' := .int .u64 _) (ab := [.row ⟨68, 2, .leaf, [bysA c2, .bool f2], none⟩]) eF [0] 4 Zw rfl rfl rfl rfl (k1) rfl (wk_eq rfl) rfl Zb Zo rfl rfl rfl rfl rfl rfl rfl ?_ | refine Ops.callM (v' := bysA _) (ab := [.row ⟨68, 2, .leaf, [bysA ck, .bool false], none⟩]) eF [0] 4 Zw rfl rfl rfl rfl (k2) rfl (wk_eq rfl) rfl Zb Zo rfl rfl rfl rfl rfl rfl rfl ?_ | refine Ops.val eF rfl rfl Zw (by first | exact Z1 | exact Z2 | exact Z3 | exact Z4 | exact Z5) ?_ | refine Ops.skip rfl rfl Zn ?_ | refine Ops.gT rfl rfl Za ?_ | refine Ops.call eF rfl rfl Zw rfl rfl rfl rfl (k3) rfl ?_ | refine Ops.data eF rfl rfl Zw rfl (Hop.bslice eF rfl rfl rfl rfl rfl rfl rfl rfl rfl rfl rfl) rfl rfl ?_ | refine Ops.appendE eF rfl rfl Zw rfl rfl rfl rfl rfl rfl rfl rfl rfl rfl rfl rfl rfl rfl rfl rfl Zi rfl rfl rfl rfl rfl Zz (by omega) ?_ | refine Ops.rowAt eF 4 rfl rfl Zw rfl (Hop.alloc eF rfl rfl rfl) ?_ | refine Ops.unit eF rfl Zw (Hop.store eF rfl rfl rfl rfl rfl rfl) (ArrKeep.put rfl) ?_ | refine Go.condT rfl ?_ | refine Go.block ?_ | refine Go.unblk ?_ | refine Go.skip ?_
       exact Go.toQ g rfl eF.g Zt rfl rfl Zg Zl rfl rfl
   ·as_aux_lemma =>
    have ho := out12 (t8 := t8) hc hc0 hc4 hlen hraw hfe ht8' hst (fun _ => by omega)
    have gg := ih (d, g, out ++ [⟨t8, ds⟩]) ho.1 ho.2
    rw [List.flatMap_append, List.length_append] at gg
    refine Go.change (Chg.cellFrzJ 2 3 1 2 rfl (by decide) rfl rfl rfl Zj rfl rfl rfl) ?_
    refine Go.toHQ (N := 4) (bs := [.row ⟨68, 2, .leaf, [bysA d, .bool g], none⟩, .arr 53 2 out.length (out.flatMap encTx), .row ⟨53, 2, .leaf, encTx ⟨t8, ds⟩, none⟩, .none]) (L' := [(4, .ptr 0 0), (5, .own 1 out.length 2), (6, .ptr 2 0), (7, .int .u64 (valN l4 : Nat)), (8, .int .u64 (k : Nat))]) ?_ rfl eF.g Zt rfl rfl Zg Zl rfl rfl
    repeat' first | refine Go.seq ?_ | refine Go.region rfl ?_ | refine Ops.nil ?_ | refine Ops.val eF rfl rfl Zw (Hop.nilC rfl rfl) ?_ | refine Ops.val eF rfl rfl Zw (by first | exact Z1 | exact Z2 | exact Z3 | exact Z5) ?_ | refine Ops.skip rfl rfl Zn ?_ | refine Ops.gF rfl rfl Za ?_ | refine Ops.data eF rfl rfl Zw rfl (Hop.bslice eF rfl rfl rfl rfl rfl rfl rfl rfl rfl rfl rfl) rfl rfl ?_ | refine Ops.appendE eF rfl rfl Zw rfl rfl rfl rfl rfl rfl rfl rfl rfl rfl rfl rfl rfl rfl rfl rfl Zi rfl rfl rfl rfl rfl Zz (by omega) ?_ | refine Go.condF rfl ?_ | refine Go.unblk ?_ | refine Go.exit rfl ?_
    exact Go.toQ gg rfl eF.g Zt rfl rfl Zg Zl rfl rfl
 ·cases f with
  | false =>
   as_aux_lemma =>
    rw [show pRead sgT b = none by unfold pRead; rw [hn rfl]]
    repeat' first | refine Go.seq ?_ | refine Go.region rfl ?_ | refine Ops.nil ?_ | refine Ops.val eF rfl rfl Zw (Hop.nilC rfl rfl) ?_ | refine Ops.val eF rfl rfl Zw (by first | exact Z1 | exact Z2 | exact Z3 | exact Z4 | exact Z5 | exact Z6) ?_ | refine Ops.skip rfl rfl Zn ?_ | refine Ops.gF rfl rfl Za ?_ | refine Go.condT rfl ?_ | refine Go.condF rfl ?_ | refine Go.exit rfl ?_ | refine Go.retF rfl ?_ rfl
    rfl
  | true =>
   as_aux_lemma =>
    obtain ⟨hlen, raw, hraw, hfe⟩ := hy rfl
    have hcz : c.length = 0 := by omega
    have hfb : pFeed b = some raw := by rw [hfe, pFeed_e hcz]; show some (raw ++ []) = _; rw [List.append_nil]
    have hsm := raw_small sgT hfb
    rw [← hraw] at hsm
    have k1 := k14 out (by omega) (fun i => by have := hsm.2.1 i; omega) (fun i k => Nat.le_trans (hsm.2.2 i k) (by decide))
    rw [show pRead sgT b = bif bd (AllT out) then some out else none by unfold pRead; rw [hfb, hraw]]
    clear hfe hy hn
    refine Go.change (Chg.frz 5 rfl rfl Zj rfl rfl (fun h => by cases h)) ?_
    refine Go.toHQ (N := 2) (bs := [.row ⟨68, 2, .leaf, [bysA c, .bool true], none⟩, .none]) (L' := [(4, .ptr 0 0), (5, txsA out)]) ?_ rfl eF.g Zt rfl rfl Zg Zl rfl rfl
    by_cases hA : AllT out
    ·rw [bd_of hA] at k1 ⊢
     simp only [cond_true] at k1 ⊢
     repeat' first | refine Go.seq ?_ | refine Go.region rfl ?_ | refine Ops.nil ?_ | refine Go.condNp rfl Za ?_ | refine Ops.val eF rfl rfl Zw (Hop.nilC rfl rfl) ?_ | refine Ops.val eF rfl rfl Zw (by first | exact Z1 | exact Z2 | exact Z3 | exact Z4 | exact Z5 | exact Z6) ?_ | refine Ops.skip rfl rfl Zn ?_ | refine Ops.gF rfl rfl Za ?_ | refine Ops.call eF rfl rfl Zw rfl rfl rfl rfl (k1) rfl ?_ | refine Go.condF rfl ?_ | refine Go.skip ?_ | refine Go.exit rfl ?_ | refine Go.retF rfl ?_ rfl
     rfl
    ·rw [bd_no hA] at k1 ⊢
     simp only [cond_false] at k1 ⊢
     repeat' first | refine Go.seq ?_ | refine Go.region rfl ?_ | refine Ops.nil ?_ | refine Go.condNn rfl Za ?_ | refine Ops.val eF rfl rfl Zw (Hop.nilC rfl rfl) ?_ | refine Ops.val eF rfl rfl Zw (by first | exact Z1 | exact Z2 | exact Z3 | exact Z4 | exact Z5 | exact Z6) ?_ | refine Ops.skip rfl rfl Zn ?_ | refine Ops.gF rfl rfl Za ?_ | refine Ops.call eF rfl rfl Zw rfl rfl rfl rfl (k1) rfl ?_ | refine Go.condF rfl ?_ | refine Go.exit rfl ?_ | refine Go.retF rfl ?_ rfl
     rfl
end Go.Px.Fe
end
