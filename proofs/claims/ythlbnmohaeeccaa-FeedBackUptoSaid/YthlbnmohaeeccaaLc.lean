/- Parts of the proof in YthlbnmohaeeccaaFin: FeBi. -/
import Derived.Test.YthlbnmohaeeccaaK4
set_option linter.unusedVariables false
set_option linter.unusedSimpArgs false
section
set_option maxHeartbeats 4000000
set_option maxRecDepth 20000
namespace Go.Px.Fe
open Go.Proofs Go.Px.Fs
attribute [local irreducible] Go.Px.KOk
noncomputable def rpart (is : Bool) (r : Rd) : Pt × Rd := match is with
 | true => (sdP (rval r).1, rvalC r)
 | false => (nmP (num8 (rtake r 8).1), (rtake r 8).2)
noncomputable def rparts : List Bool → Rd → List Pt × Rd
 | [], r => ([], r)
 | k :: ks, r => match (rpart k r).2.bad with
  | true => ([], (rpart k r).2)
  | false => ((rpart k r).1 :: (rparts ks (rpart k r).2).1, (rparts ks (rpart k r).2).2)
def encBl (b : Bool) : List AV := [.bool b]
def hB (R : ALoop) (ks : List Bool) (r : Rd) (n : Nat) (o : List AV) : List AB := [.row ⟨140, 2, .leaf, encR r, none⟩, .row ⟨95, 1, .leaf, [.own 2 n 5], none⟩, .arr 108 5 n o, .row ⟨138, 1, .leaf, [.ptr 0 0], none⟩, .row ⟨103, 1, .leaf, [dsl 1 encBl ks], none⟩, .dfr true, .loop R]
theorem lowB {R : ALoop} {ks : List Bool} {r : Rd} {n : Nat} {o : List AV} (h : ABLow 7 (.loop R)) : lowsP 7 (hB R ks r n o) := ⟨low_row rfl rfl, low_row rfl rfl, trivial, low_row rfl rfl, low_row rfl rfl, trivial, h, trivial⟩
theorem flatP (l : List Pt) (p : Pt) : (l ++ [p]).flatMap encPt = l.flatMap encPt ++ encPt p := by rw [List.flatMap_append]; simp
theorem rpart_le (k : Bool) (r : Rd) : (rpart k r).2.b.length ≤ r.b.length := by
 have h1 := rtake_le r 1
 have h8 := rtake_le r 8
 cases k with
 | false => exact h8
 | true =>
  show (rval r).2.b.length ≤ _
  unfold rval rbody
  split
  ·exact Nat.le_trans (rtake_le _ _) h1
  ·split
   ·show (txtOf _).2.b.length ≤ _
    unfold txtOf
    split
    ·exact h1
    ·exact Nat.le_trans (rtxt_le _).2 h1
   ·exact Nat.le_trans (rtake_le _ _) h1
theorem k60 (b : Str) (ks : List Bool) (hb : b.length ≤ 100000) (hk : ks.length ≤ 100) : KOk cF 60 [bysA b, dsl 1 encBl ks] (bif (rparts ks ⟨b, false⟩).2.bad || !bd ((rparts ks ⟨b, false⟩).2.b.length = 0) then .tup [.nilsl, .int .i64 20] else .tup [ptsA (rparts ks ⟨b, false⟩).1, .int .i64 0]) := by
 refine KOk.of cF_ok eF.g Try.func60 rfl (Nat.le_of_ble_eq_true rfl) fun w F => ?_
 repeat' first | refine Go.seq ?_ | refine Go.region rfl ?_ | refine Ops.nil ?_ | refine Ops.val eF rfl rfl Zw (by first | exact Z1 | exact Hop.build eF rfl rfl rfl rfl rfl rfl rfl) ?_ | refine Ops.rowAt eF 0 rfl rfl Zw rfl (Hop.boxC rfl rfl rfl) ?_ | refine Ops.rowAt eF 1 rfl rfl Zw rfl (Hop.alloc eF rfl rfl rfl) ?_
 refine Ops.change (Chg.tokCell 2 1 108 5 rfl rfl rfl) ?_
 refine Ops.sub (M := [(6, .ptr 0 0), (7, .ptr 1 0), (12, .ptr 0 0), (13, dsl 1 encBl ks)]) ⟨rfl, rfl, rfl, rfl, trivial⟩ ?_
 refine Ops.inl eF (fn := Try.f87) rfl rfl (Want.no rfl) rfl rfl rfl rfl Try.func87 rfl rfl rfl (fun gx => ?_)
 repeat' first | refine Go.seq ?_ | refine Go.region rfl ?_ | refine Ops.nil ?_ | refine Ops.val eF rfl rfl Zw (by first | exact Z1 | exact Hop.makeFunc rfl rfl rfl) ?_ | refine Ops.rowAt eF 3 rfl rfl Zw rfl (Hop.boxC rfl rfl rfl) ?_ | refine Ops.rowAt eF 4 rfl rfl Zw rfl (Hop.boxC rfl rfl rfl) ?_ | refine Go.block ?_ | refine Go.retI rfl ?_
 refine Go.to (M := [(6, .ptr 0 0), (7, .ptr 1 0), (14, .fn (.func 106) [] [.ptr 4 0, .ptr 3 0])]) ?_ ⟨rfl, rfl, rfl, trivial⟩
 refine Go.rangeAt eF 5 rfl rfl Try.func106 rfl rfl rfl (fun gx' R hR => ?_)
 repeat' first | refine Go.seq ?_ | refine Go.region rfl ?_ | refine Ops.nil ?_ | refine Ops.val eF rfl rfl Zw (by first | exact Z1 | exact Z5 | exact Z6) ?_ | refine Go.block ?_
 have hlow : ABLow 7 (.loop R) := by subst hR; exact ⟨envLs [(6, .ptr 0 0), (7, .ptr 1 0), (14, .fn (.func 106) [] [.ptr 4 0, .ptr 3 0])] Try.f60.ntmps, rfl, rfl, by decide⟩
 refine Go.toHQ (N := 7) (bs := hB R ks ⟨b, false⟩ 0 []) (L' := [(0, .fn (.yield 6) [] []), (2, .ptr 3 0), (7, dsl 1 encBl ks), (8, .int .i64 ks.length), (9, .int .i64 0)]) ?_ rfl eF.g ⟨rfl, rfl, rfl, rfl, rfl, trivial⟩ rfl rfl ⟨.inr rfl, .inr rfl, .inr rfl, .inr rfl, .inr rfl, .inr rfl, .inr rfl, trivial⟩ (lowB hlow) rfl rfl
 refine Go.loop (fun s : Nat × List Pt × Rd => [(0, .fn (.yield 6) [] []), (2, .ptr 3 0), (7, dsl 1 encBl ks), (8, .int .i64 ks.length), (9, .int .i64 s.1)]) (fun s => hq 7 (hB R ks s.2.2 s.2.1.length (s.2.1.flatMap encPt))) (fun s => s.1 ≤ ks.length ∧ s.2.1.length ≤ s.1 ∧ s.2.2.bad = false ∧ s.2.2.b.length ≤ 100000 ∧ rparts ks ⟨b, false⟩ = (s.2.1 ++ (rparts (ks.drop s.1) s.2.2).1, (rparts (ks.drop s.1) s.2.2).2)) (fun s => ks.length - s.1) (0, [], ⟨b, false⟩) ⟨Nat.zero_le _, Nat.zero_le _, rfl, hb, rfl⟩ ⟨rfl, rfl, rfl, rfl, rfl, trivial⟩ rfl (fun s hP ih => ?_)
 obtain ⟨i, out, r⟩ := s
 obtain ⟨hi, ho, hbad, hrb, hP⟩ := hP
 simp only at hi ho hbad hrb hP ih ⊢
 have hRs := congrArg ALoop.sz hR
 have hRp := congrArg ALoop.params hR
 have hRa := congrArg ALoop.assign hR
 have hRb := congrArg ALoop.body hR
 have hRe := congrArg ALoop.e hR
 have hRn := congrArg ALoop.pending hR
 have hRt := congrArg ALoop.state hR
 have hRd := congrArg ALoop.defers hR
 dsimp only at hRs hRp hRa hRb hRe hRn hRt hRd
 clear hR
 have hRR : ({ R with state := .ready, pending := none } : ALoop) = R := by
  obtain ⟨st, pe, a1, a2, a3, a4, a5, a6, a7⟩ := R
  have hRt : st = .ready := hRt
  have hRn : pe = none := hRn
  subst hRt; subst hRn; rfl
 by_cases c0 : (i : Int) < (ks.length : Int)
 ·have hlt : i < ks.length := by omega
  obtain ⟨rb, rbad⟩ := r
  have hbad : rbad = false := hbad
  subst hbad
  have hindL : ∀ st pe, ABInd 2 (.loop { R with state := st, pending := pe }) := fun st pe => ⟨envLs [(6, .ptr 0 0), (7, .ptr 1 0), (14, .fn (.func 106) [] [.ptr 4 0, .ptr 3 0])] Try.f60.ntmps, hRe, rfl, by show R.defers ≠ 2; rw [hRd]; decide⟩
  have hokL : ABOk [] [0] (.loop R) := ⟨envLs [(6, .ptr 0 0), (7, .ptr 1 0), (14, .fn (.func 106) [] [.ptr 4 0, .ptr 3 0])] Try.f60.ntmps, hRe, rfl, by rw [hRd]; rfl⟩
  have hle := rpart_le (ks.getD i default) ⟨rb, false⟩
  rw [drop_at hlt] at hP
  cases hk' : ks.getD i default with
  | true =>
   have k1 := m107 ⟨rb, false⟩ hrb
   rw [hk'] at hP hle
   simp only [rparts, rpart] at hP hle
   generalize (rval ⟨rb, false⟩).1 = v at *
   generalize rvalC ⟨rb, false⟩ = r2 at *
   obtain ⟨b2, bad2⟩ := r2
   repeat' first | refine Go.seq ?_ | refine Go.region rfl ?_ | refine Ops.nil ?_ | refine Ops.val eF rfl rfl Zw (by first | exact Z1 | exact Z3 | exact Hop.idx eF rfl rfl rfl rfl rfl rfl rfl (fun _ => rfl) (by omega) | exact Z5) ?_ | refine Ops.rowAt eF 7 rfl rfl Zw rfl (Hop.alloc eF rfl rfl rfl) ?_ | refine Go.condTt rfl Za ?_ | refine Go.block ?_ | refine Go.skip ?_
   simp only [Int.toNat_natCast, hk']
   cases bad2 with
   | true =>
    as_aux_lemma =>
     simp only [List.append_nil] at hP
     rw [hP]
     simp only [Bool.true_or, cond_true, encR] at k1 ⊢
     repeat' first | refine Go.seq ?_ | refine Go.region rfl ?_ | refine Ops.nil ?_ | refine Ops.val eF rfl rfl Zw (Hop.nilC rfl rfl) ?_ | refine Ops.callM (v' := .agg (encVa v)) (ab := [.row ⟨140, 2, .leaf, _, none⟩]) eF [0] 8 Zw rfl rfl rfl rfl (k1) rfl (wk_eq rfl) rfl Zb (by repeat' first | exact trivial | exact .inl rfl | exact .inr trivial | exact .inr rfl | exact .inr (ok_row rfl rfl) | exact .inr hokL | refine And.intro ?_ ?_) rfl rfl rfl rfl rfl rfl rfl ?_ | refine Ops.val eF rfl rfl Zw (by first | exact Z1 | exact Z2 | exact Z4 | exact Z5 | exact Hop.build eF rfl rfl rfl rfl rfl rfl rfl) ?_ | refine Ops.skip rfl rfl Zn ?_ | refine Ops.unit eF rfl Zw (Hop.store eF rfl rfl rfl rfl rfl rfl) (ArrKeep.put rfl) ?_ | refine Go.condT rfl ?_ | refine Go.retI rfl ?_
     refine Go.afterN (r := R) rfl hRn (.inl hRt) ?_
     refine Go.unblk ?_
     refine Go.toHQ (N := 6) (bs := [.row ⟨140, 2, .leaf, encR ⟨b2, true⟩, none⟩, .row ⟨95, 1, .leaf, [.own 2 out.length 5], none⟩, .arr 108 5 out.length (out.flatMap encPt), .none, .none, .dfr true]) (L' := [(6, .ptr 0 0), (7, .ptr 1 0)]) ?_ rfl eF.g ⟨rfl, rfl, trivial⟩ rfl rfl ⟨.inr rfl, .inr rfl, .inr rfl, .inl rfl, .inl rfl, .inr rfl, trivial⟩ ⟨low_row rfl rfl, low_row rfl rfl, trivial, trivial, trivial, trivial, trivial⟩ rfl rfl
     repeat' first | refine Go.seq ?_ | refine Go.region rfl ?_ | refine Ops.nil ?_ | refine Ops.val eF rfl rfl Zw (Hop.nilC rfl rfl) ?_ | refine Ops.val eF rfl rfl Zw (by first | exact Z1 | exact Z2 | exact Z4 | exact Z5) ?_ | refine Ops.skip rfl rfl Zn ?_ | refine Go.condT rfl ?_ | refine Go.retFm rfl rfl ?_ rfl
     rfl
   | false =>
    as_aux_lemma =>
     have g := ih (i + 1, out ++ [sdP v], ⟨b2, false⟩) ⟨hlt, by show (out ++ [sdP v]).length ≤ i + 1; rw [List.length_append]; show out.length + 1 ≤ _; omega, rfl, Nat.le_trans hle hrb, by rw [hP, List.append_assoc]; rfl⟩ (by show _ < _; omega)
     simp only [encR] at k1
     repeat' first | refine Go.seq ?_ | refine Go.region rfl ?_ | refine Ops.nil ?_ | refine Ops.val eF rfl rfl Zw (Hop.nilC rfl rfl) ?_ | refine Ops.callM (v' := .agg (encVa v)) (ab := [.row ⟨140, 2, .leaf, [bysA b2, .bool false], none⟩]) eF [0] 8 Zw rfl rfl rfl rfl (k1) rfl (wk_eq rfl) rfl Zb (by repeat' first | exact trivial | exact .inl rfl | exact .inr trivial | exact .inr rfl | exact .inr (ok_row rfl rfl) | exact .inr hokL | refine And.intro ?_ ?_) rfl rfl rfl rfl rfl rfl rfl ?_ | refine Ops.val eF rfl rfl Zw (by first | exact Z1 | exact Z4 | exact Z5 | exact Hop.build eF rfl rfl rfl rfl rfl rfl rfl) ?_ | refine Ops.unit eF rfl Zw (Hop.store eF rfl rfl rfl rfl rfl rfl) (ArrKeep.put rfl) ?_ | refine Go.condT rfl ?_
     rw [flatP, List.length_append] at g
     refine Ops.sub (M := [(0, .fn (.yield 6) [] []), (2, .ptr 3 0), (7, dsl 1 encBl ks), (8, .int .i64 ks.length), (9, .int .i64 i), (24, .bool false), (25, .fn (.yield 6) [] []), (26, .agg (encPt (sdP v)))]) ⟨rfl, rfl, rfl, rfl, rfl, rfl, rfl, rfl, trivial⟩ ?_
     refine Ops.round (r := R) (lst := envLs [(6, .ptr 0 0), (7, .ptr 1 0), (14, .fn (.func 106) [] [.ptr 4 0, .ptr 3 0])] Try.f60.ntmps) rfl rfl (Want.fF rfl rfl rfl rfl) rfl rfl rfl rfl rfl hRt hRe (by rw [hRp]; rfl) (by rw [hRp]; simp only [hRs]; rfl) rfl (fun gx2 => ?_)
     rw [hRs, hRp, hRa, hRb]
     repeat' first | refine Go.region rfl ?_ | refine Ops.nil ?_ | refine Ops.rowAt eF 8 rfl rfl Zw rfl (Hop.alloc eF rfl rfl rfl) ?_ | refine Ops.unit eF rfl Zw (Hop.store eF rfl rfl rfl rfl rfl rfl) (ArrKeep.put rfl) ?_
     refine Go.body (r := R) rfl hRt ?_
     repeat' first | refine Go.region rfl ?_ | refine Ops.nil ?_ | refine Ops.val eF rfl rfl Zw Z5 ?_ | refine Ops.data eF rfl rfl Zw rfl (Hop.bslice eF rfl rfl rfl rfl rfl rfl rfl rfl rfl rfl rfl) rfl rfl ?_ | refine Ops.appendE eF rfl rfl Zw rfl rfl rfl rfl rfl rfl rfl rfl rfl rfl rfl rfl rfl rfl rfl rfl Zi rfl rfl rfl rfl rfl Zz (by omega) ?_ | refine Ops.unit eF rfl Zw (Hop.store eF rfl rfl rfl rfl rfl rfl) (ArrKeep.put rfl) ?_ | refine Go.block ?_ | refine Go.unblk ?_
     refine Go.roundN rfl ?_
     repeat' first | refine Go.region rfl ?_ | refine Ops.nil ?_ | refine Ops.val eF rfl rfl Zw (by first | exact Z1 | exact Z2 | exact Hop.add rfl rfl rfl (by omega)) ?_ | refine Go.condF rfl ?_ | refine Go.unblk ?_ | refine Go.skip ?_
     exact Go.toQ g rfl eF.g ⟨rfl, rfl, rfl, rfl, rfl, trivial⟩ rfl rfl ⟨.inr rfl, .inr rfl, .inr rfl, .inr rfl, .inr rfl, .inr rfl, .inr (congrArg AB.loop hRR), trivial⟩ (lowB hlow) rfl rfl
  | false =>
   have k1 := m108 ⟨rb, false⟩ (Nat.le_trans hrb (by decide))
   rw [hk'] at hP hle
   simp only [rparts, rpart] at hP hle
   generalize num8 (rtake ⟨rb, false⟩ 8).1 = v at *
   generalize (rtake ⟨rb, false⟩ 8).2 = r2 at *
   obtain ⟨b2, bad2⟩ := r2
   repeat' first | refine Go.seq ?_ | refine Go.region rfl ?_ | refine Ops.nil ?_ | refine Ops.val eF rfl rfl Zw (by first | exact Z1 | exact Z3 | exact Hop.idx eF rfl rfl rfl rfl rfl rfl rfl (fun _ => rfl) (by omega) | exact Z5) ?_ | refine Ops.rowAt eF 7 rfl rfl Zw rfl (Hop.alloc eF rfl rfl rfl) ?_ | refine Go.condTt rfl Za ?_ | refine Go.block ?_ | refine Go.skip ?_
   simp only [Int.toNat_natCast, hk']
   cases bad2 with
   | true =>
    as_aux_lemma =>
     simp only [List.append_nil] at hP
     rw [hP]
     simp only [Bool.true_or, cond_true, encR] at k1 ⊢
     repeat' first | refine Go.seq ?_ | refine Go.region rfl ?_ | refine Ops.nil ?_ | refine Ops.val eF rfl rfl Zw (Hop.nilC rfl rfl) ?_ | refine Ops.callM (v' := .int .i64 v) (ab := [.row ⟨140, 2, .leaf, _, none⟩]) eF [0] 8 Zw rfl rfl rfl rfl (k1) rfl (wk_eq rfl) rfl Zb (by repeat' first | exact trivial | exact .inl rfl | exact .inr trivial | exact .inr rfl | exact .inr (ok_row rfl rfl) | exact .inr hokL | refine And.intro ?_ ?_) rfl rfl rfl rfl rfl rfl rfl ?_ | refine Ops.val eF rfl rfl Zw (by first | exact Z1 | exact Z2 | exact Z4 | exact Z5 | exact Hop.build eF rfl rfl rfl rfl rfl rfl rfl) ?_ | refine Ops.skip rfl rfl Zn ?_ | refine Ops.unit eF rfl Zw (Hop.store eF rfl rfl rfl rfl rfl rfl) (ArrKeep.put rfl) ?_ | refine Go.condT rfl ?_ | refine Go.condF rfl ?_ | refine Go.retI rfl ?_
     refine Go.afterN (r := R) rfl hRn (.inl hRt) ?_
     refine Go.unblk ?_
     refine Go.toHQ (N := 6) (bs := [.row ⟨140, 2, .leaf, encR ⟨b2, true⟩, none⟩, .row ⟨95, 1, .leaf, [.own 2 out.length 5], none⟩, .arr 108 5 out.length (out.flatMap encPt), .none, .none, .dfr true]) (L' := [(6, .ptr 0 0), (7, .ptr 1 0)]) ?_ rfl eF.g ⟨rfl, rfl, trivial⟩ rfl rfl ⟨.inr rfl, .inr rfl, .inr rfl, .inl rfl, .inl rfl, .inr rfl, trivial⟩ ⟨low_row rfl rfl, low_row rfl rfl, trivial, trivial, trivial, trivial, trivial⟩ rfl rfl
     repeat' first | refine Go.seq ?_ | refine Go.region rfl ?_ | refine Ops.nil ?_ | refine Ops.val eF rfl rfl Zw (Hop.nilC rfl rfl) ?_ | refine Ops.val eF rfl rfl Zw (by first | exact Z1 | exact Z2 | exact Z4 | exact Z5) ?_ | refine Ops.skip rfl rfl Zn ?_ | refine Go.condT rfl ?_ | refine Go.retFm rfl rfl ?_ rfl
     rfl
   | false =>
    as_aux_lemma =>
     have g := ih (i + 1, out ++ [nmP v], ⟨b2, false⟩) ⟨hlt, by show (out ++ [nmP v]).length ≤ i + 1; rw [List.length_append]; show out.length + 1 ≤ _; omega, rfl, Nat.le_trans hle hrb, by rw [hP, List.append_assoc]; rfl⟩ (by show _ < _; omega)
     simp only [encR] at k1
     repeat' first | refine Go.seq ?_ | refine Go.region rfl ?_ | refine Ops.nil ?_ | refine Ops.val eF rfl rfl Zw (Hop.nilC rfl rfl) ?_ | refine Ops.callM (v' := .int .i64 v) (ab := [.row ⟨140, 2, .leaf, [bysA b2, .bool false], none⟩]) eF [0] 8 Zw rfl rfl rfl rfl (k1) rfl (wk_eq rfl) rfl Zb (by repeat' first | exact trivial | exact .inl rfl | exact .inr trivial | exact .inr rfl | exact .inr (ok_row rfl rfl) | exact .inr hokL | refine And.intro ?_ ?_) rfl rfl rfl rfl rfl rfl rfl ?_ | refine Ops.val eF rfl rfl Zw (by first | exact Z1 | exact Z4 | exact Z5 | exact Hop.build eF rfl rfl rfl rfl rfl rfl rfl) ?_ | refine Ops.unit eF rfl Zw (Hop.store eF rfl rfl rfl rfl rfl rfl) (ArrKeep.put rfl) ?_ | refine Go.condF rfl ?_
     rw [flatP, List.length_append] at g
     refine Ops.sub (M := [(0, .fn (.yield 6) [] []), (2, .ptr 3 0), (7, dsl 1 encBl ks), (8, .int .i64 ks.length), (9, .int .i64 i), (24, .bool false), (25, .fn (.yield 6) [] []), (26, .agg (encPt (nmP v)))]) ⟨rfl, rfl, rfl, rfl, rfl, rfl, rfl, rfl, trivial⟩ ?_
     refine Ops.round (r := R) (lst := envLs [(6, .ptr 0 0), (7, .ptr 1 0), (14, .fn (.func 106) [] [.ptr 4 0, .ptr 3 0])] Try.f60.ntmps) rfl rfl (Want.fF rfl rfl rfl rfl) rfl rfl rfl rfl rfl hRt hRe (by rw [hRp]; rfl) (by rw [hRp]; simp only [hRs]; rfl) rfl (fun gx2 => ?_)
     rw [hRs, hRp, hRa, hRb]
     repeat' first | refine Go.region rfl ?_ | refine Ops.nil ?_ | refine Ops.rowAt eF 8 rfl rfl Zw rfl (Hop.alloc eF rfl rfl rfl) ?_ | refine Ops.unit eF rfl Zw (Hop.store eF rfl rfl rfl rfl rfl rfl) (ArrKeep.put rfl) ?_
     refine Go.body (r := R) rfl hRt ?_
     repeat' first | refine Go.region rfl ?_ | refine Ops.nil ?_ | refine Ops.val eF rfl rfl Zw Z5 ?_ | refine Ops.data eF rfl rfl Zw rfl (Hop.bslice eF rfl rfl rfl rfl rfl rfl rfl rfl rfl rfl rfl) rfl rfl ?_ | refine Ops.appendE eF rfl rfl Zw rfl rfl rfl rfl rfl rfl rfl rfl rfl rfl rfl rfl rfl rfl rfl rfl Zi rfl rfl rfl rfl rfl Zz (by omega) ?_ | refine Ops.unit eF rfl Zw (Hop.store eF rfl rfl rfl rfl rfl rfl) (ArrKeep.put rfl) ?_ | refine Go.block ?_ | refine Go.unblk ?_
     refine Go.roundN rfl ?_
     repeat' first | refine Go.region rfl ?_ | refine Ops.nil ?_ | refine Ops.val eF rfl rfl Zw (by first | exact Z1 | exact Z2 | exact Hop.add rfl rfl rfl (by omega)) ?_ | refine Go.condF rfl ?_ | refine Go.unblk ?_ | refine Go.skip ?_
     exact Go.toQ g rfl eF.g ⟨rfl, rfl, rfl, rfl, rfl, trivial⟩ rfl rfl ⟨.inr rfl, .inr rfl, .inr rfl, .inr rfl, .inr rfl, .inr rfl, .inr (congrArg AB.loop hRR), trivial⟩ (lowB hlow) rfl rfl
 ·as_aux_lemma =>
   have ei : i = ks.length := by omega
   subst ei
   rw [List.drop_length, show rparts [] r = ([], r) from rfl, List.append_nil] at hP
   rw [hP]
   obtain ⟨rb, rbad⟩ := r
   have hbad : rbad = false := hbad
   subst hbad
   repeat' first | refine Go.seq ?_ | refine Go.region rfl ?_ | refine Ops.nil ?_ | refine Ops.val eF rfl rfl Zw Z3 ?_ | refine Go.condFt rfl Za ?_ | refine Go.exit rfl ?_ | refine Go.endI rfl ?_
   refine Go.afterN (r := R) rfl hRn (.inl hRt) ?_
   refine Go.unblk ?_
   refine Go.toHQ (N := 6) (bs := [.row ⟨140, 2, .leaf, encR ⟨rb, false⟩, none⟩, .row ⟨95, 1, .leaf, [.own 2 out.length 5], none⟩, .arr 108 5 out.length (out.flatMap encPt), .none, .none, .dfr true]) (L' := [(6, .ptr 0 0), (7, .ptr 1 0)]) ?_ rfl eF.g ⟨rfl, rfl, trivial⟩ rfl rfl ⟨.inr rfl, .inr rfl, .inr rfl, .inl rfl, .inl rfl, .inr rfl, trivial⟩ ⟨low_row rfl rfl, low_row rfl rfl, trivial, trivial, trivial, trivial, trivial⟩ rfl rfl
   by_cases cb : (0 : Int) < (rb.length : Int)
   ·simp only [bd_no (show ¬ rb.length = 0 by omega), Bool.not_false, Bool.or_true, cond_true]
    repeat' first | refine Go.seq ?_ | refine Go.region rfl ?_ | refine Ops.nil ?_ | refine Ops.val eF rfl rfl Zw (Hop.nilC rfl rfl) ?_ | refine Ops.val eF rfl rfl Zw (by first | exact Z1 | exact Z2 | exact Z3 | exact Z4 | exact Z5 | exact Z6) ?_ | refine Go.condTt rfl Za ?_ | refine Go.retFm rfl rfl ?_ rfl
    rfl
   ·simp only [bd_of (show rb.length = 0 by omega), Bool.not_true, Bool.or_false, cond_false]
    repeat' first | refine Go.seq ?_ | refine Go.region rfl ?_ | refine Ops.nil ?_ | refine Ops.val eF rfl rfl Zw (Hop.nilC rfl rfl) ?_ | refine Ops.frzMv eF 4 rfl rfl rfl Zw Z1 rfl Zi rfl rfl rfl rfl ?_ | refine Ops.val eF rfl rfl Zw (by first | exact Z1 | exact Z2 | exact Z3 | exact Z4 | exact Z5 | exact Z6) ?_ | refine Go.condFt rfl Za ?_ | refine Go.skip ?_ | refine Go.retFm rfl rfl ?_ rfl
    rfl
end Go.Px.Fe
end
