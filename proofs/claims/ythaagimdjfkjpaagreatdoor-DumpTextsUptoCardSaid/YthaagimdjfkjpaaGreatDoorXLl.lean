/- Parts of the proof in YthaagimdjfkjpaaGreatDoorXFin: DuN. -/
import Derived.Test.YthaagimdjfkjpaaGreatDoorXLg
import Derived.Test.YthaagimdjfkjpaaGreatDoorXLh
import Derived.Test.YthaagimdjfkjpaaGreatDoorXK4
set_option linter.unusedVariables false
set_option linter.unusedSimpArgs false
section
set_option maxHeartbeats 4000000
set_option maxRecDepth 20000
namespace Go.Px.Du
open Go.Proofs Go.Px.Ds Go.Px.De
attribute [local irreducible] Go.Px.KOk Go.Px.KOkW
theorem cntN_len : ∀ l : List Nd, l.length ≤ cntN l
 | [] => Nat.le_refl _
 | c :: r => by
  have := cntN_len r
  have := c.cnt_eq
  simp only [cntN, List.length_cons]; omega
theorem k37 : ∀ (N : Nat) (l : List Nd), cntN l < N → cntN l ≤ 5000 → KOk cF 37 [ndsA l] (.int .i64 (cntN l)) := by
 intro N
 induction N with
 | zero => intro l h; omega
 | succ N IH =>
 intro l hN hb
 have hlen := cntN_len l
 rw [ndsA_eq]
 refine KOk.of cF_ok eF.g Tryz.func37 rfl (Nat.le_of_ble_eq_true rfl) fun w F => ?_
 repeat' first | refine Go.seq ?_ | refine Go.region rfl ?_ | refine Ops.nil ?_ | refine Ops.val eF rfl rfl Zw Z1 ?_ | refine Go.block ?_
 refine Go.loop (fun i : Nat => [(0, dsl 8 encN l), (3, .int .i64 (cntN (l.take i))), (4, .int .i64 i)]) (fun _ => hS) (fun i => i ≤ l.length) (fun i => l.length - i) 0 (Nat.zero_le _) Zt rfl (fun i hi ih => ?_)
 by_cases c0 : (i : Int) < (l.length : Int)
 ·have hlt : i < l.length := by omega
  have hc := cntN_at hlt
  have hs := cntN_succ hlt
  rw [Nd.cnt_eq] at hc hs
  have g := ih (i + 1) (by omega) (by omega)
  rw [hs] at g
  have kk := IH (l.getD i default).kids (by omega) (by omega)
  repeat' first | refine Go.seq ?_ | refine Go.region rfl ?_ | refine Ops.nil ?_ | refine Ops.val eF rfl rfl Zw (by first | exact Z1 | exact Z2 | exact Z3 | exact Y14 | exact Z4 | exact Y24 | exact Z5 | exact Z6) ?_ | refine Ops.gT rfl rfl Za ?_ | refine Ops.call eF rfl rfl Zw rfl rfl rfl rfl (kk) rfl ?_ | refine Go.condPt rfl (fun _ => ?_) (fun _ => ?_) | refine Go.block ?_ | refine Go.unblk ?_ | refine Go.skip ?_ | refine Go.exit rfl ?_ | refine Go.retF rfl ?_ rfl
  all_goals try simp only [Int.toNat_natCast] at *
  all_goals try (exfalso; omega)
  refine Go.to g ⟨rfl, ?_, rfl, trivial⟩
  show some (AV.int .i64 ((cntN (l.take i) : Int) + 1 + (cntN (l.getD i default).kids : Int))) = _
  refine congrArg (fun z => some (AV.int .i64 z)) ?_
  omega
 ·have ei : i = l.length := by omega
  subst ei
  rw [List.take_length] at *
  repeat' first | refine Go.seq ?_ | refine Go.region rfl ?_ | refine Ops.nil ?_ | refine Ops.val eF rfl rfl Zw (by first | exact Z1 | exact Z2 | exact Z3 | exact Z6) ?_ | refine Ops.skip rfl rfl Zn ?_ | refine Ops.gF rfl rfl Za ?_ | refine Go.condF rfl ?_ | refine Go.condPt rfl (fun _ => ?_) (fun _ => ?_) | refine Go.skip ?_ | refine Go.exit rfl ?_ | refine Go.retF rfl ?_ rfl
  all_goals try (exfalso; omega)
  all_goals rfl
def LstR (l : List Nd) : Prop := ∀ (b : Str) (dp : Nat), okN dp l → (jn b l).length ≤ 900000 → dp ≤ 50 → KOk cF 38 [ndsA l, .int .i64 dp, sA b] (.tup [sA (jn b l), .bool true])
noncomputable def r47_0 : List Oper := ((drawn (Tryz.f47.body.getD .skip))[0]?).getD []
theorem dr47_0 : chkOrd cF r47_0 [0, 1, 2, 3, 4, 5, 6, 7, 8, 9, 10, 11, 12, 13, 14, 15, 16] = true := by kernel_rfl
noncomputable def r47_1 : List Oper := ((drawn (Tryz.f47.body.getD .skip))[1]?).getD []
theorem dr47_1 : chkOrd cF r47_1 [0, 1, 2, 3, 4, 5, 6, 7, 8, 9, 10, 11, 12, 13, 14, 15, 16] = true := by kernel_rfl
noncomputable def r47_2 : List Oper := ((drawn (Tryz.f47.body.getD .skip))[2]?).getD []
theorem dr47_2 : chkOrd cF r47_2 [0, 1, 2, 3, 4, 5, 6, 7, 8, 9, 10, 11, 12, 13, 14, 15, 16, 17, 18, 19] = true := by kernel_rfl
theorem k47 (k59 : ∀ s, NmP s → KOk cF 59 [sA s] (.bool true)) (x : Nd) (IH : LstR x.kids) (dp : Nat) (hok : x.ok dp) (hn : x.sho.length ≤ 900000) (hd0 : dp ≤ 50) : KOk cF 47 [.agg (encN x), .int .i64 dp] (.tup [sA x.sho, .bool true]) := by
 obtain ⟨k, v, s, kids, ln, co⟩ := x
 rcases hok with ⟨rfl, hv, hvn, hvs, rfl, rfl⟩ | ⟨rfl, hs, rfl, rfl⟩ | ⟨hk, rfl, rfl, hd, hok⟩
 ·have es : Nd.sho (.mk 1 v [] [] ln co) = vtxt v := by unfold Nd.sho; rw [if_pos rfl]
  rw [es] at hn ⊢
  have kv := k58 v hv hvn hvs
  refine KOk.of cF_ok eF.g Tryz.func47 rfl (Nat.le_of_ble_eq_true rfl) fun w F => ?_
  simp only [encN, Nd.k, Nd.v, Nd.s, Nd.kids, Nd.ln, Nd.co, ndsA_eq]
  repeat' first | refine Go.seq ?_ | refine Go.region rfl ?_ | refine Ops.nil ?_ | refine Ops.val eF rfl rfl Zw Zk ?_ | refine Go.condT rfl ?_ | refine Go.condF rfl ?_ | refine Ops.boxR eF rfl rfl Zw rfl rfl rfl rfl ?_ | refine Ops.val eF rfl rfl Zw (by first | exact Z1 | exact Z4 | exact Z5) ?_ | refine Ops.call eF rfl rfl Zw rfl rfl rfl rfl (kv) rfl ?_
  refine Go.draw eF hm [] [0, 1, 2, 3, 4, 5, 6, 7, 8, 9, 10, 11, 12, 13, 14, 15, 16] dr47_0 ?_
  repeat' first | refine Dr.nil ?_ | refine Dr.pure rfl rfl rfl rfl Zw (Hop.eqlT rfl rfl rfl (by first | rfl | decide)) ?_ | refine Dr.light rfl rfl rfl rfl Zw (Hop.eqlT rfl rfl rfl (by first | rfl | decide)) ?_ | refine Dr.pure rfl rfl rfl rfl Zw (by first | exact Z1 | exact Z2 | exact Z4 | exact Z5 | exact Z6) ?_ | refine Dr.light rfl rfl rfl rfl Zw (by first | exact Z5 | exact Z6) ?_
  repeat' first | refine Go.retF rfl ?_ rfl
  all_goals rfl
 ·have es : Nd.sho (.mk 2 ⟨0, 0, []⟩ s [] ln co) = s := by unfold Nd.sho; rw [if_neg (by decide), if_pos rfl]
  rw [es] at hn ⊢
  have ks := k59 s hs
  refine KOk.of cF_ok eF.g Tryz.func47 rfl (Nat.le_of_ble_eq_true rfl) fun w F => ?_
  simp only [encN, Nd.k, Nd.v, Nd.s, Nd.kids, Nd.ln, Nd.co, ndsA_eq]
  repeat' first | refine Go.seq ?_ | refine Go.region rfl ?_ | refine Ops.nil ?_ | refine Ops.val eF rfl rfl Zw Zk ?_ | refine Go.condT rfl ?_ | refine Go.condF rfl ?_ | refine Ops.boxR eF rfl rfl Zw rfl rfl rfl rfl ?_ | refine Ops.val eF rfl rfl Zw (by first | exact Z1 | exact Z4 | exact Z5) ?_ | refine Ops.call eF rfl rfl Zw rfl rfl rfl rfl (ks) rfl ?_ | refine Go.skip ?_
  refine Go.draw eF hm [] [0, 1, 2, 3, 4, 5, 6, 7, 8, 9, 10, 11, 12, 13, 14, 15, 16] dr47_1 ?_
  repeat' first | refine Dr.nil ?_ | refine Dr.pure rfl rfl rfl rfl Zw (Hop.eqlT rfl rfl rfl (by first | rfl | decide)) ?_ | refine Dr.light rfl rfl rfl rfl Zw (Hop.eqlT rfl rfl rfl (by first | rfl | decide)) ?_ | refine Dr.pure rfl rfl rfl rfl Zw (Hop.eqD rfl rfl rfl rfl eqV0) ?_ | refine Dr.light rfl rfl rfl rfl Zw (Hop.eqD rfl rfl rfl rfl eqV0) ?_ | refine Dr.pure rfl rfl rfl rfl Zw (by first | exact Z1 | exact Z2 | exact Z4 | exact Z5 | exact Z6 | exact Y36) ?_ | refine Dr.light rfl rfl rfl rfl Zw (by first | exact Z5 | exact Z6) ?_
  repeat' first | refine Go.retF rfl ?_ rfl
  all_goals rfl
 ·have hx1 : ¬ k = 1 := by omega
  have hx2 : ¬ k = 2 := by omega
  have es : Nd.sho (.mk k ⟨0, 0, []⟩ [] kids ln co) = opn k :: (jn [32] kids ++ [cls k]) := by unfold Nd.sho; rw [if_neg hx1, if_neg hx2, shoL_eq]
  rw [es] at hn ⊢
  simp only [List.length_cons, List.length_append, List.length_nil] at hn
  have IH : LstR kids := IH
  have kl := IH [32] (dp + 1) hok (by omega) (by omega)
  rw [ndsA_eq, show ((dp + 1 : Nat) : Int) = (dp : Int) + 1 by omega] at kl
  generalize jn [32] kids = tx at *
  have hd' : ¬ (50 : Int) ≤ (dp : Int) := by omega
  refine KOk.of cF_ok eF.g Tryz.func47 rfl (Nat.le_of_ble_eq_true rfl) fun w F => ?_
  simp only [encN, Nd.k, Nd.v, Nd.s, Nd.kids, Nd.ln, Nd.co, ndsA_eq]
  rcases hk with rfl | rfl
  ·repeat' first | refine Go.seq ?_ | refine Go.region rfl ?_ | refine Ops.nil ?_ | refine Ops.val eF rfl rfl Zw Zk ?_ | refine Go.condT rfl ?_ | refine Go.condF rfl ?_ | refine Ops.boxR eF rfl rfl Zw rfl rfl rfl rfl ?_ | refine Ops.val eF rfl rfl Zw (Hop.neD rfl rfl rfl rfl eqV0) ?_ | refine Ops.val eF rfl rfl Zw (by first | exact Z1 | exact Z2 | exact Z3 | exact Y14 | exact Z4 | exact Z5 | exact Z6 | exact Y36) ?_ | refine Ops.call eF rfl rfl Zw rfl rfl rfl rfl (kl) rfl ?_ | refine Go.condFt rfl Za ?_ | refine Go.skip ?_
   refine Go.draw eF hm [] [0, 1, 2, 3, 4, 5, 6, 7, 8, 9, 10, 11, 12, 13, 14, 15, 16, 17, 18, 19] dr47_2 ?_
   repeat' first | refine Dr.nil ?_ | refine Dr.pure rfl rfl rfl rfl Zw (Hop.cutS (s := [40, 91, 123]) eF rfl rfl rfl rfl rfl rfl ⟨by decide, by decide, by decide⟩) ?_ | refine Dr.pure rfl rfl rfl rfl Zw (Hop.cutS (s := [41, 93, 125]) eF rfl rfl rfl rfl rfl rfl ⟨by decide, by decide, by decide⟩) ?_ | refine Dr.pure rfl rfl rfl rfl Zw (Hop.catS rfl rfl rfl (by simp; omega)) ?_ | refine Dr.light rfl rfl rfl rfl Zw (Hop.cutS (s := [40, 91, 123]) eF rfl rfl rfl rfl rfl rfl ⟨by decide, by decide, by decide⟩) ?_ | refine Dr.light rfl rfl rfl rfl Zw (Hop.cutS (s := [41, 93, 125]) eF rfl rfl rfl rfl rfl rfl ⟨by decide, by decide, by decide⟩) ?_ | refine Dr.light rfl rfl rfl rfl Zw (Hop.catS rfl rfl rfl (by simp; omega)) ?_ | refine Dr.pure rfl rfl rfl rfl Zw (by first | exact Z1 | exact Y15 | exact Z4 | exact Z5) ?_ | refine Dr.light rfl rfl rfl rfl Zw Z5 ?_
   repeat' first | refine Go.retF rfl ?_ rfl
   all_goals rfl
  ·repeat' first | refine Go.seq ?_ | refine Go.region rfl ?_ | refine Ops.nil ?_ | refine Ops.val eF rfl rfl Zw Zk ?_ | refine Go.condT rfl ?_ | refine Go.condF rfl ?_ | refine Ops.boxR eF rfl rfl Zw rfl rfl rfl rfl ?_ | refine Ops.val eF rfl rfl Zw (Hop.neD rfl rfl rfl rfl eqV0) ?_ | refine Ops.val eF rfl rfl Zw (by first | exact Z1 | exact Z2 | exact Z3 | exact Y14 | exact Z4 | exact Z5 | exact Z6 | exact Y36) ?_ | refine Ops.call eF rfl rfl Zw rfl rfl rfl rfl (kl) rfl ?_ | refine Go.condFt rfl Za ?_ | refine Go.skip ?_
   refine Go.draw eF hm [] [0, 1, 2, 3, 4, 5, 6, 7, 8, 9, 10, 11, 12, 13, 14, 15, 16, 17, 18, 19] dr47_2 ?_
   repeat' first | refine Dr.nil ?_ | refine Dr.pure rfl rfl rfl rfl Zw (Hop.cutS (s := [40, 91, 123]) eF rfl rfl rfl rfl rfl rfl ⟨by decide, by decide, by decide⟩) ?_ | refine Dr.pure rfl rfl rfl rfl Zw (Hop.cutS (s := [41, 93, 125]) eF rfl rfl rfl rfl rfl rfl ⟨by decide, by decide, by decide⟩) ?_ | refine Dr.pure rfl rfl rfl rfl Zw (Hop.catS rfl rfl rfl (by simp; omega)) ?_ | refine Dr.light rfl rfl rfl rfl Zw (Hop.cutS (s := [40, 91, 123]) eF rfl rfl rfl rfl rfl rfl ⟨by decide, by decide, by decide⟩) ?_ | refine Dr.light rfl rfl rfl rfl Zw (Hop.cutS (s := [41, 93, 125]) eF rfl rfl rfl rfl rfl rfl ⟨by decide, by decide, by decide⟩) ?_ | refine Dr.light rfl rfl rfl rfl Zw (Hop.catS rfl rfl rfl (by simp; omega)) ?_ | refine Dr.pure rfl rfl rfl rfl Zw (by first | exact Z1 | exact Y15 | exact Z4 | exact Z5) ?_ | refine Dr.light rfl rfl rfl rfl Zw Z5 ?_
   repeat' first | refine Go.retF rfl ?_ rfl
   all_goals rfl
theorem k38 (k59 : ∀ s, NmP s → KOk cF 59 [sA s] (.bool true)) : ∀ (N : Nat) (l : List Nd), cntN l < N → cntN l ≤ 5000 → LstR l := by
 intro N
 induction N with
 | zero => intro l h; omega
 | succ N IH =>
 intro l hN hb b dp hok hn hd
 have hlen := cntN_len l
 rw [ndsA_eq]
 refine KOk.of cF_ok eF.g Tryz.func38 rfl (Nat.le_of_ble_eq_true rfl) fun w F => ?_
 repeat' first | refine Go.seq ?_ | refine Go.region rfl ?_ | refine Ops.nil ?_ | refine Ops.val eF rfl rfl Zw Z1 ?_ | refine Go.block ?_
 refine Go.loop (fun i : Nat => [(0, dsl 8 encN l), (1, .int .i64 dp), (2, sA b), (8, sA (jn b (l.take i))), (9, .int .i64 i)]) (fun _ => hS) (fun i => i ≤ l.length) (fun i => l.length - i) 0 (Nat.zero_le _) Zt rfl (fun i hi ih => ?_)
 by_cases c0 : (i : Int) < (l.length : Int)
 ·have hlt : i < l.length := by omega
  have hc := cntN_at hlt
  rw [Nd.cnt_eq] at hc
  have g := ih (i + 1) (by omega) (by omega)
  have hl := jn_le (b := b) (l := l) (i := i + 1) (by omega)
  rw [jn_succ hlt] at g hl
  simp only [List.length_append] at hl
  have kx := k47 k59 (l.getD i default) (IH _ (by omega) (by omega)) dp (okN_at hok hlt) (by omega) hd
  by_cases i0 : (0 : Int) < (i : Int)
  ·rw [if_neg (by omega), ← List.append_assoc] at g
   rw [if_neg (by omega)] at hl
   repeat' first | refine Go.seq ?_ | refine Go.region rfl ?_ | refine Ops.nil ?_ | refine Ops.val eF rfl rfl Zw Zk ?_ | refine Go.condT rfl ?_ | refine Go.condF rfl ?_ | refine Ops.val eF rfl rfl Zw (Hop.catS rfl rfl rfl (by first | omega | (rw [List.length_append]; omega))) ?_ | refine Ops.val eF rfl rfl Zw (by first | exact Z1 | exact Z2 | exact Z3 | exact Y14 | exact Y24 | exact Z5 | exact Z6) ?_ | refine Ops.call eF rfl rfl Zw rfl rfl rfl rfl (kx) rfl ?_ | refine Go.condTt rfl Za ?_ | refine Go.block ?_ | refine Go.unblk ?_ | refine Go.skip ?_
   all_goals try simp only [Int.toNat_natCast] at *
   exact Go.to g Zt
  ·rw [if_pos (by omega), List.nil_append] at g
   repeat' first | refine Go.seq ?_ | refine Go.region rfl ?_ | refine Ops.nil ?_ | refine Ops.val eF rfl rfl Zw Zk ?_ | refine Go.condT rfl ?_ | refine Go.condF rfl ?_ | refine Ops.val eF rfl rfl Zw (Hop.catS rfl rfl rfl (by first | omega | (rw [List.length_append]; omega))) ?_ | refine Ops.val eF rfl rfl Zw (by first | exact Z1 | exact Z2 | exact Z3 | exact Y14 | exact Y24 | exact Z5 | exact Z6) ?_ | refine Ops.call eF rfl rfl Zw rfl rfl rfl rfl (kx) rfl ?_ | refine Go.condTt rfl Za ?_ | refine Go.block ?_ | refine Go.unblk ?_ | refine Go.skip ?_
   all_goals try simp only [Int.toNat_natCast] at *
   exact Go.to g Zt
 ·have ei : i = l.length := by omega
  subst ei
  rw [List.take_length] at *
  repeat' first | refine Go.seq ?_ | refine Go.region rfl ?_ | refine Ops.nil ?_ | refine Ops.val eF rfl rfl Zw Zk ?_ | refine Go.condT rfl ?_ | refine Go.condF rfl ?_ | refine Ops.val eF rfl rfl Zw (by first | exact Z1 | exact Z6) ?_ | refine Go.exit rfl ?_ | refine Go.retF rfl ?_ rfl
  all_goals rfl
theorem k30 (k59 : ∀ s, NmP s → KOk cF 59 [sA s] (.bool true)) (l : List Nd) (h1 : cntN l ≤ 5000) (hok : okN 0 l) (hn : (jn [10] l).length ≤ 900000) (hl : l ≠ []) : KOk cF 30 [ndsA l] (.tup [sA (jn [10] l ++ [10]), .int .i64 0]) := by
 have ka := k37 (cntN l + 1) l (by omega) h1
 have kb := k38 k59 (cntN l + 1) l (by omega) h1 [10] 0 hok hn (by omega)
 have h0 : 0 < l.length := List.length_pos_iff.2 hl
 rw [ndsA_eq] at *
 refine KOk.of cF_ok eF.g Tryz.func30 rfl (Nat.le_of_ble_eq_true rfl) fun w F => ?_
 repeat' first | refine Go.seq ?_ | refine Go.region rfl ?_ | refine Ops.nil ?_ | refine Ops.val eF rfl rfl Zw Zk ?_ | refine Go.condT rfl ?_ | refine Go.condF rfl ?_ | refine Ops.val eF rfl rfl Zw (Hop.catS rfl rfl (show _ = some (sA [10]) from rfl) (by show _ + 1 ≤ _; omega)) ?_ | refine Ops.val eF rfl rfl Zw (by first | exact Z1 | exact Z2 | exact Z6) ?_ | refine Ops.call eF rfl rfl Zw rfl rfl rfl rfl (ka) rfl ?_ | refine Ops.call eF rfl rfl Zw rfl rfl rfl rfl (kb) rfl ?_ | refine Go.skip ?_ | refine Go.retF rfl ?_ rfl
 all_goals rfl
end Go.Px.Du
end
