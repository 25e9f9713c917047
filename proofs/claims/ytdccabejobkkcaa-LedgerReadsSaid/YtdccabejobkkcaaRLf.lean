/- Parts of the proof in YtdccabejobkkcaaRFin: LrH. -/
import Derived.Test.YtdccabejobkkcaaRLb
import Derived.Test.YtdccabejobkkcaaRK4
set_option linter.unusedVariables false
set_option linter.unusedSimpArgs false
section
set_option maxHeartbeats 4000000
set_option maxRecDepth 20000
namespace Go.Px.Lr
open Go.Proofs
attribute [local irreducible] Go.Px.KOk
theorem u58 : cF.under 58 = some (.map 3 30) := by kernel_rfl
theorem z30 : cF.zero 30 = some .nilsl := by kernel_rfl
theorem u3 : cF.under 3 = some (.int .i64) := by kernel_rfl
theorem okI (n : Int) : okKey cF 3 (keyI.e n) = true := by unfold okKey; rw [u3]; rfl
theorem eqV (i o : Nat) : eqv cF 6 27 (.ptr i o) .nilptr = some false := by kernel_rfl
abbrev Objs := List (Int × Str × Nat)
def volC (j : Nat) : List AV := [.rptr [], .mp j, .bad, .bad, .bad, .bad, .int .i64 0]
noncomputable def volM (l : Objs) (n : Nat) : List MB := [.row 62 (volC 1), .map (mE keyI bysA l) n]
theorem esD (l : Objs) : datEs (mE keyI bysA l) = true := mE_dat keyI bysA (fun _ => rfl) l
theorem loV (l : Objs) (n : Nat) : lowM (volM l n).length (volM l n) = true := by
 show lowM 2 [.row 62 (volC 1), .map (mE keyI bysA l) n] = true
 simp only [lowM, MB.low, esD]; rfl
def unitE {f : FuncId} {us : List AV} {v : AV} (k : KOk cF f us v) (h : datsB us = true) : Ent cF := ⟨f, Unit, fun _ => us, fun _ => v, fun _ => k, fun _ => h, fun _ _ _ => rfl⟩
theorem m24 (l : Objs) (n : Nat) : KM cF 24 (volM l n) [.ptr 0 0] (.int .i64 0) (volM l n) := by
 refine KM.of (N := 2) (ab := [.row ⟨62, 7, .leaf, volC 1, none⟩, .map (mE keyI bysA l) n]) (gv := [.ptr 0 0, .mp 1]) cF_ok eF.g Try.func24 rfl rfl rfl rfl (Nat.le_of_ble_eq_true rfl) rfl (loV l n) rfl (loV l n) rfl rfl fun w F opn gx => ?_
 repeat' first | refine Go.seq ?_ | refine Go.region rfl ?_ | refine Ops.nil ?_ | refine Ops.val eF rfl rfl Zw (by exact Hop.eqD rfl rfl rfl rfl (eqV _ _)) ?_ | refine Ops.rnil eF rfl rfl Zw rfl rfl rfl rfl ?_ | refine Ops.val eF rfl rfl Zw (Hop.nilC rfl rfl) ?_ | refine Ops.val eF rfl rfl Zw (by first | exact Z1 | exact Z2 | exact Z4 | exact Z5) ?_ | refine Go.condF rfl ?_ | refine Go.skip ?_ | refine Go.retM rfl rfl ?_ ?_ rfl
 all_goals first | rfl | exact ⟨⟨_, rfl, rfl, rfl, rfl, rfl⟩, rfl, trivial⟩
noncomputable def r7_0 : List Oper := ((drawn (Try.f7.body.getD .skip))[0]?).getD []
theorem dr7_0 : chkOrd cF r7_0 [5, 6, 0, 1, 2, 3, 4, 7] = true := by kernel_rfl
theorem m7 (l : Objs) (n : Nat) (id : Int) (b : Str) (hi : 0 ≤ id ∧ id ≤ 4095) (hb : b.length ≤ 1000000) : KM cF 7 (volM l n) [.ptr 0 0, .int .i64 id, bysA b] (.int .i64 0) (volM (mset id b n l) (mclk id n l)) := by
 refine KM.of (N := 2) (ab := [.row ⟨62, 7, .leaf, volC 1, none⟩, .map (mE keyI bysA l) n]) (gv := [.ptr 0 0, .mp 1]) cF_ok eF.g Try.func7 rfl rfl rfl rfl (Nat.le_of_ble_eq_true rfl) rfl (loV l n) rfl (loV _ _) rfl rfl fun w F opn gx => ?_
 obtain ⟨h0, h1⟩ := hi
 repeat' first | refine Go.seq ?_ | refine Go.region rfl ?_ | refine Ops.nil ?_ | refine Ops.val eF rfl rfl Zw Zk ?_ | refine Go.condT rfl ?_ | refine Go.condF rfl ?_ | refine Ops.val eF rfl rfl Zw (Hop.nilC rfl rfl) ?_ | refine Ops.callM (v' := .int .i64 0) (ab := [.row ⟨62, 7, .leaf, volC 1, none⟩, .map (mE keyI bysA l) n]) eF [0, 1] 2 Zw rfl rfl rfl rfl (m24 l n) rfl (wk_eq rfl) rfl (by repeat' first | exact trivial | exact ⟨rfl, ⟨_, rfl, rfl, rfl, rfl, rfl⟩⟩ | exact ⟨rfl, rfl⟩ | refine And.intro ?_ ?_) (by repeat' first | exact trivial | exact .inl rfl | exact .inr trivial | exact .inr rfl | exact .inr (ok_row rfl rfl) | exact .inr (mE_dat _ _ (fun _ => rfl) _) | refine And.intro ?_ ?_) rfl rfl rfl rfl rfl rfl rfl ?_ | refine Ops.val eF rfl rfl Zw (by first | exact Z1 | exact Z2 | exact Z6) ?_ | refine Go.skip ?_
 let n25 : Ent cF := unitE (k25 b hb) rfl
 refine Go.draw eF hm [n25] [5, 6, 0, 1, 2, 3, 4, 7] dr7_0 ?_
 repeat' first | refine Dr.nil ?_ | refine Dr.pure rfl rfl rfl rfl Zw (Hop.nilC rfl rfl) ?_ | refine Dr.store rfl rfl rfl Zw (Hop.mapSet keyI bysA u58 (okI _) rfl rfl rfl rfl rfl) keep_map rfl ?_ | refine Dr.pure rfl rfl rfl rfl Zw (by first | exact Z1 | exact Z4 | exact Z5) ?_ | refine Dr.light rfl rfl rfl rfl Zw Z5 ?_ | refine Dr.call rfl rfl rfl rfl Zw rfl rfl rfl rfl (by first | exact pans_hd () rfl rfl) ?_
 repeat' first | refine Go.seq ?_ | refine Go.region rfl ?_ | refine Ops.nil ?_ | refine Ops.val eF rfl rfl Zw Z1 ?_ | refine Go.retM rfl rfl ?_ ?_ rfl
 all_goals first | rfl | exact ⟨⟨_, rfl, rfl, rfl, rfl, rfl⟩, rfl, trivial⟩
theorem m42 (l : Objs) (n : Nat) (id : Int) (b : Str) (hb : b.length ≤ 1000000) (hg : mget id l = some b) : KM cF 42 (volM l n) [.ptr 0 0, .int .i64 id] (.tup [bysA b, .bool true]) (volM l n) := by
 refine KM.of (N := 2) (ab := [.row ⟨62, 7, .leaf, volC 1, none⟩, .map (mE keyI bysA l) n]) (gv := [.ptr 0 0, .mp 1]) cF_ok eF.g Try.func42 rfl rfl rfl rfl (Nat.le_of_ble_eq_true rfl) rfl (loV l n) rfl (loV _ _) rfl rfl fun w F opn gx => ?_
 repeat' first | refine Go.seq ?_ | refine Go.region rfl ?_ | refine Ops.nil ?_ | refine Ops.val eF rfl rfl Zw (by exact Hop.eqD rfl rfl rfl rfl (eqV _ _)) ?_ | refine Ops.val eF rfl rfl Zw (Hop.nilC rfl rfl) ?_ | refine Ops.val eF rfl rfl Zw (Hop.mapY keyI bysA hg u58 (okI _) rfl rfl rfl rfl) ?_ | refine Ops.val eF rfl rfl Zw (by first | exact Z1 | exact Z4 | exact Z5) ?_ | refine Ops.call eF rfl rfl Zw rfl rfl rfl rfl (k25 b hb) rfl ?_ | refine Go.condF rfl ?_ | refine Go.skip ?_ | refine Go.retM rfl rfl ?_ ?_ rfl
 all_goals first | rfl | exact ⟨⟨_, rfl, rfl, rfl, rfl, rfl⟩, rfl, trivial⟩
theorem m42n (l : Objs) (n : Nat) (id : Int) (hg : mget id l = none) : KM cF 42 (volM l n) [.ptr 0 0, .int .i64 id] (.tup [.nilsl, .bool false]) (volM l n) := by
 refine KM.of (N := 2) (ab := [.row ⟨62, 7, .leaf, volC 1, none⟩, .map (mE keyI bysA l) n]) (gv := [.ptr 0 0, .mp 1]) cF_ok eF.g Try.func42 rfl rfl rfl rfl (Nat.le_of_ble_eq_true rfl) rfl (loV l n) rfl (loV _ _) rfl rfl fun w F opn gx => ?_
 repeat' first | refine Go.seq ?_ | refine Go.region rfl ?_ | refine Ops.nil ?_ | refine Ops.val eF rfl rfl Zw (by exact Hop.eqD rfl rfl rfl rfl (eqV _ _)) ?_ | refine Ops.val eF rfl rfl Zw (Hop.nilC rfl rfl) ?_ | refine Ops.val eF rfl rfl Zw (Hop.mapN keyI bysA hg u58 (okI _) z30 rfl rfl rfl rfl) ?_ | refine Ops.val eF rfl rfl Zw (by first | exact Z1 | exact Z4 | exact Z5) ?_ | refine Ops.call eF rfl rfl Zw rfl rfl rfl rfl (k25n) rfl ?_ | refine Go.condF rfl ?_ | refine Go.skip ?_ | refine Go.retM rfl rfl ?_ ?_ rfl
 all_goals first | rfl | exact ⟨⟨_, rfl, rfl, rfl, rfl, rfl⟩, rfl, trivial⟩
end Go.Px.Lr
end
