/- Parts of the proof in YthlbnmohaeeccaaVFin: FeT, FeZ, FeAa, FeR. -/
import Derived.Test.YthlbnmohaeeccaaVLa
import Derived.Test.YthlbnmohaeeccaaVLb
import Derived.Test.YthlbnmohaeeccaaVK4
set_option linter.unusedVariables false
set_option linter.unusedSimpArgs false
section
set_option maxHeartbeats 4000000
set_option maxRecDepth 20000
namespace Go.Px.Fe
open Go.Proofs Go.Px.Fs
attribute [local irreducible] Go.Px.KOk
theorem k82 (n : Int) : KOk cF 82 [.int .i64 n] (bysA (be 8 (numK n))) := by
 have hk := numK_i n
 have hlt := numK_lt n
 generalize numK n = v at *
 refine KOk.of cF_ok eF.g Try.func82 rfl (Nat.le_of_ble_eq_true rfl) fun w F => ?_
 repeat' first | refine Go.seq ?_ | refine Go.region rfl ?_ | refine Ops.nil ?_ | refine Ops.weakAt eF 4 rfl rfl Zw (Hop.assign rfl rfl) (weak_nil 1) ?_ | refine Ops.val eF rfl rfl Zw (by first | exact Hop.addUs rfl rfl rfl (by omega) | exact Hop.addU rfl rfl rfl | exact Hop.subU rfl rfl rfl | exact Hop.mulU rfl rfl rfl | exact Hop.quoU rfl rfl rfl rfl (by omega) | exact Hop.remU rfl rfl rfl rfl (by omega) | exact Hop.xorT rfl rfl rfl (by omega) | exact Hop.orB rfl rfl rfl (by omega) (by omega) (by omega) | exact Hop.shl8 rfl rfl rfl (by omega) | exact Hop.shrN rfl rfl rfl (by omega) (by omega) | exact Hop.conv eF rfl rfl rfl rfl rfl (wr_u64 (by omega)) | exact Hop.convU64 eF rfl rfl rfl rfl rfl | exact Y20 | exact Hop.convI64 eF rfl rfl rfl rfl rfl (by omega) | exact Hop.convU8 eF rfl rfl rfl rfl rfl) ?_ | refine Ops.val eF rfl rfl Zw Z1 ?_ | refine Go.block ?_
 refine Go.loop (fun i : Nat => [(3, .int .u64 ((v / 256 ^ i : Nat) : Int)), (4, .rsl i 1 ((be i v).flatMap encB)), (5, .int .i64 i)]) (fun _ => hS) (fun i => i ≤ 8) (fun i => 8 - i) 0 (Nat.zero_le _) ⟨by rw [Nat.pow_zero, Nat.div_one, hk]; show some (AV.int .u64 ((n % 18446744073709551616 + 9223372036854775808) % 18446744073709551616)) = _; refine congrArg (fun z => some (AV.int .u64 z)) ?_; omega, rfl, rfl, trivial⟩ rfl (fun i hi ih => ?_)
 have hq1 : v / 256 ^ i ≤ v := Nat.div_le_self _ _
 by_cases c0 : (i : Int) < 8
 ·have g := ih (i + 1) (by omega) (by omega)
  rw [Nat.pow_succ, ← Nat.div_div_eq_div_mul] at g
  have hby := byt_n v i
  have hbe := be_len i v
  have e0 : ∀ q : Nat, q = v / 256 ^ i → AV.rsl (1 + i) 1 ([AV.int .u8 ((q : Int) % 256 % 256)] ++ (be i v).flatMap encB) = .rsl (i + 1) 1 ((be (i + 1) v).flatMap encB) := fun q e => by
   rw [Nat.add_comm 1 i, be, List.flatMap_cons, encB, hby, ← e]
   congr 3; congr 1; congr 1; omega
  generalize v / 256 ^ i = q at *
  have e0 := e0 q rfl
  repeat' first | refine Go.seq ?_ | refine Go.region rfl ?_ | refine Ops.nil ?_ | refine Ops.bsliceOwn eF 0 (z := 1) rfl rfl Zw rfl rfl rfl rfl rfl rfl rfl rfl rfl rfl rfl rfl rfl rfl rfl Zi rfl rfl rfl rfl ?_ | refine Ops.frzMv eF 4 e0 rfl rfl Zw Z1 rfl Zi rfl rfl rfl rfl ?_ | refine Ops.val eF rfl rfl Zw (by first | exact Hop.addUs rfl rfl rfl (by omega) | exact Hop.addU rfl rfl rfl | exact Hop.subU rfl rfl rfl | exact Hop.mulU rfl rfl rfl | exact Hop.quoU rfl rfl rfl rfl (by omega) | exact Hop.remU rfl rfl rfl rfl (by omega) | exact Hop.xorT rfl rfl rfl (by omega) | exact Hop.orB rfl rfl rfl (by omega) (by omega) (by omega) | exact Hop.shl8 rfl rfl rfl (by omega) | exact Hop.shrN rfl rfl rfl (by omega) (by omega) | exact Hop.conv eF rfl rfl rfl rfl rfl (wr_u64 (by omega)) | exact Hop.convU64 eF rfl rfl rfl rfl rfl | exact Y20 | exact Hop.convI64 eF rfl rfl rfl rfl rfl (by omega) | exact Hop.convU8 eF rfl rfl rfl rfl rfl) ?_ | refine Ops.val eF rfl rfl Zw (by first | exact Z1 | exact Z3 | exact Y14) ?_ | refine Ops.appendE eF rfl rfl Zw rfl rfl rfl rfl rfl rfl rfl rfl rfl rfl rfl rfl rfl rfl rfl rfl Zi rfl rfl rfl rfl rfl Zz (by omega) ?_ | refine Go.condTt rfl Za ?_ | refine Go.block ?_ | refine Go.unblk ?_ | refine Go.skip ?_
  exact Go.toC (bs := []) g eF.g Zt rfl rfl trivial trivial rfl rfl
 ·have ei : i = 8 := by omega
  subst ei
  repeat' first | refine Go.seq ?_ | refine Go.region rfl ?_ | refine Ops.nil ?_ | refine Ops.val eF rfl rfl Zw (by first | exact Z1 | exact Z3) ?_ | refine Go.condFt rfl Za ?_ | refine Go.exit rfl ?_ | refine Go.retF rfl ?_ rfl
  rfl
end Go.Px.Fe
end
section
set_option maxHeartbeats 4000000
set_option maxRecDepth 20000
namespace Go.Px.Fe
open Go.Proofs Go.Px.Fs
attribute [local irreducible] Go.Px.KOk
theorem VaP_k {v : Va} (h : VaP v) : (v.k = 1 ∨ v.k = 5 ∨ v.k = 6) ∨ v.k = 2 ∨ txtK v.k := by
 unfold VaP at h
 unfold txtK
 split at h
 ·omega
 split at h
 ·omega
 split at h
 ·omega
 split at h
 ·omega
 split at h
 ·omega
 ·exact h.elim
theorem k83 (v : Va) (hv : VaP v) : KOk cF 83 [.agg (encVa v)] (.tup [bysA (u8i v.k :: body v), .int .i64 0]) := by
 have hs := VaP_len hv
 have hk := VaP_k hv
 have k1 : KOk cF 49 [.agg (encVa v)] (.bool true) := by
  have := k29 v (by omega)
  rwa [bd_of hv] at this
 have k2 := k82 v.n
 have hb := be_len 8 (numK v.n)
 have ek := u8i_n v.k
 have en := u8i_n v.n
 refine KOk.of cF_ok eF.g Try.func83 rfl (Nat.le_of_ble_eq_true rfl) fun w F => ?_
 repeat' first | refine Go.seq ?_ | refine Go.region rfl ?_ | refine Ops.nil ?_ | refine Ops.bsliceOwn eF 1 (z := 1) rfl rfl Zw rfl rfl rfl rfl rfl rfl rfl rfl rfl rfl rfl rfl rfl rfl rfl Zi rfl rfl rfl rfl ?_ | refine Ops.frzMv eF 2 rfl rfl rfl Zw Z1 rfl Zi rfl rfl rfl rfl ?_ | refine Ops.val eF rfl rfl Zw (by first | exact Hop.addUs rfl rfl rfl (by omega) | exact Hop.addU rfl rfl rfl | exact Hop.subU rfl rfl rfl | exact Hop.mulU rfl rfl rfl | exact Hop.quoU rfl rfl rfl rfl (by omega) | exact Hop.remU rfl rfl rfl rfl (by omega) | exact Hop.xorT rfl rfl rfl (by omega) | exact Hop.orB rfl rfl rfl (by omega) (by omega) (by omega) | exact Hop.shl8 rfl rfl rfl (by omega) | exact Hop.shrN rfl rfl rfl (by omega) (by omega) | exact Hop.conv eF rfl rfl rfl rfl rfl (wr_u64 (by omega)) | exact Hop.convU64 eF rfl rfl rfl rfl rfl | exact Y20 | exact Hop.convI64 eF rfl rfl rfl rfl rfl (by omega) | exact Hop.convU8 eF rfl rfl rfl rfl rfl) ?_ | refine Ops.val eF rfl rfl Zw (by first | exact Z1 | exact Z2 | exact Z3 | exact Z4 | exact Z5) ?_ | refine Ops.skip rfl rfl Zn ?_ | refine Ops.gP rfl rfl (fun _ => ?_) (fun _ => ?_) | refine Ops.call eF rfl rfl Zw rfl rfl rfl rfl (k1) rfl ?_ | refine Ops.call eF rfl rfl Zw rfl rfl rfl rfl (k2) rfl ?_ | refine Ops.data eF rfl rfl Zw rfl (Hop.bslice eF rfl rfl rfl rfl rfl rfl rfl rfl rfl rfl rfl) rfl rfl ?_ | refine Ops.appendE eF rfl rfl Zw rfl rfl rfl rfl rfl rfl rfl rfl rfl rfl rfl rfl rfl rfl rfl rfl Zi rfl rfl rfl rfl rfl Zz (by omega) ?_ | refine Ops.rowAt eF 0 rfl rfl Zw rfl (Hop.boxC rfl rfl rfl) ?_ | refine Go.condT rfl ?_ | refine Go.condF rfl ?_ | refine Go.condPt rfl (fun _ => ?_) (fun _ => ?_) | refine Go.block ?_ | refine Go.skip ?_ | refine Go.retF rfl ?_ rfl
 ·rename_i q
  rw [show body v = [u8i v.n] from if_pos q]
  show AV.tup [AV.rsl (1 + 1) 1 [.int .u8 (v.k % 256), .int .u8 (v.n % 256)], .int .i64 0] = AV.tup [AV.rsl 2 1 [.int .u8 ((u8i v.k).toNat : Int), .int .u8 ((u8i v.n).toNat : Int)], .int .i64 0]
  rw [ek, en]
 ·rw [body_n (by omega) (by unfold txtK; omega)]
  show AV.tup [AV.rsl (1 + (be 8 (numK v.n)).length) 1 (AV.int .u8 (v.k % 256) :: (be 8 (numK v.n)).flatMap encB), .int .i64 0] = AV.tup [AV.rsl ((be 8 (numK v.n)).length + 1) 1 (AV.int .u8 ((u8i v.k).toNat : Int) :: (be 8 (numK v.n)).flatMap encB), .int .i64 0]
  rw [ek, Nat.add_comm]
 ·rw [body_n (by omega) (by unfold txtK; omega)]
  show AV.tup [AV.rsl (1 + (be 8 (numK v.n)).length) 1 (AV.int .u8 (v.k % 256) :: (be 8 (numK v.n)).flatMap encB), .int .i64 0] = AV.tup [AV.rsl ((be 8 (numK v.n)).length + 1) 1 (AV.int .u8 ((u8i v.k).toNat : Int) :: (be 8 (numK v.n)).flatMap encB), .int .i64 0]
  rw [ek, Nat.add_comm]
 ·rw [body_n (by omega) (by unfold txtK; omega)]
  show AV.tup [AV.rsl (1 + (be 8 (numK v.n)).length) 1 (AV.int .u8 (v.k % 256) :: (be 8 (numK v.n)).flatMap encB), .int .i64 0] = AV.tup [AV.rsl ((be 8 (numK v.n)).length + 1) 1 (AV.int .u8 ((u8i v.k).toNat : Int) :: (be 8 (numK v.n)).flatMap encB), .int .i64 0]
  rw [ek, Nat.add_comm]
 have htx : txtK v.k := by
  rcases hk with h | h | h
  ·omega
  ·omega
  ·exact h
 rw [body_t htx]
 refine Go.toHQ (N := 2) (bs := [.row ⟨56, 3, .leaf, encVa v, none⟩, .arr 5 1 (1 + (esc (v.s.take 0)).length) (encB (u8i v.k) ++ (esc (v.s.take 0)).flatMap encB)]) (L' := [(1, .ptr 0 0), (5, .own 1 (1 + (esc (v.s.take 0)).length) 1), (6, .int .i64 (0 : Nat))]) ?_ rfl eF.g Zt rfl rfl ⟨.inr rfl, .inr (by show AB.arr 5 1 1 [.int .u8 (v.k % 256)] = AB.arr 5 1 1 [.int .u8 ((u8i v.k).toNat : Int)]; rw [ek]), trivial⟩ Zl rfl rfl
 refine Go.loop (fun i : Nat => [(1, .ptr 0 0), (5, .own 1 (1 + (esc (v.s.take i)).length) 1), (6, .int .i64 i)]) (fun i => hq 2 [.row ⟨56, 3, .leaf, encVa v, none⟩, .arr 5 1 (1 + (esc (v.s.take i)).length) (encB (u8i v.k) ++ (esc (v.s.take i)).flatMap encB)]) (fun i => i ≤ v.s.length) (fun i => v.s.length - i) 0 (Nat.zero_le _) Zt rfl (fun i hi ih => ?_)
 have hl := esc_len (v.s.take i)
 rw [List.length_take] at hl
 by_cases c0 : (i : Int) < (v.s.length : Int)
 ·have hlt : i < v.s.length := by omega
  have g := ih (i + 1) (by omega) (by omega)
  rw [esc_succ hlt] at g
  by_cases c1 : ((v.s.getD i default).toNat : Int) = 0
  ·have e1 : escC (v.s.getD i default) = [v.s.getD i default, 255] := if_pos (by omega)
   have e2 : v.s.getD i default = 0 := by apply UInt8.toNat.inj; show _ = 0; omega
   rw [e2] at e1
   simp only [e2, e1, List.length_append, List.flatMap_append, ← Nat.add_assoc, ← List.append_assoc] at g
   repeat' first | refine Go.seq ?_ | refine Go.region rfl ?_ | refine Ops.nil ?_ | refine Ops.val eF rfl rfl Zw (by first | exact Z1 | exact Z3 | exact Y14 | exact Z4 | exact Y26 | exact Z5 | exact Z6) ?_ | refine Ops.data eF rfl rfl Zw rfl (Hop.bslice eF rfl rfl rfl rfl rfl rfl rfl rfl rfl rfl rfl) rfl rfl ?_ | refine Ops.appendE eF rfl rfl Zw rfl rfl rfl rfl rfl rfl rfl rfl rfl rfl rfl rfl rfl rfl rfl rfl Zi rfl rfl rfl rfl rfl Zz (by omega) ?_ | refine Go.condTt rfl Za ?_ | refine Go.block ?_ | refine Go.unblk ?_ | refine Go.skip ?_
   all_goals try simp only [Int.toNat_natCast] at *
   ·exact Go.toQ g rfl eF.g Zt rfl rfl Zg Zl rfl rfl
  ·have e1 : escC (v.s.getD i default) = [v.s.getD i default] := if_neg (by omega)
   simp only [e1, List.length_append, List.length_cons, List.length_nil, Nat.zero_add, List.flatMap_append, List.flatMap_cons, List.flatMap_nil, List.append_nil, ← Nat.add_assoc, ← List.append_assoc] at g
   repeat' first | refine Go.seq ?_ | refine Go.region rfl ?_ | refine Ops.nil ?_ | refine Ops.val eF rfl rfl Zw (by first | exact Z1 | exact Z3 | exact Y14 | exact Z4 | exact Y26 | exact Z5 | exact Z6) ?_ | refine Ops.data eF rfl rfl Zw rfl (Hop.bslice eF rfl rfl rfl rfl rfl rfl rfl rfl rfl rfl rfl) rfl rfl ?_ | refine Ops.appendE eF rfl rfl Zw rfl rfl rfl rfl rfl rfl rfl rfl rfl rfl rfl rfl rfl rfl rfl rfl Zi rfl rfl rfl rfl rfl Zz (by omega) ?_ | refine Go.condTt rfl Za ?_ | refine Go.condFt rfl Za ?_ | refine Go.block ?_ | refine Go.unblk ?_ | refine Go.skip ?_
   all_goals try simp only [Int.toNat_natCast] at *
   ·exact Go.toQ g rfl eF.g Zt rfl rfl Zg Zl rfl rfl
 ·have ei : i = v.s.length := by omega
  subst ei
  rw [List.take_length] at *
  repeat' first | refine Go.seq ?_ | refine Go.region rfl ?_ | refine Ops.nil ?_ | refine Ops.frzMv eF 2 rfl rfl rfl Zw Z1 rfl Zi rfl rfl rfl rfl ?_ | refine Ops.val eF rfl rfl Zw (by first | exact Z1 | exact Z3 | exact Z4 | exact Z5 | exact Z6) ?_ | refine Ops.data eF rfl rfl Zw rfl (Hop.bslice eF rfl rfl rfl rfl rfl rfl rfl rfl rfl rfl rfl) rfl rfl ?_ | refine Ops.appendE eF rfl rfl Zw rfl rfl rfl rfl rfl rfl rfl rfl rfl rfl rfl rfl rfl rfl rfl rfl Zi rfl rfl rfl rfl rfl Zz (by omega) ?_ | refine Go.condFt rfl Za ?_ | refine Go.exit rfl ?_ | refine Go.retF rfl ?_ rfl
  show AV.tup [AV.rsl (1 + (esc v.s).length + 2) 1 (encB (u8i v.k) ++ (esc v.s).flatMap encB ++ [.int .u8 0, .int .u8 1]), .int .i64 0] = AV.tup [AV.rsl ((esc v.s ++ [0, 1]).length + 1) 1 (encB (u8i v.k) ++ (esc v.s ++ [0, 1]).flatMap encB), .int .i64 0]
  rw [List.flatMap_append, List.length_append, ← List.append_assoc, Nat.add_comm 1, Nat.add_right_comm]
  rfl
end Go.Px.Fe
end
section
set_option maxHeartbeats 4000000
set_option maxRecDepth 20000
namespace Go.Px.Fe
open Go.Proofs Go.Px.Fs
attribute [local irreducible] Go.Px.KOk
theorem k58 (l : List Pt) (hl : l.length ≤ 20) (hp : ∀ i, i < l.length → (l.getD i default).val = true → VaP (l.getD i default).v) (hs : ∀ i, (l.getD i default).v.s.length ≤ 2000) : KOk cF 58 [ptsA l] (.tup [bysA (keyB l), .int .i64 0]) := by
 refine KOk.of cF_ok eF.g Try.func58 rfl (Nat.le_of_ble_eq_true rfl) fun w F => ?_
 repeat' first | refine Go.seq ?_ | refine Go.region rfl ?_ | refine Ops.nil ?_ | refine Ops.val eF rfl rfl Zw Z1 ?_ | refine Go.block ?_
 refine Go.change (Chg.tokAt 0 4 5 1 rfl rfl) ?_
 refine Go.toHQ (N := 1) (bs := [.arr 5 1 0 []]) (L' := [(0, ptsA l), (4, .own 0 0 1), (5, .int .i64 0)]) ?_ rfl eF.g Zt rfl rfl ⟨.inr rfl, trivial⟩ Zl rfl rfl
 refine Go.loop (fun i : Nat => [(0, ptsA l), (4, .own 0 (keyB (l.take i)).length 1), (5, .int .i64 i)]) (fun i => hq 1 [.arr 5 1 (keyB (l.take i)).length ((keyB (l.take i)).flatMap encB)]) (fun i => i ≤ l.length) (fun i => l.length - i) 0 (Nat.zero_le _) Zt rfl (fun i hi ih => ?_)
 have hk := keyB_len hs i hi
 by_cases c0 : (i : Int) < (l.length : Int)
 ·have hlt : i < l.length := by omega
  have g := ih (i + 1) (by omega) (by omega)
  rw [keyB_succ hlt] at g
  have hp := hp i hlt
  have hs := hs i
  repeat' first | refine Go.seq ?_ | refine Go.region rfl ?_ | refine Ops.nil ?_ | refine Ops.val eF rfl rfl Zw (by first | exact Z1 | exact Z2 | exact Z3 | exact Z4 | exact Y24 | exact Z5 | exact Z6) ?_ | refine Go.condTt rfl Za ?_ | refine Go.block ?_ | refine Go.skip ?_
  cases hv : (l.getD i default).val with
  | false =>
   have e1 : keyP (l.getD i default) = be 8 (numK (l.getD i default).n) := by unfold keyP; rw [hv]; rfl
   have k1 := k82 (l.getD (i : Int).toNat default).n
   have hb := be_len 8 (numK (l.getD (i : Int).toNat default).n)
   rw [e1, List.length_append, List.flatMap_append] at g
   simp only [Int.toNat_natCast, hv]
   repeat' first | refine Go.seq ?_ | refine Go.region rfl ?_ | refine Ops.nil ?_ | refine Ops.val eF rfl rfl Zw (by first | exact Z1 | exact Y14 | exact Z4 | exact Y24 | exact Z5) ?_ | refine Ops.call eF rfl rfl Zw rfl rfl rfl rfl (k1) rfl ?_ | refine Ops.appendE eF rfl rfl Zw rfl rfl rfl rfl rfl rfl rfl rfl rfl rfl rfl rfl rfl rfl rfl rfl Zi rfl rfl rfl rfl rfl Zz (by omega) ?_ | refine Go.condT rfl ?_ | refine Go.exit rfl ?_
   try simp only [Int.toNat_natCast]
   exact Go.toQ g rfl eF.g Zt rfl rfl ⟨.inr rfl, trivial⟩ Zl rfl rfl
  | true =>
   have e1 : keyP (l.getD i default) = u8i (l.getD i default).v.k :: body (l.getD i default).v := by unfold keyP; rw [hv]; rfl
   have k1 := k83 (l.getD (i : Int).toNat default).v (hp hv)
   have hb := body_len (l.getD (i : Int).toNat default).v
   have hs' : (l.getD (i : Int).toNat default).v.s.length ≤ 2000 := hs
   have hb2 : (u8i (l.getD (i : Int).toNat default).v.k :: body (l.getD (i : Int).toNat default).v).length ≤ 5000 := by rw [List.length_cons]; omega
   rw [e1, List.length_append, List.flatMap_append] at g
   simp only [Int.toNat_natCast, hv]
   repeat' first | refine Go.seq ?_ | refine Go.region rfl ?_ | refine Ops.nil ?_ | refine Ops.val eF rfl rfl Zw (by first | exact Z1 | exact Z3 | exact Y14 | exact Z4 | exact Y24 | exact Z5) ?_ | refine Ops.call eF rfl rfl Zw rfl rfl rfl rfl (k1) rfl ?_ | refine Ops.appendE eF rfl rfl Zw rfl rfl rfl rfl rfl rfl rfl rfl rfl rfl rfl rfl rfl rfl rfl rfl Zi rfl rfl rfl rfl rfl Zz (by omega) ?_ | refine Go.condF rfl ?_ | refine Go.condNt rfl (fun _ => ?_) (fun _ => ?_) | refine Go.unblk ?_ | refine Go.skip ?_ | refine Go.retF rfl ?_ rfl
   ·rename_i q; exact absurd rfl q
   try simp only [Int.toNat_natCast]
   exact Go.toQ g rfl eF.g Zt rfl rfl ⟨.inr rfl, trivial⟩ Zl rfl rfl
 ·have ei : i = l.length := by omega
  subst ei
  rw [List.take_length] at *
  repeat' first | refine Go.seq ?_ | refine Go.region rfl ?_ | refine Ops.nil ?_ | refine Ops.frzMv eF 2 rfl rfl rfl Zw Z1 rfl Zi rfl rfl rfl rfl ?_ | refine Ops.val eF rfl rfl Zw (by first | exact Z1 | exact Z3 | exact Z6) ?_ | refine Go.condFt rfl Za ?_ | refine Go.exit rfl ?_ | refine Go.retF rfl ?_ rfl
  rfl
end Go.Px.Fe
end
section
set_option maxHeartbeats 4000000
set_option maxRecDepth 20000
namespace Go.Px.Fe
open Go.Proofs Go.Px.Fs
attribute [local irreducible] Go.Px.KOk
def digL (n v d : Nat) : Str := List.replicate (n - d) 0 ++ be d v
theorem digL_len {n v d : Nat} (h : d ≤ n) : (digL n v d).length = n := by
 unfold digL; rw [List.length_append, List.length_replicate, be_len]; omega
theorem digL_set {n v d : Nat} (h : d < n) : (digL n v d).set (n - d - 1) (byt v d) = digL n v (d + 1) := by
 unfold digL
 obtain ⟨k, rfl⟩ : ∃ k, n = d + 1 + k := ⟨n - (d + 1), by omega⟩
 rw [show d + 1 + k - d = k + 1 by omega, show d + 1 + k - (d + 1) = k by omega, show k + 1 - 1 = k by omega]
 rw [List.replicate_succ', List.append_assoc, List.set_append_right _ _ (by simp)]
 simp [be]
theorem k28 (n v : Nat) (hn : 1 ≤ n ∧ n ≤ 8) (hv : v < 9223372036854775808) : KOk cF 28 [.int .i64 (n : Int), .int .i64 (v : Int)] (bysA (be n v)) := by
 have hn0 : n ≠ 0 := by omega
 refine KOk.of cF_ok eF.g Try.func28 rfl (Nat.le_of_ble_eq_true rfl) fun w F => ?_
 repeat' first | refine Go.seq ?_ | refine Go.region rfl ?_ | refine Ops.nil ?_ | refine Ops.makeOwn (z := 1) (enc := encB) eF 0 (0 : UInt8) rfl rfl Zw rfl rfl rfl rfl rfl rfl rfl rfl (fun _ => rfl) rfl rfl rfl rfl hn0 (by omega) ⟨.inl rfl, trivial⟩ rfl rfl rfl rfl ?_ | refine Ops.val eF rfl rfl Zw (by first | exact Z1 | exact Y15) ?_ | refine Go.block ?_
 refine Go.toHQ (N := 1) (bs := [.arr 5 1 n ((digL n v 0).flatMap encB)]) (L' := [(1, .int .i64 ((v / 256 ^ 0 : Nat) : Int)), (5, .own 0 n 1), (6, .int .i64 ((n : Int) - (0 : Nat) - 1))]) ?_ rfl eF.g ⟨by rw [Nat.pow_zero, Nat.div_one]; rfl, rfl, by rw [show ((n : Int) - (0 : Nat) - 1) = (n : Int) - 1 by omega]; rfl, trivial⟩ rfl rfl ⟨.inr (by rw [show digL n v 0 = List.replicate n 0 by simp [digL, be]]; rfl), trivial⟩ ⟨trivial, trivial⟩ rfl rfl
 refine Go.loop (fun d : Nat => [(1, .int .i64 ((v / 256 ^ d : Nat) : Int)), (5, .own 0 n 1), (6, .int .i64 ((n : Int) - d - 1))]) (fun d => hq 1 [.arr 5 1 n ((digL n v d).flatMap encB)]) (fun d => d ≤ n) (fun d => n - d) 0 (Nat.zero_le _) ⟨rfl, rfl, rfl, trivial⟩ rfl (fun d hd ih => ?_)
 have hq1 : v / 256 ^ d ≤ v := Nat.div_le_self _ _
 have hll := digL_len (v := v) hd
 by_cases c0 : (n : Int) - d - 1 ≥ 0
 ·have hdn : d < n := by omega
  have ei : ((n : Int) - d - 1).toNat = n - d - 1 := by omega
  have g := ih (d + 1) (by omega) (by omega)
  rw [← digL_set hdn, Nat.pow_succ, ← Nat.div_div_eq_div_mul] at g
  simp only [show ((n : Int) - ((d + 1 : Nat) : Int) - 1) = (n : Int) - d - 1 - 1 by omega] at g
  have hby := byt_n v d
  generalize v / 256 ^ d = q at *
  have eb : (AV.int .u8 ((q : Int) % 256 % 256)).cells = encB (byt v d) := by
   simp only [AV.cells, encB]
   congr 2; omega
  repeat' first | refine Go.seq ?_ | refine Go.region rfl ?_ | refine Ops.nil ?_ | refine Ops.unit eF rfl Zw (Hop.stFG (z := 1) (enc := encB) eF (byt v d) rfl rfl rfl eb rfl rfl rfl rfl (fun _ => rfl) rfl rfl (by omega)) (ArrKeep.arr rfl) ?_ | refine Ops.val eF rfl rfl Zw (by first | exact Hop.addUs rfl rfl rfl (by omega) | exact Hop.addU rfl rfl rfl | exact Hop.subU rfl rfl rfl | exact Hop.mulU rfl rfl rfl | exact Hop.quoU rfl rfl rfl rfl (by omega) | exact Hop.remU rfl rfl rfl rfl (by omega) | exact Hop.xorT rfl rfl rfl (by omega) | exact Hop.orB rfl rfl rfl (by omega) (by omega) (by omega) | exact Hop.shl8 rfl rfl rfl (by omega) | exact Hop.shrN rfl rfl rfl (by omega) (by omega) | exact Hop.conv eF rfl rfl rfl rfl rfl (wr_u64 (by omega)) | exact Hop.convU64 eF rfl rfl rfl rfl rfl | exact Y20 | exact Hop.convI64 eF rfl rfl rfl rfl rfl (by omega) | exact Hop.convU8 eF rfl rfl rfl rfl rfl) ?_ | refine Ops.val eF rfl rfl Zw (by first | exact Z1 | exact Z3 | exact Y15 | exact Y17 | exact Y25) ?_ | refine Go.condTt rfl Za ?_ | refine Go.block ?_ | refine Go.unblk ?_ | refine Go.skip ?_
  simp only [ei]
  exact Go.toQ g rfl eF.g ⟨rfl, rfl, rfl, trivial⟩ rfl rfl ⟨.inr rfl, trivial⟩ ⟨trivial, trivial⟩ rfl rfl
 ·have hdn : d = n := by omega
  subst hdn
  repeat' first | refine Go.seq ?_ | refine Go.region rfl ?_ | refine Ops.nil ?_ | refine Ops.frzMv eF 4 rfl rfl rfl Zw Z1 rfl Zi rfl rfl rfl rfl ?_ | refine Ops.val eF rfl rfl Zw (by first | exact Z1 | exact Z3) ?_ | refine Go.condFt rfl Za ?_ | refine Go.exit rfl ?_ | refine Go.retF rfl ?_ rfl
  rw [show digL d v d = be d v by simp [digL]]
  show AV.rsl d 1 _ = AV.rsl (be d v).length 1 _
  rw [be_len]
end Go.Px.Fe
end
