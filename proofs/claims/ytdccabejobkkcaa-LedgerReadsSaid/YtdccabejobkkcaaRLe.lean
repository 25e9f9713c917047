/- Parts of the proof in YtdccabejobkkcaaRFin: LrG. -/
import Derived.Test.YtdccabejobkkcaaRLb
import Derived.Test.YtdccabejobkkcaaRK4
set_option linter.unusedVariables false
set_option linter.unusedSimpArgs false
section
set_option maxHeartbeats 4000000
set_option maxRecDepth 20000
namespace Go.Px.Lr
open Go.Proofs
attribute [local irreducible] Go.Px.KOk
theorem takeS {α : Type} [Inhabited α] {l : List α} {i : Nat} (h : i < l.length) : l.take (i + 1) = l.take i ++ [l.getD i default] := by
 rw [List.take_add_one, List.getElem?_eq_getElem h, List.getD_eq_getElem?_getD, List.getElem?_eq_getElem h]; rfl
theorem bts_succ {l : List Str} {i : Nat} (h : i < l.length) : bts (l.take (i + 1)) = bts (l.take i) ++ be4 (l.getD i default).length ++ l.getD i default := by
 unfold bts; rw [takeS h, List.flatMap_append, List.append_assoc]; simp
theorem bts_le (l : List Str) (i : Nat) : (bts (l.take i)).length ≤ (bts l).length := by
 have : bts l = bts (l.take i) ++ bts (l.drop i) := by unfold bts; rw [← List.flatMap_append, List.take_append_drop]
 rw [this, List.length_append]; omega
theorem be4_len (n : Nat) : (be4 n).length = 4 := rfl
theorem k31 (l : List Str) (hl : (bts l).length ≤ 900000) (h2 : l.length ≤ 900000) : KOk cF 31 [lstA l] (bysA (bts l)) := by
 refine KOk.of cF_ok eF.g Try.func31 rfl (Nat.le_of_ble_eq_true rfl) fun w F => ?_
 repeat' first | refine Go.seq ?_ | refine Go.region rfl ?_ | refine Ops.nil ?_ | refine Ops.val eF rfl rfl Zw Z1 ?_ | refine Go.block ?_
 refine Go.change (Chg.tokAt 0 3 5 1 rfl rfl) ?_
 refine Go.toHQ (N := 1) (bs := [.arr 5 1 0 []]) (L' := [(0, lstA l), (3, .own 0 0 1), (4, .int .i64 (0 : Nat))]) ?_ rfl eF.g Zt rfl rfl ⟨.inr rfl, trivial⟩ Zl rfl rfl
 refine Go.loop (fun i : Nat => [(0, lstA l), (3, .own 0 (bts (l.take i)).length 1), (4, .int .i64 i)]) (fun i => hq 1 [.arr 5 1 (bts (l.take i)).length ((bts (l.take i)).flatMap byC)]) (fun i => i ≤ l.length) (fun i => l.length - i) 0 (Nat.zero_le _) Zt rfl (fun i hi ih => ?_)
 by_cases c0 : (i : Int) < (l.length : Int)
 ·have hlt : i < l.length := by omega
  have g := ih (i + 1) (by omega) (by omega)
  have hle := bts_le l (i + 1)
  rw [bts_succ hlt, List.length_append, List.length_append, be4_len] at hle
  rw [bts_succ hlt, List.length_append, List.length_append, be4_len, List.flatMap_append, List.flatMap_append] at g
  have hle : (bts (l.take i)).length + 4 + (l.getD (i : Int).toNat default).length ≤ (bts l).length := hle
  have h0 : (((l.getD (i : Int).toNat default).length : Int) / 16777216) % 256 = ((UInt8.ofNat ((l.getD (i : Int).toNat default).length / 16777216)).toNat : Int) := by rw [UInt8.toNat_ofNat']; omega
  have h1 : (((l.getD (i : Int).toNat default).length : Int) / 65536 % 256) % 256 = ((UInt8.ofNat ((l.getD (i : Int).toNat default).length / 65536 % 256)).toNat : Int) := by rw [UInt8.toNat_ofNat']; omega
  have h2 : (((l.getD (i : Int).toNat default).length : Int) / 256 % 256) % 256 = ((UInt8.ofNat ((l.getD (i : Int).toNat default).length / 256 % 256)).toNat : Int) := by rw [UInt8.toNat_ofNat']; omega
  have h3 : (((l.getD (i : Int).toNat default).length : Int) % 256) % 256 = ((UInt8.ofNat ((l.getD (i : Int).toNat default).length % 256)).toNat : Int) := by rw [UInt8.toNat_ofNat']; omega
  repeat' first | refine Go.seq ?_ | refine Go.region rfl ?_ | refine Ops.nil ?_ | refine Ops.val eF rfl rfl Zw (by first | exact Hop.convB eF rfl rfl rfl rfl rfl h0 | exact Hop.convB eF rfl rfl rfl rfl rfl h1 | exact Hop.convB eF rfl rfl rfl rfl rfl h2 | exact Hop.convB eF rfl rfl rfl rfl rfl h3) ?_ | refine Ops.val eF rfl rfl Zw (by first | exact Z1 | exact Z3 | exact Y14 | exact Y17 | exact Y18 | exact Y24 | exact Z5 | exact Z6) ?_ | refine Ops.data eF rfl rfl Zw rfl (Hop.bslice eF rfl rfl rfl rfl rfl rfl rfl rfl rfl rfl rfl) rfl rfl ?_ | refine Ops.appendE eF rfl rfl Zw rfl rfl rfl rfl rfl rfl rfl rfl rfl rfl rfl rfl rfl rfl rfl rfl Zi rfl rfl rfl rfl rfl Zz (by omega) ?_ | refine Go.condTt rfl Za ?_ | refine Go.block ?_ | refine Go.unblk ?_ | refine Go.skip ?_
  all_goals try simp only [Int.toNat_natCast] at *
  exact Go.toQ g rfl eF.g Zt rfl rfl ⟨.inr rfl, trivial⟩ Zl rfl rfl
 ·have ei : i = l.length := by omega
  subst ei
  rw [List.take_length] at *
  repeat' first | refine Go.seq ?_ | refine Go.region rfl ?_ | refine Ops.nil ?_ | refine Ops.frzMv eF 40 rfl rfl rfl Zw Z1 rfl Zi rfl rfl rfl rfl ?_ | refine Ops.val eF rfl rfl Zw (by first | exact Z1 | exact Z3 | exact Z6) ?_ | refine Go.condFt rfl Za ?_ | refine Go.exit rfl ?_ | refine Go.retF rfl ?_ rfl
  all_goals rfl
end Go.Px.Lr
end
