/- Parts of the proof in YtdccabejobkkcaaRFin: LrE. -/
import Derived.Test.YtdccabejobkkcaaRLb
import Derived.Test.YtdccabejobkkcaaRK4
set_option linter.unusedVariables false
set_option linter.unusedSimpArgs false
section
set_option maxHeartbeats 4000000
set_option maxRecDepth 20000
namespace Go.Px.Lr
open Go.Proofs
attribute [local irreducible] Go.Px.KOk
noncomputable def r27_0 : List Oper := ((drawn (Try.f27.body.getD .skip))[0]?).getD []
theorem dr27_0 : chkOrd cF r27_0 [0, 1, 2, 3, 4, 5, 6, 7, 8, 9, 10, 11, 12, 13, 14, 15, 16, 17, 18, 19, 20, 21, 22, 23, 24, 25, 26, 27, 28, 29] = true := by kernel_rfl
def rdR (b : Str) : AV := bif (recs b).2 then .tup [lstA (recs b).1, .bool true] else .tup [.nilsl, .bool false]
theorem flL (l : List Str) (r : Str) : (l ++ [r]).flatMap encL = l.flatMap encL ++ encL r := by rw [List.flatMap_append]; simp
def In27 (b : Str) (s : Nat × List Str) : Prop := s.1 ≤ b.length ∧ s.2.length ≤ s.1 ∧ recs b = (s.2 ++ (recs (b.drop s.1)).1, (recs (b.drop s.1)).2)
theorem k27 (b : Str) (hb : b.length ≤ 1000000) : KOk cF 27 [bysA b] (rdR b) := by
 refine KOk.of cF_ok eF.g Try.func27 rfl (Nat.le_of_ble_eq_true rfl) fun w F => ?_
 repeat' first | refine Go.seq ?_ | refine Go.region rfl ?_ | refine Ops.nil ?_ | refine Ops.val eF rfl rfl Zw Z1 ?_ | refine Go.block ?_
 refine Go.change (Chg.tokAt 0 4 30 1 rfl rfl) ?_
 refine Go.toHQ (N := 1) (bs := [.arr 30 1 0 []]) (L' := [(0, bysA b), (4, .own 0 0 1), (5, .int .i64 (0 : Nat))]) ?_ rfl eF.g Zt rfl rfl ⟨.inr rfl, trivial⟩ Zl rfl rfl
 refine Go.loop (fun s : Nat × List Str => [(0, bysA b), (4, .own 0 s.2.length 1), (5, .int .i64 s.1)]) (fun s => hq 1 [.arr 30 1 s.2.length (s.2.flatMap encL)]) (In27 b) (fun s => b.length - s.1) (0, []) ⟨Nat.zero_le _, Nat.zero_le _, rfl⟩ Zt rfl (fun s hP ih => ?_)
 obtain ⟨a, out⟩ := s
 obtain ⟨hab, hlen, hre⟩ := hP
 simp only at hab hlen hre ⊢
 by_cases c0 : (a : Int) < (b.length : Int)
 ·have hne : (b.drop a).length ≠ 0 := by rw [List.length_drop]; omega
  by_cases c4 : (b.length : Int) - (a : Int) < 4
  ·as_aux_lemma =>
    have hbad : ¬ OkR (b.drop a) := fun h => by have := h.1; rw [List.length_drop] at this; omega
    rw [recs_bad hne hbad] at hre
    unfold rdR
    rw [hre]
    repeat' first | refine Go.seq ?_ | refine Go.region rfl ?_ | refine Ops.nil ?_ | refine Ops.val eF rfl rfl Zw (by first | exact Z1 | exact Z3 | exact Y15 | exact Z6) ?_ | refine Go.condTt rfl Za ?_ | refine Go.block ?_ | refine Go.skip ?_ | refine Go.retF rfl ?_ rfl
    all_goals rfl
  ·have hn4 := n4_drop b a
   have hlt4 := n4_lt (b.drop a)
   have b0 := u8lt (b.getD a default); have b1 := u8lt (b.getD (a + 1) default); have b2 := u8lt (b.getD (a + 2) default); have b3 := u8lt (b.getD (a + 3) default)
   have t0 : (a : Int).toNat = a := rfl
   have t1 : ((a : Int) + 1).toNat = a + 1 := by omega
   have t2 : ((a : Int) + 2).toNat = a + 2 := by omega
   have t3 : ((a : Int) + 3).toNat = a + 3 := by omega
   repeat' first | refine Go.seq ?_ | refine Go.region rfl ?_ | refine Ops.nil ?_ | refine Ops.val eF rfl rfl Zw (by first | exact Z1 | exact Z3 | exact Y15 | exact Z6) ?_ | refine Go.condTt rfl Za ?_ | refine Go.condFt rfl Za ?_ | refine Go.block ?_ | refine Go.skip ?_
   have b0 : (b.getD (a : Int).toNat default).toNat < 256 := b0
   have b1 : (b.getD ((a : Int) + 1).toNat default).toNat < 256 := by rw [t1]; exact b1
   have b2 : (b.getD ((a : Int) + 2).toNat default).toNat < 256 := by rw [t2]; exact b2
   have b3 : (b.getD ((a : Int) + 3).toNat default).toNat < 256 := by rw [t3]; exact b3
   refine Go.draw eF hm [] [0, 1, 2, 3, 4, 5, 6, 7, 8, 9, 10, 11, 12, 13, 14, 15, 16, 17, 18, 19, 20, 21, 22, 23, 24, 25, 26, 27, 28, 29] dr27_0 ?_
   repeat' first | refine Dr.nil ?_ | refine Dr.pure rfl rfl rfl rfl Zw (by first | exact Z1 | exact Y14 | exact Y16 | exact Y20 | exact Y24 | exact Z5) ?_ | refine Dr.light rfl rfl rfl rfl Zw (by first | exact Y20 | exact Z5) ?_ | fail
   have e6 : (((b.getD (a : Int).toNat default).toNat * 256 + (b.getD ((a : Int) + 1).toNat default).toNat) * 256 + (b.getD ((a : Int) + 2).toNat default).toNat) * 256 + ((b.getD ((a : Int) + 3).toNat default).toNat : Int) = ((n4 (b.drop a) : Nat) : Int) := by
    rw [hn4, t1, t2, t3, t0]; simp only [Int.natCast_add, Int.natCast_mul]; rfl
   refine Go.sub (M := [(0, bysA b), (4, .own 0 out.length 1), (5, .int .i64 a), (6, .int .i64 ((n4 (b.drop a) : Nat) : Int))]) ⟨rfl, rfl, rfl, congrArg (fun z => some (AV.int .i64 z)) e6, trivial⟩ ?_
   have hok : OkR (b.drop a) ↔ n4 (b.drop a) ≤ 65536 ∧ n4 (b.drop a) ≤ b.length - a - 4 := by
    unfold OkR; rw [List.length_drop]
    exact ⟨fun h => h.2, fun h => ⟨by omega, h.1, h.2⟩⟩
   have hrg := @recs_ok (b.drop a) hne
   rw [List.drop_drop, List.drop_drop] at hrg
   generalize n4 (b.drop a) = n at *
   clear e6 hn4 b0 b1 b2 b3 t0 t1 t2 t3
   by_cases c5 : n ≤ 65536 ∧ n ≤ b.length - a - 4
   ·have hr := hrg (hok.2 c5)
    rw [hr] at hre
    have g := ih (a + 4 + n, out ++ [(b.drop (a + 4)).take n]) ⟨by show a + 4 + n ≤ _; omega, by show (out ++ [_]).length ≤ _; rw [List.length_append]; show out.length + 1 ≤ a + 4 + n; omega, by rw [hre, List.append_assoc]; show _ = _; rw [show a + 4 + n = a + (4 + n) by omega]; rfl⟩ (by show _ < _; omega)
    simp only [] at g
    rw [flL, List.length_append] at g
    have e1 : ((a : Int) + 4).toNat = a + 4 := by omega
    have e2 : ((a : Int) + 4 + (n : Int)).toNat - (a + 4) = n := by omega
    repeat' first | refine Go.seq ?_ | refine Go.region rfl ?_ | refine Ops.nil ?_ | refine Ops.val eF rfl rfl Zw Zk ?_ | refine Go.condT rfl ?_ | refine Go.condF rfl ?_ | refine Ops.val eF rfl rfl Zw (Hop.cut eF (enc := byC) (l := b) rfl rfl rfl rfl rfl rfl rfl rfl (fun _ => rfl) (by omega)) ?_ | refine Ops.val eF rfl rfl Zw (by first | exact Z1 | exact Z2 | exact Y14 | exact Y15 | exact Z6) ?_ | refine Ops.data eF rfl rfl Zw rfl (Hop.bslice eF rfl rfl rfl rfl rfl rfl rfl rfl rfl rfl rfl) rfl rfl ?_ | refine Ops.appendE eF rfl rfl Zw rfl rfl rfl rfl rfl rfl rfl rfl rfl rfl rfl rfl rfl rfl rfl rfl Zi rfl rfl rfl rfl rfl Zz (by omega) ?_ | refine Go.unblk ?_ | refine Go.skip ?_
    all_goals try simp only [e2, e1] at *
    exact Go.toQ g rfl eF.g Zt rfl rfl ⟨.inr rfl, trivial⟩ Zl rfl rfl
   ·rw [recs_bad hne (fun h => c5 (hok.1 h))] at hre
    unfold rdR
    rw [hre]
    by_cases c6 : n ≤ 65536
    ·repeat' first | refine Go.seq ?_ | refine Go.region rfl ?_ | refine Ops.nil ?_ | refine Ops.val eF rfl rfl Zw Zk ?_ | refine Go.condT rfl ?_ | refine Go.condF rfl ?_ | refine Ops.val eF rfl rfl Zw (by first | exact Z1 | exact Z2 | exact Y14 | exact Y15 | exact Z6) ?_ | refine Go.retF rfl ?_ rfl
     all_goals rfl
    ·repeat' first | refine Go.seq ?_ | refine Go.region rfl ?_ | refine Ops.nil ?_ | refine Ops.val eF rfl rfl Zw Zk ?_ | refine Go.condT rfl ?_ | refine Go.condF rfl ?_ | refine Ops.val eF rfl rfl Zw (by first | exact Z1 | exact Z2 | exact Y14) ?_ | refine Ops.skip rfl rfl Zn ?_ | refine Go.retF rfl ?_ rfl
     all_goals rfl
 ·have ea : a = b.length := by omega
  subst ea
  rw [drop_all, List.append_nil] at hre
  unfold rdR
  rw [hre]
  repeat' first | refine Go.seq ?_ | refine Go.region rfl ?_ | refine Ops.nil ?_ | refine Ops.frzMv eF 69 rfl rfl rfl Zw Z1 rfl Zi rfl rfl rfl rfl ?_ | refine Ops.val eF rfl rfl Zw (by first | exact Z1 | exact Z3 | exact Z6) ?_ | refine Go.condFt rfl Za ?_ | refine Go.exit rfl ?_ | refine Go.retF rfl ?_ rfl
  all_goals rfl
end Go.Px.Lr
end
