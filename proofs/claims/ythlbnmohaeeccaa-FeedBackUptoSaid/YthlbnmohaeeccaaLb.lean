/- Parts of the proof in YthlbnmohaeeccaaFin: FeW, FeX. -/
import Derived.Test.YthlbnmohaeeccaaP0
import Derived.Test.YthlbnmohaeeccaaK4
set_option linter.unusedVariables false
set_option linter.unusedSimpArgs false
section
set_option maxHeartbeats 4000000
set_option maxRecDepth 20000
namespace Go.Px.Fe
open Go.Proofs Go.Px.Fs
attribute [local irreducible] Go.Px.KOk
def keyP (p : Pt) : Str := bif p.val then u8i p.v.k :: body p.v else be 8 (numK p.n)
def keyB (l : List Pt) : Str := l.flatMap keyP
theorem keyP_len (p : Pt) : (keyP p).length ≤ 2 * p.v.s.length + 9 := by
 have := body_len p.v
 unfold keyP
 cases p.val
 ·rw [cond_false, be_len]; omega
 ·rw [cond_true, List.length_cons]; omega
theorem keyB_len {l : List Pt} (hs : ∀ i, (l.getD i default).v.s.length ≤ 2000) : ∀ i, i ≤ l.length → (keyB (l.take i)).length ≤ i * 4009
 | 0, _ => by simp [keyB]
 | i + 1, h => by
  have ih := keyB_len hs i (by omega)
  have := keyP_len (l.getD i default)
  have := hs i
  unfold keyB at *
  rw [take_succ' (by omega), List.flatMap_append, List.length_append]
  simp only [List.flatMap_cons, List.flatMap_nil, List.append_nil]; omega
theorem keyB_succ {l : List Pt} {i : Nat} (h : i < l.length) : keyB (l.take (i + 1)) = keyB (l.take i) ++ keyP (l.getD i default) := by
 unfold keyB; rw [take_succ' h, List.flatMap_append]; simp
theorem k55 (l : List Pt) (hl : l.length ≤ 20) (hp : ∀ i, i < l.length → (l.getD i default).val = true → VaP (l.getD i default).v) (hs : ∀ i, (l.getD i default).v.s.length ≤ 2000) : KOk cF 55 [ptsA l] (.tup [bysA (keyB l), .int .i64 0]) := by
 refine KOk.of cF_ok eF.g Try.func55 rfl (Nat.le_of_ble_eq_true rfl) fun w F => ?_
 repeat' first | refine Go.seq ?_ | refine Go.region rfl ?_ | refine Ops.nil ?_ | refine Ops.val eF rfl rfl Zw (by first | exact Z1 | exact Z6) ?_ | refine Go.block ?_
 refine Go.change (Chg.tokAt 0 4 5 1 rfl rfl) ?_
 refine Go.toHQ (N := 1) (bs := [.arr 5 1 0 []]) (L' := [(8, ptsA l), (4, .own 0 0 1), (9, .int .i64 l.length), (10, .int .i64 0)]) ?_ rfl eF.g ⟨rfl, rfl, rfl, rfl, trivial⟩ rfl rfl ⟨.inr rfl, trivial⟩ ⟨trivial, trivial⟩ rfl rfl
 refine Go.loop (fun i : Nat => [(8, ptsA l), (4, .own 0 (keyB (l.take i)).length 1), (9, .int .i64 l.length), (10, .int .i64 i)]) (fun i => hq 1 [.arr 5 1 (keyB (l.take i)).length ((keyB (l.take i)).flatMap encB)]) (fun i => i ≤ l.length) (fun i => l.length - i) 0 (Nat.zero_le _) ⟨rfl, rfl, rfl, rfl, trivial⟩ rfl (fun i hi ih => ?_)
 have hk := keyB_len hs i hi
 by_cases c0 : (i : Int) < (l.length : Int)
 ·have hlt : i < l.length := by omega
  have g := ih (i + 1) (by omega) (by omega)
  rw [keyB_succ hlt] at g
  have hp := hp i hlt
  have hs := hs i
  repeat' first | refine Go.seq ?_ | refine Go.region rfl ?_ | refine Ops.nil ?_ | refine Ops.val eF rfl rfl Zw (by first | exact Z2 | exact Z3 | exact Z4 | exact Hop.idx eF rfl rfl rfl rfl rfl rfl rfl (fun _ => rfl) (by omega) | exact Z5) ?_ | refine Ops.rowAt eF 1 rfl rfl Zw rfl (Hop.alloc eF rfl rfl rfl) ?_ | refine Ops.unit eF rfl Zw (Hop.store eF rfl rfl rfl rfl rfl rfl) (ArrKeep.put rfl) ?_ | refine Go.condTt rfl Za ?_ | refine Go.block ?_ | refine Go.skip ?_
  simp only [Int.toNat_natCast]
  generalize l.getD i default = p at *
  obtain ⟨val, pn, v⟩ := p
  cases val with
  | false =>
   have k1 := k80 pn
   have hb := be_len 8 (numK pn)
   rw [show keyP ⟨false, pn, v⟩ = be 8 (numK pn) from rfl, List.length_append, List.flatMap_append] at g
   repeat' first | refine Go.seq ?_ | refine Go.region rfl ?_ | refine Ops.nil ?_ | refine Ops.val eF rfl rfl Zw (by first | exact Z1 | exact Hop.add rfl rfl rfl (by omega) | exact Z4 | exact Z5) ?_ | refine Ops.call eF rfl rfl Zw rfl rfl rfl rfl (k1) rfl ?_ | refine Ops.appendE eF rfl rfl Zw rfl rfl rfl rfl rfl rfl rfl rfl rfl rfl rfl rfl rfl rfl rfl rfl Zi rfl rfl rfl rfl rfl Zz (by omega) ?_ | refine Go.condT rfl ?_ | refine Go.exit rfl ?_
   exact Go.toQ g rfl eF.g ⟨rfl, rfl, rfl, rfl, trivial⟩ rfl rfl ⟨.inr rfl, trivial⟩ ⟨trivial, trivial⟩ rfl rfl
  | true =>
   have hp : VaP v := hp rfl
   have hs : v.s.length ≤ 2000 := hs
   have k1 : KOk cF 79 [.agg (encVa v)] (.int .i64 0) := by
    have := k49 v (by omega)
    rwa [bd_of hp, cond_true] at this
   have k2 := m81 (keyB (l.take i)).length ((keyB (l.take i)).flatMap encB) v (by omega) (by omega)
   rw [show keyP ⟨true, pn, v⟩ = u8i v.k :: body v from rfl, show u8i v.k :: body v = [u8i v.k] ++ body v from rfl, ← List.append_assoc, List.length_append, List.length_append, List.flatMap_append, List.flatMap_append] at g
   simp only [List.flatMap_cons, List.flatMap_nil, List.append_nil] at g
   repeat' first | refine Go.seq ?_ | refine Go.region rfl ?_ | refine Ops.nil ?_ | refine Ops.callM (v' := .own 0 _ 1) (ab := [.arr 5 1 _ _]) eF [0] 2 Zw rfl rfl rfl rfl (k2) rfl (wk_eq rfl) rfl Zb Zo rfl rfl rfl rfl rfl rfl rfl ?_ | refine Ops.val eF rfl rfl Zw (by first | exact Z1 | exact Z3 | exact Hop.add rfl rfl rfl (by omega) | exact Z4 | exact Z5) ?_ | refine Ops.call eF rfl rfl Zw rfl rfl rfl rfl (k1) rfl ?_ | refine Go.condF rfl ?_ | refine Go.condNt rfl (fun _ => ?_) (fun _ => ?_) | refine Go.unblk ?_ | refine Go.skip ?_ | refine Go.retF rfl ?_ rfl
   ·rename_i q; exact absurd rfl q
   exact Go.toQ g rfl eF.g ⟨rfl, rfl, rfl, rfl, trivial⟩ rfl rfl ⟨.inr rfl, trivial⟩ ⟨trivial, trivial⟩ rfl rfl
 ·have ei : i = l.length := by omega
  subst ei
  rw [List.take_length] at *
  repeat' first | refine Go.seq ?_ | refine Go.region rfl ?_ | refine Ops.nil ?_ | refine Ops.frzMv eF 2 rfl rfl rfl Zw Z1 rfl Zi rfl rfl rfl rfl ?_ | refine Ops.val eF rfl rfl Zw (by first | exact Z1 | exact Z3) ?_ | refine Go.condFt rfl Za ?_ | refine Go.exit rfl ?_ | refine Go.retF rfl ?_ rfl
  rfl
end Go.Px.Fe
end
section
set_option maxHeartbeats 4000000
set_option maxRecDepth 20000
namespace Go.Px.Fe
open Go.Proofs Go.Px.Fs
attribute [local irreducible] Go.Px.KOk
def keyD (d : Da) : Str := keyB (ptsE d)
theorem ptsE_va {d : Da} (h : VaP d.v) : ∀ i, i < (ptsE d).length → ((ptsE d).getD i default).val = true → VaP ((ptsE d).getD i default).v := by
 intro i hi hv
 have hi : i < 7 := hi
 match i, hi with
 | 0, _ => cases hv
 | 1, _ => cases hv
 | 2, _ => exact h
 | 3, _ => cases hv
 | 4, _ => cases hv
 | 5, _ => cases hv
 | 6, _ => cases hv
theorem ptsE_len {d : Da} (h : d.v.s.length ≤ 2000) : ∀ i, ((ptsE d).getD i default).v.s.length ≤ 2000 := by
 intro i
 match i with
 | 0 => exact Nat.zero_le _
 | 1 => exact Nat.zero_le _
 | 2 => exact h
 | 3 => exact Nat.zero_le _
 | 4 => exact Nat.zero_le _
 | 5 => exact Nat.zero_le _
 | 6 => exact Nat.zero_le _
 | n + 7 => exact Nat.zero_le _
theorem ptsE_7 (d : Da) : (ptsE d).length ≤ 20 := by unfold ptsE; simp
theorem k27 (d : Da) (hd : DaP d) (hs : d.v.s.length ≤ 2000) : KOk cF 27 [.int .i64 1, .agg (encDa d)] (.tup [bysA (keyD d), .int .i64 0]) := by
 have k1 : KOk cF 53 [.agg (encDa d)] (.bool true) := by
  have := k42 d (by omega)
  rwa [bd_of hd] at this
 have k2 := k52
 have k3 := k54 d
 have k4 := k56 d
 have k5 := k55 (ptsE d) (ptsE_7 d) (ptsE_va hd.2.2.1) (ptsE_len hs)
 refine KOk.of cF_ok eF.g Try.func27 rfl (Nat.le_of_ble_eq_true rfl) fun w F => ?_
 repeat' first | refine Go.seq ?_ | refine Go.region rfl ?_ | refine Ops.nil ?_ | refine Ops.val eF rfl rfl Zw (by first | exact Z1 | exact Z2 | exact Z5) ?_ | refine Ops.call eF rfl rfl Zw rfl rfl rfl rfl (k1) rfl ?_ | refine Ops.call eF rfl rfl Zw rfl rfl rfl rfl (k2) rfl ?_ | refine Ops.call eF rfl rfl Zw rfl rfl rfl rfl (k3) rfl ?_ | refine Ops.call eF rfl rfl Zw rfl rfl rfl rfl (k4) rfl ?_ | refine Ops.call eF rfl rfl Zw rfl rfl rfl rfl (k5) rfl ?_ | refine Ops.rowAt eF 0 rfl rfl Zw rfl (Hop.boxC rfl rfl rfl) ?_ | refine Go.condF rfl ?_ | refine Go.skip ?_ | refine Go.retF rfl ?_ rfl
 rfl
end Go.Px.Fe
end
