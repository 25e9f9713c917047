/- Parts of the proof in YthaagimdjfkjpaaGreatDoorXFin: DuY, DuAa, DuRw. -/
import Derived.Test.YthaagimdjfkjpaaGreatDoorXLo
import Derived.Test.YthaagimdjfkjpaaGreatDoorXLp
import Derived.Test.YthaagimdjfkjpaaGreatDoorXK4
import Derived.Test.YthaagimdjfkjpaaGreatDoorBulk
import Derived.ProofKit
import Derived.OpenShut
import Derived.JoinedCond
set_option linter.unusedVariables false
set_option linter.unusedSimpArgs false
section
set_option maxHeartbeats 4000000
set_option maxRecDepth 20000
namespace Go.Px.Du
open Go.Proofs Go.Px.Ds Go.Px.De
attribute [local irreducible] Go.Px.KOk Go.Px.KOkW
noncomputable def txsS (l : List Tx) : Str := l.flatMap fun x => lineS (txN x)
theorem txsS_succ {l : List Tx} {i : Nat} (h : i < l.length) : txsS (l.take (i + 1)) = txsS (l.take i) ++ lineS (txN (l.getD i default)) := by
 unfold txsS; rw [take_succ' h, List.flatMap_append]; simp
theorem txsS_le {l : List Tx} {i : Nat} : (txsS (l.take i)).length ≤ (txsS l).length := by
 have : txsS (l.take i) ++ txsS (l.drop i) = txsS l := by unfold txsS; rw [← List.flatMap_append, List.take_append_drop]
 rw [← this, List.length_append]; omega
structure LnsP (l : List Tx) (n : Int) : Prop where
 len : l.length ≤ 1000
 lens : ∀ i, (l.getD i default).l.length ≤ 1000
 tx : ∀ i, i < l.length → LnP (txN (l.getD i default))
 en : LnP (endN l n)
 all : (txsS l).length + (lineS (endN l n)).length ≤ 800000
theorem k6 (l : List Tx) (n : Int) (hl : l.length ≤ 1000000) (hd : ∀ i, (l.getD i default).l.length ≤ 1000000) (hs : ∀ i k, ((l.getD i default).l.getD k default).v.s.length ≤ 100000) (hP : DmP l n → LnsP l n) :
  KOk cF 6 [.agg (dmA l n)] (bif bd (DmP l n) then .tup [sA (txsS l ++ lineS (endN l n)), .int .i64 0] else .tup [sA [], .int .i64 280]) := by
 have k1 := k14m l n hl hd hs
 by_cases hm_ : DmP l n
 ·rw [bd_of hm_] at k1 ⊢
  have hP := hP hm_
  have hl1 := hP.len
  have hel := hP.en.len
  have hal := hP.all
  have ke : KOk cF 16 [sA [101, 110, 100], ndsA [val 1 (lastT l), val 1 n]] (.tup [sA (lineS (endN l n)), .int .i64 0]) := k16 [101, 110, 100] [val 1 (lastT l), val 1 n] (by simp) hP.en
  have k2 := k18 l n (by omega)
  refine KOk.of cF_ok eF.g Tryz.func6 rfl (Nat.le_of_ble_eq_true rfl) fun w F => ?_
  show Go _ _ _ _ _ _ _ (Fin cF Tryz.f6.results.toList (.tup [sA (txsS l ++ lineS (endN l n)), .int .i64 0]))
  repeat' first | refine Go.seq ?_ | refine Go.region rfl ?_ | refine Ops.nil ?_ | refine Ops.boxR eF rfl rfl Zw rfl rfl rfl rfl ?_ | refine Ops.val eF rfl rfl Zw Zk ?_ | refine Go.condT rfl ?_ | refine Go.condF rfl ?_ | refine Ops.val eF rfl rfl Zw (by first | exact Z1 | exact Z2 | exact Z5) ?_ | refine Ops.call eF rfl rfl Zw rfl rfl rfl rfl (k1) rfl ?_ | refine Go.block ?_ | refine Go.skip ?_
  refine Go.loop (fun i : Nat => [(1, .rptr (dmA l n)), (5, sA (txsS (l.take i))), (6, .int .i64 i)]) (fun _ => hS) (fun i => i ≤ l.length) (fun i => l.length - i) 0 (Nat.zero_le _) Zt rfl (fun i hi ih => ?_)
  by_cases c0 : (i : Int) < (l.length : Int)
  ·have hlt : i < l.length := by omega
   have g := ih (i + 1) (by omega) (by omega)
   have hle := txsS_le (l := l) (i := i + 1)
   rw [txsS_succ hlt] at g hle
   rw [List.length_append] at hle
   have kt := k15t (l.getD i default) (hP.lens i) (hP.tx i hlt)
   repeat' first | refine Go.seq ?_ | refine Go.region rfl ?_ | refine Ops.nil ?_ | refine Ops.val eF rfl rfl Zw Zk ?_ | refine Go.condT rfl ?_ | refine Go.condF rfl ?_ | refine Ops.val eF rfl rfl Zw (Hop.catS rfl rfl rfl (by omega)) ?_ | refine Ops.val eF rfl rfl Zw (by first | exact Z1 | exact Y14 | exact Z4 | exact Y24 | exact Z5 | exact Z6) ?_ | refine Ops.call eF rfl rfl Zw rfl rfl rfl rfl (kt) rfl ?_ | refine Go.block ?_ | refine Go.unblk ?_ | refine Go.skip ?_
   all_goals try simp only [Int.toNat_natCast] at *
   exact Go.to g Zt
  ·have ei : i = l.length := by omega
   subst ei
   rw [List.take_length] at *
   repeat' first | refine Go.seq ?_ | refine Go.region rfl ?_ | refine Ops.nil ?_ | refine Ops.val eF rfl rfl Zw Zk ?_ | refine Go.condT rfl ?_ | refine Go.condF rfl ?_ | refine Ops.val eF rfl rfl Zw (by first | exact Z1 | exact Z4 | exact Z5 | exact Z6) ?_ | refine Go.exit rfl ?_
   refine Go.meet [(5, sA (txsS l)), (9, sA (lineS (endN l n)))] hS ?_ (fun cont => ?_)
   ·repeat' first | refine Go.seq ?_ | refine Go.region rfl ?_ | refine Ops.nil ?_ | refine Ops.val eF rfl rfl Zw (Hop.catS rfl rfl rfl (by omega)) ?_ | refine Ops.val eF rfl rfl Zw Z1 ?_ | refine Go.retF rfl ?_ rfl
    all_goals rfl
   ·refine Go.anyD hm ?_
    repeat' first
     | exact Go.to cont Zt
     | refine Ops.nil ?_
     | refine Ops.val eF rfl rfl Zw (by first | exact Z1 | exact Z4 | exact Z5) ?_
     | refine Ops.call eF rfl rfl Zw rfl rfl rfl rfl (k2) rfl ?_
     | refine Ops.call eF rfl rfl Zw rfl rfl rfl rfl (k17 1 (lastT l)) rfl ?_
     | refine Ops.call eF rfl rfl Zw rfl rfl rfl rfl (k17 1 n) rfl ?_
     | refine Ops.call eF rfl rfl Zw rfl rfl rfl rfl (ke) rfl ?_
     | refine Ops.data eF rfl rfl Zw rfl (Hop.bslice eF rfl rfl rfl rfl rfl rfl rfl rfl rfl rfl rfl) rfl rfl ?_
     | refine Go.anyEnd rfl ?_
     | refine Go.any1 rfl rfl ?_
     | refine Go.any2 rfl rfl rfl ?_ ?_
     | refine Go.any3 rfl rfl rfl rfl ?_ ?_ ?_
 ·rw [bd_no hm_] at k1 ⊢
  refine KOk.of cF_ok eF.g Tryz.func6 rfl (Nat.le_of_ble_eq_true rfl) fun w F => ?_
  repeat' first | refine Go.seq ?_ | refine Go.region rfl ?_ | refine Ops.nil ?_ | refine Ops.boxR eF rfl rfl Zw rfl rfl rfl rfl ?_ | refine Ops.val eF rfl rfl Zw Zk ?_ | refine Go.condT rfl ?_ | refine Go.condF rfl ?_ | refine Ops.val eF rfl rfl Zw (by first | exact Z1 | exact Z2 | exact Z5) ?_ | refine Ops.call eF rfl rfl Zw rfl rfl rfl rfl (k1) rfl ?_ | refine Go.retF rfl ?_ rfl
  all_goals rfl
end Go.Px.Du
end
section
set_option maxRecDepth 20000
namespace Go.Px.Du
open Go.Proofs Go.Px.Ds Go.Px.De
def DaI (d : Da) : Prop := i64 d.v.n ∧ i64 d.fr ∧ i64 d.to
theorem vtxt_len (v : Va) (h : i64 v.n) : (vtxt v).length ≤ 3 * v.s.length + 24 := by
 have hi := Lib.itoa_length_le v.n h.1 h.2
 have h1 := hxs_len v.s
 have h2 := qts_len v.s
 unfold vtxt
 split
 ·omega
 ·split
  ·cases bd (v.n = 1) <;> simp [tF]
  ·split
   ·simp only [List.length_cons]; omega
   ·split
    ·simp only [List.length_cons]; omega
    ·split
     ·simp only [List.length_cons]; omega
     ·split
      ·simp only [List.length_cons]; omega
      ·simp only [List.length_cons, List.length_append, List.length_nil]; omega
theorem shoT_len : ∀ l : List Nd, (shoT l).length = (l.map fun x => x.sho.length + 1).sum
 | [] => by simp [shoT]
 | c :: r => by simp only [shoT, List.length_cons, List.length_append, shoT_len r, List.map_cons, List.sum_cons]; omega
theorem shoL_len : ∀ l : List Nd, (shoL l).length ≤ (l.map fun x => x.sho.length + 1).sum
 | [] => by simp [shoL]
 | c :: r => by simp only [shoL, List.length_append, shoT_len r, List.map_cons, List.sum_cons]; omega
theorem val_sho (k n : Int) : (val k n).sho = vtxt ⟨k, n, []⟩ := by unfold val Nd.sho; rw [if_pos rfl]
theorem val_len (k n : Int) (h : i64 n) : (val k n).sho.length ≤ 24 := by
 rw [val_sho]; have := vtxt_len ⟨k, n, []⟩ h; simpa using this
theorem nmN_sho (s : Str) : (nmN s).sho = s := by unfold nmN Nd.sho; rw [if_neg (by decide), if_pos rfl]
theorem mk1_sho (v : Va) : (Nd.mk 1 v [] [] 0 0).sho = vtxt v := by unfold Nd.sho; rw [if_pos rfl]
theorem i64_adN (b : Bool) : i64 (adN b) := by cases b <;> (unfold i64; decide)
theorem brk_len (k : Int) (hk : k = 3 ∨ k = 4) (kids : List Nd) : (Nd.mk k v0 [] kids 0 0).sho.length ≤ 2 + (kids.map fun x => x.sho.length + 1).sum := by
 have := shoL_len kids
 have e : (Nd.mk k v0 [] kids 0 0).sho = opn k :: (shoL kids ++ [cls k]) := by unfold Nd.sho; rw [if_neg (by omega), if_neg (by omega)]
 rw [e]
 simp only [List.length_cons, List.length_append, List.length_nil]; omega
theorem nodeD_len (d : Da) (h : DaP d) (hI : DaI d) : (nodeD d).sho.length + 1 ≤ 9 * (20 + d.v.s.length) := by
 obtain ⟨he, ha, hv, ht, hs⟩ := h
 have e1 := val_len 5 d.e ⟨by omega, by omega⟩
 have e2 := val_len 5 d.a ⟨by omega, by omega⟩
 have e3 := vtxt_len d.v hI.1
 have e4 := val_len 2 (adN d.add) (i64_adN _)
 have e5 := val_len 6 d.fr hI.2.1
 have e6 := val_len 6 d.to hI.2.2
 have hb := brk_len 4 (.inr rfl) ([val 5 d.e, val 5 d.a, .mk 1 d.v [] [] 0 0, val 2 (adN d.add)] ++ bif spD d then [val 6 d.fr, val 6 d.to] else [])
 unfold nodeD vecD
 cases hsp : spD d <;> rw [hsp] at hb <;> simp only [cond_true, cond_false, List.append_nil, List.cons_append, List.nil_append, List.map_cons, List.map_nil, List.sum_cons, List.sum_nil, mk1_sho] at hb ⊢ <;> omega
theorem nodes_len : ∀ (l : List Da), (∀ d ∈ l, DaP d ∧ DaI d) → ((l.map nodeD).map fun x => x.sho.length + 1).sum ≤ 9 * sumD l
 | [], _ => by simp [sumD]
 | d :: l, h => by
  have ih := nodes_len l (fun x hx => h x (List.mem_cons_of_mem _ hx))
  have hd := nodeD_len d (h d List.mem_cons_self).1 (h d List.mem_cons_self).2
  unfold sumD at *
  simp only [List.map_cons, List.sum_cons]
  omega
theorem txN_len (x : Tx) (ht : i64 x.t) (h : ∀ d ∈ x.l, DaP d ∧ DaI d) : (txN x).sho.length ≤ 30 + 9 * sumD x.l := by
 have h1 := nodes_len x.l h
 have h2 := val_len 1 x.t ht
 have hb := brk_len 3 (.inl rfl) (nmN [116, 120] :: val 1 x.t :: x.l.map nodeD)
 unfold txN nmd
 simp only [List.map_cons, List.sum_cons, nmN_sho, List.length_cons, List.length_nil] at hb
 omega
theorem val_ok {dp : Nat} (k n : Int) (h : VaP ⟨k, n, []⟩) (hi : i64 n) : (val k n).ok dp := .inl ⟨rfl, h, hi, Nat.zero_le _, rfl, rfl⟩
theorem nodeD_ok (d : Da) (h : DaP d) (hI : DaI d) (hs : d.v.s.length ≤ 100000) : (nodeD d).ok 1 := by
 obtain ⟨he, ha, hv, ht, hsp⟩ := h
 have e1 : (val 5 d.e).ok 2 := val_ok 5 d.e (by unfold VaP; simp; exact he) ⟨by omega, by omega⟩
 have e2 : (val 5 d.a).ok 2 := val_ok 5 d.a (by unfold VaP; simp; exact ha) ⟨by omega, by omega⟩
 have e3 : (Nd.mk 1 d.v [] [] 0 0).ok 2 := .inl ⟨rfl, hv, hI.1, hs, rfl, rfl⟩
 have e4 : (val 2 (adN d.add)).ok 2 := val_ok 2 _ (by unfold VaP; simp; cases d.add <;> simp [adN]) (i64_adN _)
 have e5 : (val 6 d.fr).ok 2 := val_ok 6 d.fr (by unfold VaP; simp) hI.2.1
 have e6 : (val 6 d.to).ok 2 := val_ok 6 d.to (by unfold VaP; simp) hI.2.2
 unfold nodeD vecD
 refine .inr (.inr ⟨.inr rfl, rfl, rfl, by decide, ?_⟩)
 cases spD d
 ·exact ⟨e1, e2, e3, e4, trivial⟩
 ·exact ⟨e1, e2, e3, e4, e5, e6, trivial⟩
theorem nodes_ok : ∀ (l : List Da), (∀ d ∈ l, DaP d ∧ DaI d ∧ d.v.s.length ≤ 100000) → okN 1 (l.map nodeD)
 | [], _ => trivial
 | d :: l, h => ⟨nodeD_ok d (h d List.mem_cons_self).1 (h d List.mem_cons_self).2.1 (h d List.mem_cons_self).2.2, nodes_ok l fun x hx => h x (List.mem_cons_of_mem _ hx)⟩
theorem nodeD_cnt (d : Da) : (nodeD d).cnt ≤ 7 := by
 unfold nodeD vecD
 cases spD d <;> simp [Nd.cnt, cntN, val]
theorem nodes_cnt : ∀ l : List Da, cntN (l.map nodeD) ≤ 7 * l.length
 | [] => by simp [cntN]
 | d :: l => by
  have := nodes_cnt l
  have := nodeD_cnt d
  simp only [List.map_cons, cntN, List.length_cons]; omega
theorem txN_P (x : Tx) (ht : 1 ≤ x.t ∧ x.t ≤ 1099511627776) (h : ∀ d ∈ x.l, DaP d ∧ DaI d ∧ d.v.s.length ≤ 100000) (hl : x.l.length ≤ 60) (hS : sumD x.l ≤ 4000) : LnP (txN x) := by
 refine ⟨⟨.inr (.inr ⟨.inl rfl, rfl, rfl, by decide, .inr (.inl ⟨rfl, .inl rfl, rfl, rfl⟩), val_ok 1 x.t (by unfold VaP; simp) ⟨by omega, by omega⟩, nodes_ok x.l h⟩), trivial⟩, ?_, ?_⟩
 ·have := nodes_cnt x.l
  have e : cntN [txN x] = 1 + (1 + (1 + cntN (x.l.map nodeD))) := by unfold txN nmd nmN val; simp [cntN, Nd.cnt]
  rw [e]; omega
 ·have := txN_len x ⟨by omega, by omega⟩ (fun d hd => ⟨(h d hd).1, (h d hd).2.1⟩)
  omega
theorem lastT_i (l : List Tx) (h : ∀ i, i < l.length → 1 ≤ (l.getD i default).t ∧ (l.getD i default).t ≤ 1099511627776) : 0 ≤ lastT l ∧ lastT l ≤ 1099511627776 := by
 unfold lastT
 split
 ·omega
 ·have := h (l.length - 1) (by omega); omega
theorem endN_len (l : List Tx) (n : Int) (h : ∀ i, i < l.length → 1 ≤ (l.getD i default).t ∧ (l.getD i default).t ≤ 1099511627776) (hn : i64 n) : (endN l n).sho.length ≤ 100 := by
 have hl := lastT_i l h
 have hi : i64 (lastT l) := ⟨by omega, by omega⟩
 have h2 := val_len 1 (lastT l) hi
 have h3 := val_len 1 n hn
 have hb := brk_len 3 (.inl rfl) [nmN [101, 110, 100], val 1 (lastT l), val 1 n]
 unfold endN nmd
 simp only [List.map_cons, List.map_nil, List.sum_cons, List.sum_nil, nmN_sho, List.length_cons, List.length_nil] at hb
 omega
theorem endN_P (l : List Tx) (n : Int) (h : ∀ i, i < l.length → 1 ≤ (l.getD i default).t ∧ (l.getD i default).t ≤ 1099511627776) (hn : i64 n) : LnP (endN l n) := by
 have hl := lastT_i l h
 have hi : i64 (lastT l) := ⟨by omega, by omega⟩
 refine ⟨⟨.inr (.inr ⟨.inl rfl, rfl, rfl, by decide, .inr (.inl ⟨rfl, .inr rfl, rfl, rfl⟩), val_ok 1 (lastT l) (by unfold VaP; simp) hi, val_ok 1 n (by unfold VaP; simp) hn, trivial⟩), trivial⟩, ?_, ?_⟩
 ·have e : cntN [endN l n] = 4 := by unfold endN nmd nmN val; simp [cntN, Nd.cnt]
  rw [e]; omega
 ·have := endN_len l n h hn; omega
theorem txsS_len : ∀ l : List Tx, (∀ x ∈ l, (txN x).sho.length ≤ 30 + 9 * sumD x.l) → (txsS l).length ≤ 31 * l.length + 9 * sumD (allD l)
 | [], _ => by simp [txsS]
 | x :: l, h => by
  have ih := txsS_len l (fun y hy => h y (List.mem_cons_of_mem _ hy))
  have hx := h x List.mem_cons_self
  have e : sumD (allD (x :: l)) = sumD x.l + sumD (allD l) := by
   show sumD (x.l ++ allD l) = _
   rw [sumD_app]
  have e2 : txsS (x :: l) = lineS (txN x) ++ txsS l := rfl
  rw [e, e2, List.length_append, List.length_cons]
  unfold lineS
  rw [List.length_append]
  show _ + 1 + _ ≤ _
  omega
theorem sum_s : ∀ (l : List Da) (k : Nat), (l.getD k default).v.s.length ≤ sumD l
 | [], k => by rw [List.getD_nil]; exact Nat.zero_le _
 | d :: l, 0 => by unfold sumD; simp only [List.map_cons, List.sum_cons, List.getD_cons_zero]; omega
 | d :: l, k + 1 => by
  have := sum_s l k
  unfold sumD at *
  simp only [List.map_cons, List.sum_cons, List.getD_cons_succ]; omega
theorem getD_mem {α : Type} [Inhabited α] {l : List α} {x : α} (h : x ∈ l) : ∃ i, i < l.length ∧ l.getD i default = x := by
 obtain ⟨i, hi, rfl⟩ := List.getElem_of_mem h
 exact ⟨i, hi, by rw [List.getD_eq_getElem?_getD, List.getElem?_eq_getElem hi]; rfl⟩
theorem small_of {l : List Tx} (h : ¬ GreatT l) : l.length ≤ 60 ∧ (∀ i, (l.getD i default).l.length ≤ 60) ∧ (∀ i k, ((l.getD i default).l.getD k default).v.s.length ≤ 4000) ∧ (∀ i, sumD (l.getD i default).l ≤ 4000) ∧ sumD (allD l) ≤ 4000 := by
 have h1 : ¬ 60 < l.length := fun q => h (.inl q)
 have h2 : ∀ i, i < l.length → ¬ (60 < (l.getD i default).l.length ∨ 4000 < sumD (l.getD i default).l) := fun i hi q => h (.inr (.inl ⟨i, hi, q⟩))
 have h3 : ¬ 4000 < sumD (allD l) := fun q => h (.inr (.inr q))
 have hD : ∀ i, ¬ i < l.length → l.getD i default = default := fun i hi => by rw [List.getD_eq_getElem?_getD, List.getElem?_eq_none (by omega)]; rfl
 have hS : ∀ i, sumD (l.getD i default).l ≤ 4000 := fun i => by
  by_cases hi : i < l.length
  ·have := h2 i hi; omega
  ·rw [hD i hi]; exact Nat.zero_le _
 refine ⟨by omega, fun i => ?_, fun i k => Nat.le_trans (sum_s _ k) (hS i), hS, by omega⟩
 by_cases hi : i < l.length
 ·have := h2 i hi; omega
 ·rw [hD i hi]; exact Nat.zero_le _
theorem lnsP_of {l : List Tx} {n : Int} (hG : ¬ GreatT l) (hI : ∀ x ∈ l, ∀ d ∈ x.l, DaI d) (h : DmP l n) : LnsP l n := by
 obtain ⟨s1, s2, s3, s4, s5⟩ := small_of hG
 have hA := h.1
 have hn : i64 n := ⟨by have := h.2.1; omega, by have := h.2.2.1; omega⟩
 have ht : ∀ i, i < l.length → 1 ≤ (l.getD i default).t ∧ (l.getD i default).t ≤ 1099511627776 := fun i hi => ⟨(hA i hi).1.1, (hA i hi).1.2.1⟩
 have hmem : ∀ i, i < l.length → l.getD i default ∈ l := fun i hi => by
  rw [List.getD_eq_getElem?_getD, List.getElem?_eq_getElem hi]; exact List.getElem_mem hi
 have hd : ∀ i, i < l.length → ∀ d ∈ (l.getD i default).l, DaP d ∧ DaI d ∧ d.v.s.length ≤ 100000 := fun i hi d hdm => by
  obtain ⟨k, hk, rfl⟩ := getD_mem hdm
  exact ⟨((hA i hi).2 k hk).2.1, hI _ (hmem i hi) _ hdm, by have := s3 i k; omega⟩
 have hx : ∀ i, i < l.length → LnP (txN (l.getD i default)) := fun i hi => txN_P _ (ht i hi) (hd i hi) (s2 i) (s4 i)
 refine ⟨by omega, fun i => by have := s2 i; omega, hx, endN_P l n ht hn, ?_⟩
 have := txsS_len l fun x hxm => by
  obtain ⟨i, hi, rfl⟩ := getD_mem hxm
  exact txN_len _ ⟨by have := ht i hi; omega, by have := ht i hi; omega⟩ fun d hdm => ⟨(hd i hi d hdm).1, (hd i hi d hdm).2.1⟩
 have h2 := endN_len l n ht hn
 have h3 : (lineS (endN l n)).length = (endN l n).sho.length + 1 := by unfold lineS; rw [List.length_append]; rfl
 omega
end Go.Px.Du
end
section
namespace Go.Proofs.YthaagimdjfkjpaaGreatDoor.dumpIn
open Go.ChangeShapes Go.WideShapes Go.ChangeAt Go.RowKit
set_option maxRecDepth 100000
theorem own : ownKnob Tryz.prog.godebug = none := by kernel_rfl
theorem laid : laidOutB Tryz.prog = true := by kernel_rfl
theorem kids : Kids Tryz.prog (· < Tryz.prog.types.size) := kids_rows laid (by kernel_rfl)
theorem full : ∀ t e, t < Tryz.prog.types.size → Tryz.prog.underlying t = some (.slice e) → 0 < Tryz.prog.cellsOf e := slices_full_of Tryz.prog (by kernel_rfl)
theorem c24 : Tryz.prog.cellsOf 24 = 2 := by kernel_rfl
theorem c22 : Tryz.prog.cellsOf 22 = 1 := by kernel_rfl
theorem c2 : Tryz.prog.cellsOf 2 = 1 := by kernel_rfl
theorem c3 : Tryz.prog.cellsOf 3 = 1 := by kernel_rfl
theorem c4 : Tryz.prog.cellsOf 4 = 1 := by kernel_rfl
theorem c9 : Tryz.prog.cellsOf 9 = 1 := by kernel_rfl
theorem c36 : Tryz.prog.cellsOf 36 = 1 := by kernel_rfl
theorem c38 : Tryz.prog.cellsOf 38 = 2 := by kernel_rfl
theorem c58 : Tryz.prog.cellsOf 58 = 3 := by kernel_rfl
theorem c65 : Tryz.prog.cellsOf 65 = 9 := by kernel_rfl
theorem wf64 {n : Int} (h : (Lit.int .i64 n).wf = true) : Px.Du.i64 n := by
 unfold Px.Du.i64
 have : -9223372036854775808 ≤ n ∧ n ≤ 9223372036854775807 := by simpa [Lit.wf, IntKind.min, IntKind.max, IntKind.signed, IntKind.bits] using h
 omega
section
variable {H : Type} {enc : TypeId × Value → H} {W : World}
def DaQ (x : Px.Ds.Da) (d : DataW H) : Prop := x.v.s.length + 1 ≤ Rows.uptoBulk d ∧ Px.Du.DaI x
theorem el65 (n : Nat) (cs : List Value) (y : DataW H × List MemPlace) (h : DataW.trod enc Tryz.prog W 0 (fun _ => true) true n 65 cs = some y) : ∃ x : Px.Ds.Da, Px.VRs (Px.fzm (Px.held0 W)) (Px.Ds.encDa x) cs ∧ DaQ x y.1 := by
 obtain ⟨xs, k, rfl, rfl, hlen, hxl, hf⟩ := DataW.trod_struct Tryz.underlying65 h
 rw [c65] at hlen
 match cs, hlen with
 | [p0, p1, p2, p3, p4, p5, p6, p7, p8], _ =>
  match xs, hxl with
  | [x0, x1, x2, x3, x4, x5, x6], _ =>
   have g0 : DataW.trod enc Tryz.prog W 0 (fun _ => true) true k 2 [p0] = some x0 := by have := hf 0 _ rfl; simpa [c2] using this
   have g1 : DataW.trod enc Tryz.prog W 0 (fun _ => true) true k 2 [p1] = some x1 := by have := hf 1 _ rfl; simpa [c2] using this
   have g2 : DataW.trod enc Tryz.prog W 0 (fun _ => true) true k 58 [p2, p3, p4] = some x2 := by have := hf 2 _ rfl; simpa [c58] using this
   have g3 : DataW.trod enc Tryz.prog W 0 (fun _ => true) true k 2 [p5] = some x3 := by have := hf 3 _ rfl; simpa [c2] using this
   have g4 : DataW.trod enc Tryz.prog W 0 (fun _ => true) true k 4 [p6] = some x4 := by have := hf 4 _ rfl; simpa [c4] using this
   have g5 : DataW.trod enc Tryz.prog W 0 (fun _ => true) true k 2 [p7] = some x5 := by have := hf 5 _ rfl; simpa [c2] using this
   have g6 : DataW.trod enc Tryz.prog W 0 (fun _ => true) true k 2 [p8] = some x6 := by have := hf 6 _ rfl; simpa [c2] using this
   obtain ⟨e, he, _, _⟩ := DataW.trod_int Tryz.underlying2 g0
   obtain ⟨a, ha, _, _⟩ := DataW.trod_int Tryz.underlying2 g1
   obtain ⟨t, ht, _, _⟩ := DataW.trod_int Tryz.underlying2 g3
   obtain ⟨ad, had, _⟩ := DataW.trod_bool Tryz.underlying4 g4
   obtain ⟨fr, hfr, _, wfr⟩ := DataW.trod_int Tryz.underlying2 g5
   obtain ⟨to, hto, _, wto⟩ := DataW.trod_int Tryz.underlying2 g6
   obtain ⟨zs, m, rfl, rfl, zlen, zxl, zf⟩ := DataW.trod_struct Tryz.underlying58 g2
   match zs, zxl with
   | [z0, z1, z2], _ =>
    have i0 : DataW.trod enc Tryz.prog W 0 (fun _ => true) true m 3 [p2] = some z0 := by have := zf 0 _ rfl; simpa [c3] using this
    have i1 : DataW.trod enc Tryz.prog W 0 (fun _ => true) true m 2 [p3] = some z1 := by have := zf 1 _ rfl; simpa [c2] using this
    have i2 : DataW.trod enc Tryz.prog W 0 (fun _ => true) true m 9 [p4] = some z2 := by have := zf 2 _ rfl; simpa [c9] using this
    obtain ⟨vk, hk, _, _⟩ := DataW.trod_int Tryz.underlying3 i0
    obtain ⟨vn, hn, _, wvn⟩ := DataW.trod_int Tryz.underlying2 i1
    obtain ⟨vs, hs, hz2, _⟩ := DataW.trod_string Tryz.underlying9 i2
    simp only [List.cons.injEq, and_true] at he ha ht had hfr hto hk hn hs
    subst he; subst ha; subst ht; subst had; subst hfr; subst hto; subst hk; subst hn; subst hs; subst hz2
    refine ⟨⟨e, a, ⟨vk, vn, vs.data.toList⟩, t, ad, fr, to⟩, ?_, ?_, wf64 wvn, wf64 wfr, wf64 wto⟩
    ·have h1 := Px.read_str (Px.fzm (Px.held0 W)) vs
     simp only [Px.Ds.encDa, Px.VRs, Px.VR]
     exact ⟨_, _, rfl, ⟨_, _, rfl, ⟨_, _, rfl, ⟨_, _, rfl, ⟨_, _, h1, ⟨_, _, rfl, ⟨_, _, rfl, ⟨_, _, rfl, ⟨_, _, rfl, rfl, rfl⟩, rfl⟩, rfl⟩, rfl⟩, rfl⟩, rfl⟩, rfl⟩, rfl⟩, rfl⟩
    ·simp only [List.map_cons, List.map_nil, Rows.uptoBulk, Rows.uptoBulkAll]; omega
theorem sum_bulk : ∀ (l : List Px.Ds.Da) (els : List (DataW H)), els.length = l.length → (∀ i, i < l.length → ∃ d, els[i]? = some d ∧ DaQ (l.getD i default) d) → Px.De.sumD l ≤ 21 * Rows.uptoBulkAll els
 | [], _, _, _ => Nat.zero_le _
 | x :: l, [], h, _ => by cases h
 | x :: l, y :: els, h, hq => by
  have ih := sum_bulk l els (by simpa using h) (fun i hi => by
   have := hq (i + 1) (by simp only [List.length_cons]; omega)
   simpa using this)
  obtain ⟨d, hd, q, _⟩ := hq 0 (by simp)
  simp only [List.getElem?_cons_zero, Option.some.injEq, List.getD_cons_zero] at hd q
  subst hd
  have hy := bulks.one_le y
  unfold Px.De.sumD at *
  simp only [List.map_cons, List.sum_cons, Rows.uptoBulkAll]
  omega
def TxQ (x : Px.De.Tx) (d : DataW H) : Prop := (Px.De.sumD x.l ≤ 21 * Rows.uptoBulk d ∧ x.l.length ≤ Rows.uptoBulk d) ∧ ∀ e, e ∈ x.l → Px.Du.DaI e
theorem el38 (n : Nat) (cs : List Value) (y : DataW H × List MemPlace) (h : DataW.trod enc Tryz.prog W 0 (fun _ => true) true n 38 cs = some y) : ∃ x : Px.De.Tx, Px.VRs (Px.fzm (Px.held0 W)) (Px.De.encTx x) cs ∧ TxQ x y.1 := by
 obtain ⟨xs, k, rfl, rfl, hlen, hxl, hf⟩ := DataW.trod_struct Tryz.underlying38 h
 rw [c38] at hlen
 match cs, hlen with
 | [p0, p1], _ =>
  match xs, hxl with
  | [x0, x1], _ =>
   have g0 : DataW.trod enc Tryz.prog W 0 (fun _ => true) true k 2 [p0] = some x0 := by have := hf 0 _ rfl; simpa [c2] using this
   have g1 : DataW.trod enc Tryz.prog W 0 (fun _ => true) true k 36 [p1] = some x1 := by have := hf 1 _ rfl; simpa [c36] using this
   obtain ⟨t, ht, _, _⟩ := DataW.trod_int Tryz.underlying2 g0
   obtain ⟨l, hl, hq⟩ := Px.read_sliceB (en := Px.Ds.encDa) (z := 9) (by omega) (fun _ => rfl) Tryz.underlying36 c65 (Q := DaQ) (B := fun _ => True) (fun n cs y _ h => el65 n cs y h) (fun _ _ _ _ _ => trivial) g1
   simp only [List.cons.injEq, and_true] at ht
   subst ht
   refine ⟨⟨t, l⟩, ?_, ?_⟩
   ·have hl : Px.VR (Px.fzm (Px.held0 W)) (Px.De.dasA l) p1 := hl
    simp only [Px.De.encTx, Px.VRs, Px.VR]
    exact ⟨_, _, rfl, ⟨_, _, hl, rfl, rfl⟩, rfl⟩
   ·simp only [TxQ, List.map_cons, List.map_nil, Rows.uptoBulk, Rows.uptoBulkAll]
    rcases hq with ⟨rfl, _⟩ | ⟨els, sp, h1, h2, h3⟩
    ·exact ⟨⟨Nat.zero_le _, Nat.zero_le _⟩, fun e he => by cases he⟩
    ·have hs := bulks.slice_le els sp
     have he := bulks.slice_elems els sp
     have hsum := sum_bulk l els h2 h3
     rw [h1]
     refine ⟨⟨by omega, by omega⟩, fun e he => ?_⟩
     obtain ⟨i, hi, rfl⟩ := List.getElem_of_mem he
     obtain ⟨_, _, q⟩ := h3 i hi
     rw [List.getD_eq_getElem?_getD, List.getElem?_eq_getElem hi] at q
     exact q.2
theorem read22 {n : Nat} {v : Value} {y : DataW H × List MemPlace} (h : DataW.trod enc Tryz.prog W 0 (fun _ => true) true n 22 [v] = some y) (hb : Rows.uptoBulk y.1 ≤ 1048576) : ∃ l : List Px.De.Tx, Px.VR (Px.fzm (Px.held0 W)) (Px.De.txsA l) v ∧ l.length ≤ 10000000 ∧ (∀ i, Px.De.sumD (l.getD i default).l ≤ 1000000000) ∧ (∀ i, (l.getD i default).l.length ≤ 10000000) ∧ ∀ x, x ∈ l → ∀ d, d ∈ x.l → Px.Du.DaI d := by
 obtain ⟨l, hl, hq⟩ := Px.read_sliceB (en := Px.De.encTx) (z := 2) (by omega) (fun _ => rfl) Tryz.underlying22 c38 (Q := TxQ) (B := fun _ => True) (fun n cs y _ h => el38 n cs y h) (fun _ _ _ _ _ => trivial) h
 refine ⟨l, hl, ?_⟩
 rcases hq with ⟨rfl, _⟩ | ⟨els, sp, h1, h2, h3⟩
 ·exact ⟨Nat.zero_le _, fun i => by rw [List.getD_nil]; exact Nat.zero_le _, fun i => by rw [List.getD_nil]; exact Nat.zero_le _, fun x hx => by cases hx⟩
 ·have hs := bulks.slice_le els sp
  have he := bulks.slice_elems els sp
  rw [← h1] at hs he
  have key : ∀ i, Px.De.sumD (l.getD i default).l ≤ 1000000000 ∧ (l.getD i default).l.length ≤ 10000000 := fun i => by
   by_cases hi : i < l.length
   ·obtain ⟨d, hd, q⟩ := h3 i hi
    have := bulks.part_le (List.mem_of_getElem? hd)
    have q1 := q.1
    omega
   ·have e : l.getD i default = default := by
     rw [List.getD_eq_getElem?_getD, List.getElem?_eq_none (by omega)]; rfl
    rw [e]
    exact ⟨Nat.zero_le _, Nat.zero_le _⟩
  refine ⟨by omega, fun i => (key i).1, fun i => (key i).2, fun x hx => ?_⟩
  obtain ⟨i, hi, rfl⟩ := List.getElem_of_mem hx
  obtain ⟨_, _, q⟩ := h3 i hi
  rw [List.getD_eq_getElem?_getD, List.getElem?_eq_getElem hi] at q
  exact q.2
theorem read24 {n : Nat} {cs : List Value} {y : DataW H × List MemPlace} (h : DataW.trod enc Tryz.prog W 0 (fun _ => true) true n 24 cs = some y) (hb : Rows.uptoBulk y.1 ≤ 1048576) : ∃ (l : List Px.De.Tx) (nx : Int), Px.VRs (Px.fzm (Px.held0 W)) (Px.Du.dmA l nx) cs ∧ l.length ≤ 10000000 ∧ (∀ i, Px.De.sumD (l.getD i default).l ≤ 1000000000) ∧ (∀ i, (l.getD i default).l.length ≤ 10000000) ∧ ∀ x ∈ l, ∀ e, e ∈ x.l → Px.Du.DaI e := by
 obtain ⟨xs, k, rfl, rfl, hlen, hxl, hf⟩ := DataW.trod_struct Tryz.underlying24 h
 rw [c24] at hlen
 match cs, hlen with
 | [p0, p1], _ =>
  match xs, hxl with
  | [x0, x1], _ =>
   have g0 : DataW.trod enc Tryz.prog W 0 (fun _ => true) true k 22 [p0] = some x0 := by have := hf 0 _ rfl; simpa [c22] using this
   have g1 : DataW.trod enc Tryz.prog W 0 (fun _ => true) true k 2 [p1] = some x1 := by have := hf 1 _ rfl; simpa [c2] using this
   obtain ⟨nx, hn, _, _⟩ := DataW.trod_int Tryz.underlying2 g1
   simp only [List.map_cons, List.map_nil, Rows.uptoBulk, Rows.uptoBulkAll] at hb
   obtain ⟨l, hl, q1, q2, q3, q4⟩ := read22 g0 (by omega)
   simp only [List.cons.injEq, and_true] at hn
   subst hn
   refine ⟨l, nx, ?_, q1, q2, q3, q4⟩
   simp only [Px.Du.dmA, Px.VRs]
   exact ⟨_, _, hl, ⟨_, _, by simp only [Px.VR], rfl, rfl⟩, rfl⟩
end
end Go.Proofs.YthaagimdjfkjpaaGreatDoor.dumpIn
end
