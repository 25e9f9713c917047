/- Parts of the proof in YthlbnmohaeeccaaVFin: FeBb, FeBc, FeBd, FeBe, FeBi. -/
import Derived.Test.YthlbnmohaeeccaaVLa
import Derived.Test.YthlbnmohaeeccaaVLb
import Derived.Test.YthlbnmohaeeccaaVK4
set_option linter.unusedVariables false
set_option linter.unusedSimpArgs false
section
set_option maxHeartbeats 4000000
set_option maxRecDepth 20000
namespace Go.Px.Fe
open Go.Proofs Go.Px.Fs
attribute [local irreducible] Go.Px.KOk
structure Rd where
 b : Str
 bad : Bool
def encR (r : Rd) : List AV := [bysA r.b, .bool r.bad]
def rtake (r : Rd) (n : Nat) : Str × Rd := if r.bad = true ∨ r.b.length < n then (List.replicate n 0, ⟨r.b, true⟩) else (r.b.take n, ⟨r.b.drop n, false⟩)
theorem rtake_len (r : Rd) (n : Nat) : (rtake r n).1.length = n := by
 unfold rtake
 split
 ·simp
 ·rename_i h
  have : ¬ r.b.length < n := fun q => h (.inr q)
  simp; omega
theorem rtake_le (r : Rd) (n : Nat) : (rtake r n).2.b.length ≤ r.b.length := by
 unfold rtake
 split
 ·exact Nat.le_refl _
 ·simp
theorem m126 (r : Rd) (n : Nat) (hn : 1 ≤ n ∧ n ≤ 8) (hb : r.b.length ≤ 100000000) : KM cF 126 [.row 140 (encR r)] [.ptr 0 0, .int .i64 (n : Nat)] (bysA (rtake r n).1) [.row 140 (encR (rtake r n).2)] := by
 have hn0 : n ≠ 0 := by omega
 refine KM.of (N := 1) (ab := [.row ⟨140, 2, .leaf, encR r, none⟩]) (gv := [.ptr 0 0]) cF_ok eF.g Try.func126 rfl rfl rfl rfl (Nat.le_of_ble_eq_true rfl) rfl rfl rfl rfl rfl rfl fun w F opn gx => ?_
 obtain ⟨b, bad⟩ := r
 cases bad with
 | true =>
  have e : rtake ⟨b, true⟩ n = (List.replicate n 0, ⟨b, true⟩) := if_pos (.inl rfl)
  simp only [e, encR]
  repeat' first | refine Go.seq ?_ | refine Go.region rfl ?_ | refine Ops.nil ?_ | refine Ops.val eF rfl rfl Zw (Hop.nilC rfl rfl) ?_ | refine Ops.makeOwn (z := 1) (enc := encB) eF 1 (0 : UInt8) rfl rfl Zw rfl rfl rfl rfl rfl rfl rfl rfl (fun _ => rfl) rfl rfl rfl rfl hn0 (by omega) Zi rfl rfl rfl rfl ?_ | refine Ops.frzMv eF 4 rfl rfl rfl Zw Z1 rfl Zi rfl rfl rfl rfl ?_ | refine Ops.val eF rfl rfl Zw (by first | exact Z1 | exact Z2 | exact Z4 | exact Z5) ?_ | refine Ops.skip rfl rfl Zn ?_ | refine Ops.unit eF rfl Zw (Hop.store eF rfl rfl rfl rfl rfl rfl) (ArrKeep.put rfl) ?_ | refine Go.condT rfl ?_ | refine Go.retM rfl rfl ?_ ?_ rfl
  ·show AV.rsl n 1 _ = AV.rsl _ 1 _
   rw [List.length_replicate]
  ·exact ⟨⟨_, rfl, rfl, rfl, rfl, rfl⟩, trivial⟩
 | false =>
  by_cases c : (b.length : Int) < (n : Int)
  ·have e : rtake ⟨b, false⟩ n = (List.replicate n 0, ⟨b, true⟩) := if_pos (.inr (by show b.length < n; omega))
   simp only [e, encR]
   repeat' first | refine Go.seq ?_ | refine Go.region rfl ?_ | refine Ops.nil ?_ | refine Ops.val eF rfl rfl Zw (Hop.nilC rfl rfl) ?_ | refine Ops.makeOwn (z := 1) (enc := encB) eF 1 (0 : UInt8) rfl rfl Zw rfl rfl rfl rfl rfl rfl rfl rfl (fun _ => rfl) rfl rfl rfl rfl hn0 (by omega) Zi rfl rfl rfl rfl ?_ | refine Ops.frzMv eF 4 rfl rfl rfl Zw Z1 rfl Zi rfl rfl rfl rfl ?_ | refine Ops.val eF rfl rfl Zw (by first | exact Z1 | exact Z2 | exact Z3 | exact Z4 | exact Z5 | exact Z6) ?_ | refine Ops.unit eF rfl Zw (Hop.store eF rfl rfl rfl rfl rfl rfl) (ArrKeep.put rfl) ?_ | refine Go.condTt rfl Za ?_ | refine Go.retM rfl rfl ?_ ?_ rfl
   ·show AV.rsl n 1 _ = AV.rsl _ 1 _
    rw [List.length_replicate]
   ·exact ⟨⟨_, rfl, rfl, rfl, rfl, rfl⟩, trivial⟩
  ·have e : rtake ⟨b, false⟩ n = (b.take n, ⟨b.drop n, false⟩) := if_neg (fun q => q.elim (fun q => by cases q) (fun q => by have q : b.length < n := q; omega))
   simp only [e, encR]
   repeat' first | refine Go.seq ?_ | refine Go.region rfl ?_ | refine Ops.nil ?_ | refine Ops.val eF rfl rfl Zw (Hop.nilC rfl rfl) ?_ | refine Ops.val eF rfl rfl Zw (by first | exact Z1 | exact Z2 | exact Z3 | exact Z4 | exact Z5 | exact Z6 | exact Y41 | exact Y42) ?_ | refine Ops.unit eF rfl Zw (Hop.store eF rfl rfl rfl rfl rfl rfl) (ArrKeep.put rfl) ?_ | refine Go.condFt rfl Za ?_ | refine Go.skip ?_ | refine Go.retM rfl rfl ?_ ?_ rfl
   ·rfl
   ·exact ⟨⟨_, rfl, rfl, rfl, rfl, rfl⟩, trivial⟩
end Go.Px.Fe
end
section
set_option maxHeartbeats 4000000
set_option maxRecDepth 20000
namespace Go.Px.Fe
open Go.Proofs Go.Px.Fs
attribute [local irreducible] Go.Px.KOk
theorem m108 (r : Rd) (hb : r.b.length ≤ 100000000) : KM cF 108 [.row 140 (encR r)] [.ptr 0 0] (.int .i64 (num8 (rtake r 8).1)) [.row 140 (encR (rtake r 8).2)] := by
 have k1 := m126 r 8 (by decide) hb
 have hl := rtake_len r 8
 have ht : (rtake r 8).1.take 8 = (rtake r 8).1 := List.take_of_length_le (by omega)
 refine KM.of (N := 1) (ab := [.row ⟨140, 2, .leaf, encR r, none⟩]) (gv := [.ptr 0 0]) cF_ok eF.g Try.func108 rfl rfl rfl rfl (Nat.le_of_ble_eq_true rfl) rfl rfl rfl rfl rfl rfl fun w F opn gx => ?_
 generalize (rtake r 8).1 = l at *
 generalize (rtake r 8).2 = r2 at *
 repeat' first | refine Go.seq ?_ | refine Go.region rfl ?_ | refine Ops.nil ?_ | refine Ops.callM (v' := bysA l) (ab := [.row ⟨140, 2, .leaf, encR r2, none⟩]) eF [0] 1 Zw rfl rfl rfl rfl (k1) rfl (wk_eq rfl) rfl Zb Zo rfl rfl rfl rfl rfl rfl rfl ?_ | refine Ops.val eF rfl rfl Zw (by first | exact Z1 | exact Z6) ?_ | refine Go.block ?_
 refine Go.toHQ (N := 1) (bs := [.row ⟨140, 2, .leaf, encR r2, none⟩]) (L' := [(3, .int .u64 (valN (l.take 0) : Nat)), (7, bysA l), (8, .int .i64 l.length), (9, .int .i64 0)]) ?_ rfl eF.g Zt rfl rfl ⟨.inr rfl, trivial⟩ Zl rfl rfl
 refine Go.loop (fun i : Nat => [(3, .int .u64 (valN (l.take i) : Nat)), (7, bysA l), (8, .int .i64 l.length), (9, .int .i64 i)]) (fun i => hq 1 [.row ⟨140, 2, .leaf, encR r2, none⟩]) (fun i => i ≤ 8) (fun i => 8 - i) 0 (Nat.zero_le _) Zt rfl (fun i hi ih => ?_)
 have hv : (l.take i).length ≤ i := by rw [List.length_take]; omega
 have hv8 := valN_lt8 (l := l.take i) (by omega)
 by_cases c0 : (i : Int) < (l.length : Int)
 ·have hlt : i < l.length := by omega
  have hv7 := valN_lt7 (l := l.take i) (by omega)
  have g := ih (i + 1) (by omega) (by omega)
  rw [take_at hlt, valN_snoc] at g
  have hc := (l.getD (i : Int).toNat default).toNat_lt
  repeat' first | refine Go.seq ?_ | refine Go.region rfl ?_ | refine Ops.nil ?_ | refine Ops.val eF rfl rfl Zw (by first | exact Hop.addUs rfl rfl rfl (by omega) | exact Hop.addU rfl rfl rfl | exact Hop.subU rfl rfl rfl | exact Hop.mulU rfl rfl rfl | exact Hop.quoU rfl rfl rfl rfl (by omega) | exact Hop.remU rfl rfl rfl rfl (by omega) | exact Hop.xorT rfl rfl rfl (by omega) | exact Hop.orB rfl rfl rfl (by omega) (by omega) (by omega) | exact Hop.shl8 rfl rfl rfl (by omega) | exact Hop.shrN rfl rfl rfl (by omega) (by omega) | exact Hop.conv eF rfl rfl rfl rfl rfl (wr_u64 (by omega)) | exact Hop.convU64 eF rfl rfl rfl rfl rfl | exact Y20 | exact Hop.convI64 eF rfl rfl rfl rfl rfl (by omega) | exact Hop.convU8 eF rfl rfl rfl rfl rfl) ?_ | refine Ops.val eF rfl rfl Zw (by first | exact Z1 | exact Z3 | exact Y14 | exact Y24 | exact Z5) ?_ | refine Go.condTt rfl Za ?_ | refine Go.block ?_ | refine Go.unblk ?_ | refine Go.skip ?_
  try simp only [Int.toNat_natCast] at *
  refine Go.to g ⟨?_, rfl, rfl, rfl, trivial⟩
  show some (AV.int .u64 (((valN (l.take i) : Nat) : Int) * 256 % 18446744073709551616 + ((l.getD i default).toNat : Int))) = _
  refine congrArg (fun z => some (AV.int .u64 z)) ?_
  omega
 ·have ei : i = 8 := by omega
  subst ei
  rw [ht] at *
  repeat' first | refine Go.seq ?_ | refine Go.region rfl ?_ | refine Ops.nil ?_ | refine Ops.val eF rfl rfl Zw (by first | exact Hop.addUs rfl rfl rfl (by omega) | exact Hop.addU rfl rfl rfl | exact Hop.subU rfl rfl rfl | exact Hop.mulU rfl rfl rfl | exact Hop.quoU rfl rfl rfl rfl (by omega) | exact Hop.remU rfl rfl rfl rfl (by omega) | exact Hop.xorT rfl rfl rfl (by omega) | exact Hop.orB rfl rfl rfl (by omega) (by omega) (by omega) | exact Hop.shl8 rfl rfl rfl (by omega) | exact Hop.shrN rfl rfl rfl (by omega) (by omega) | exact Hop.conv eF rfl rfl rfl rfl rfl (wr_u64 (by omega)) | exact Hop.convU64 eF rfl rfl rfl rfl rfl | exact Y20 | exact Hop.convI64 eF rfl rfl rfl rfl rfl (by omega) | exact Hop.convU8 eF rfl rfl rfl rfl rfl) ?_ | refine Ops.val eF rfl rfl Zw (by first | exact Z1 | exact Z3) ?_ | refine Go.condFt rfl Za ?_ | refine Go.exit rfl ?_ | refine Go.retM rfl rfl ?_ ?_ rfl
  ·rfl
  ·exact ⟨⟨_, rfl, rfl, rfl, rfl, rfl⟩, trivial⟩
end Go.Px.Fe
end
section
set_option maxHeartbeats 4000000
set_option maxRecDepth 20000
namespace Go.Px.Fe
open Go.Proofs Go.Px.Fs
attribute [local irreducible] Go.Px.KOk
def rtxt : Str → Str × Rd
 | [] => ([], ⟨[], true⟩)
 | c :: r => if c.toNat ≠ 0 then (c :: (rtxt r).1, (rtxt r).2) else match r with
  | [] => ([], ⟨[], true⟩)
  | d :: r' => if d.toNat = 1 then ([], ⟨r', false⟩) else if d.toNat = 255 then (0 :: (rtxt r').1, (rtxt r').2) else ([], ⟨r', true⟩)
def txtOf (r : Rd) : Str × Rd := if r.bad = true then ([], r) else rtxt r.b
theorem rtxt_le : ∀ b : Str, (rtxt b).1.length ≤ b.length ∧ (rtxt b).2.b.length ≤ b.length
 | [] => by simp [rtxt]
 | [c] => by
  unfold rtxt
  split
  ·simp [rtxt]
  ·simp
 | c :: d :: r => by
  have h1 := rtxt_le (d :: r)
  have h2 := rtxt_le r
  unfold rtxt
  split
  ·simp only [List.length_cons] at *; omega
  ·simp only []
   split
   ·simp; omega
   ·split
    ·simp only [List.length_cons] at *; omega
    ·simp; omega
theorem i01 : (0 : Int) ≤ 0 ∧ (0 : Int) < ((1 : Nat) : Int) := by decide
theorem t_bad (b : Str) (hb : b.length ≤ 100000) : KM cF 126 [.row 140 (encR ⟨b, true⟩)] [.ptr 0 0, .int .i64 1] (bysA [0]) [.row 140 (encR ⟨b, true⟩)] := by
 have := m126 ⟨b, true⟩ 1 (by decide) (by show b.length ≤ _; omega)
 rwa [show rtake ⟨b, true⟩ 1 = ([0], ⟨b, true⟩) from if_pos (.inl rfl)] at this
theorem t_nil : KM cF 126 [.row 140 (encR ⟨[], false⟩)] [.ptr 0 0, .int .i64 1] (bysA [0]) [.row 140 (encR ⟨[], true⟩)] := by
 have := m126 ⟨[], false⟩ 1 (by decide) (by decide)
 rwa [show rtake ⟨[], false⟩ 1 = ([0], ⟨[], true⟩) from if_pos (.inr (by decide))] at this
theorem t_cons (c : UInt8) (b : Str) (hb : b.length ≤ 100000) : KM cF 126 [.row 140 (encR ⟨c :: b, false⟩)] [.ptr 0 0, .int .i64 1] (bysA [c]) [.row 140 (encR ⟨b, false⟩)] := by
 have := m126 ⟨c :: b, false⟩ 1 (by decide) (by show b.length + 1 ≤ _; omega)
 rwa [show rtake ⟨c :: b, false⟩ 1 = ([c], ⟨b, false⟩) from if_neg (fun q => q.elim (fun q => by cases q) (fun q => by have q : b.length + 1 < 1 := q; omega))] at this
theorem rtxt_c {c : UInt8} {r : Str} (h : c.toNat ≠ 0) : rtxt (c :: r) = (c :: (rtxt r).1, (rtxt r).2) := by
 cases r <;> (conv => lhs; unfold rtxt) <;> rw [if_pos h]
theorem rtxt_0 {c : UInt8} (h : c.toNat = 0) : rtxt [c] = ([], ⟨[], true⟩) := by unfold rtxt; rw [if_neg (by omega)]
theorem rtxt_1 {c d : UInt8} {r : Str} (h : c.toNat = 0) (k : d.toNat = 1) : rtxt (c :: d :: r) = ([], ⟨r, false⟩) := by unfold rtxt; rw [if_neg (by omega)]; simp only []; rw [if_pos k]
theorem rtxt_255 {c d : UInt8} {r : Str} (h : c.toNat = 0) (k : d.toNat = 255) : rtxt (c :: d :: r) = (0 :: (rtxt r).1, (rtxt r).2) := by
 rw [rtxt.eq_def]; simp only []; rw [if_neg (by omega), if_neg (by omega), if_pos k]
theorem rtxt_n {c d : UInt8} {r : Str} (h : c.toNat = 0) (k1 : d.toNat ≠ 1) (k : d.toNat ≠ 255) : rtxt (c :: d :: r) = ([], ⟨r, true⟩) := by
 rw [rtxt.eq_def]; simp only []; rw [if_neg (by omega), if_neg k1, if_neg k]
theorem m127 (r : Rd) (hb : r.b.length ≤ 100000) : KM cF 127 [.row 140 (encR r)] [.ptr 0 0] (sA (txtOf r).1) [.row 140 (encR (txtOf r).2)] := by
 refine KM.of (N := 1) (ab := [.row ⟨140, 2, .leaf, encR r, none⟩]) (gv := [.ptr 0 0]) cF_ok eF.g Try.func127 rfl rfl rfl rfl (Nat.le_of_ble_eq_true rfl) rfl rfl rfl rfl rfl rfl fun w F opn gx => ?_
 refine Go.seq ?_
 repeat' first | refine Go.seq ?_ | refine Go.region rfl ?_ | refine Ops.nil ?_ | refine Ops.val eF rfl rfl Zw Z1 ?_ | refine Go.block ?_ | refine Go.scope ?_ | refine Go.label ?_
 refine Go.change (Chg.tokAt 1 3 5 1 rfl rfl) ?_
 refine Go.toHQ (N := 2) (bs := [.row ⟨140, 2, .leaf, encR r, none⟩, .arr 5 1 0 []]) (L' := [(0, .ptr 0 0), (3, .own 1 0 1)]) ?_ rfl eF.g Zt rfl rfl Zg Zl rfl rfl
 refine Go.loop (fun q : Str × Rd => [(0, .ptr 0 0), (3, .own 1 q.1.length 1)]) (fun q => hq 2 [.row ⟨140, 2, .leaf, encR q.2, none⟩, .arr 5 1 q.1.length (q.1.flatMap encB)]) (fun q => txtOf r = (q.1 ++ (txtOf q.2).1, (txtOf q.2).2) ∧ q.1.length + q.2.b.length ≤ 100000) (fun q => 2 * q.2.b.length + (bif q.2.bad then 0 else 1)) ([], r) ⟨rfl, by simpa using hb⟩ Zt rfl (fun q hP ih => ?_)
 obtain ⟨out, b, bad⟩ := q
 obtain ⟨hP, hL⟩ := hP
 simp only at hP hL
 cases bad with
 | true =>
  simp only [hP, show txtOf ⟨b, true⟩ = ([], ⟨b, true⟩) from if_pos rfl, List.append_nil, encR]
  repeat' first | refine Go.seq ?_ | refine Go.region rfl ?_ | refine Ops.nil ?_ | refine Ops.val eF rfl rfl Zw (Hop.nilC rfl rfl) ?_ | refine Ops.frzMv eF 34 rfl rfl rfl Zw Z1 rfl Zi rfl rfl rfl rfl ?_ | refine Ops.val eF rfl rfl Zw Zs ?_ | refine Ops.val eF rfl rfl Zw (by first | exact Z1 | exact Z2 | exact Z4 | exact Z5) ?_ | refine Go.condF rfl ?_ | refine Go.exit rfl ?_ | refine Go.retM rfl rfl ?_ ?_ rfl
  ·rfl
  ·exact ⟨⟨_, rfl, rfl, rfl, rfl, rfl⟩, trivial⟩
 | false =>
  have hP : txtOf r = (out ++ (rtxt b).1, (rtxt b).2) := hP
  cases b with
  | nil =>
   have g := ih (out, ⟨[], true⟩) ⟨hP, by simpa using hL⟩ (by show 0 < 1; decide)
   have k1 := t_nil
   have k2 := t_bad [] (by decide)
   simp only [encR] at g k1 k2 ⊢
   repeat' first | refine Go.seq ?_ | refine Go.region rfl ?_ | refine Ops.nil ?_ | refine Go.condNp rfl Za ?_ | refine Ops.val eF rfl rfl Zw (Hop.nilC rfl rfl) ?_ | refine Ops.callM (v' := bysA _) (ab := [.row ⟨140, 2, .leaf, _, none⟩]) eF [0] 2 Zw rfl rfl rfl rfl (k1) rfl (wk_eq rfl) rfl Zb Zo rfl rfl rfl rfl rfl rfl rfl ?_ | refine Ops.callM (v' := bysA _) (ab := [.row ⟨140, 2, .leaf, _, none⟩]) eF [0] 2 Zw rfl rfl rfl rfl (k2) rfl (wk_eq rfl) rfl Zb Zo rfl rfl rfl rfl rfl rfl rfl ?_ | refine Ops.val eF rfl rfl Zw (Hop.idx (enc := encB) eF rfl rfl rfl rfl rfl rfl rfl (fun _ => rfl) i01) ?_ | refine Ops.val eF rfl rfl Zw (by first | exact Z1 | exact Z2 | exact Z3 | exact Z4 | exact Z5) ?_ | refine Ops.unit eF rfl Zw (Hop.store eF rfl rfl rfl rfl rfl rfl) (ArrKeep.put rfl) ?_ | refine Go.condT rfl ?_ | refine Go.condFt rfl Za ?_ | refine Go.block ?_ | refine Go.unblk ?_ | refine Go.skip ?_
   exact Go.toQ g rfl eF.g Zt rfl rfl Zg Zl rfl rfl
  | cons c b =>
   have hb : b.length ≤ 100000 := by simp only [List.length_cons] at hL; omega
   have k1 := t_cons c b hb
   by_cases hc : (([c].getD (Int.toNat 0) default).toNat : Int) = 0
   ·have hc' : (c.toNat : Int) = 0 := hc
    cases b with
    | nil =>
     rw [rtxt_0 (by omega)] at hP
     have g := ih (out, ⟨[], true⟩) ⟨hP, by simp only [List.length_cons, List.length_nil] at *; omega⟩ (by simp)
     have k2 := t_nil
     have k3 := t_bad [] (by decide)
     simp only [encR] at g k1 k2 k3 ⊢
     repeat' first | refine Go.seq ?_ | refine Go.region rfl ?_ | refine Ops.nil ?_ | refine Go.condNp rfl Za ?_ | refine Ops.val eF rfl rfl Zw (Hop.nilC rfl rfl) ?_ | refine Ops.callM (v' := bysA _) (ab := [.row ⟨140, 2, .leaf, _, none⟩]) eF [0] 2 Zw rfl rfl rfl rfl (k1) rfl (wk_eq rfl) rfl Zb Zo rfl rfl rfl rfl rfl rfl rfl ?_ | refine Ops.callM (v' := bysA _) (ab := [.row ⟨140, 2, .leaf, _, none⟩]) eF [0] 2 Zw rfl rfl rfl rfl (k2) rfl (wk_eq rfl) rfl Zb Zo rfl rfl rfl rfl rfl rfl rfl ?_ | refine Ops.val eF rfl rfl Zw (Hop.idx (enc := encB) eF rfl rfl rfl rfl rfl rfl rfl (fun _ => rfl) i01) ?_ | refine Ops.val eF rfl rfl Zw (by first | exact Z1 | exact Z2 | exact Z3 | exact Z4 | exact Z5) ?_ | refine Ops.unit eF rfl Zw (Hop.store eF rfl rfl rfl rfl rfl rfl) (ArrKeep.put rfl) ?_ | refine Go.condT rfl ?_ | refine Go.condFt rfl Za ?_ | refine Go.block ?_ | refine Go.unblk ?_ | refine Go.skip ?_
     exact Go.toQ g rfl eF.g Zt rfl rfl Zg Zl rfl rfl
    | cons d b =>
     have k2 := t_cons d b (by simp only [List.length_cons] at hb; omega)
     by_cases h1 : (([d].getD (Int.toNat 0) default).toNat : Int) = 1
     ·have h1' : (d.toNat : Int) = 1 := h1
      rw [rtxt_1 (by omega) (by omega)] at hP
      simp only [hP, encR, List.append_nil] at k1 k2 ⊢
      repeat' first | refine Go.seq ?_ | refine Go.region rfl ?_ | refine Ops.nil ?_ | refine Go.condNp rfl Za ?_ | refine Ops.val eF rfl rfl Zw (Hop.nilC rfl rfl) ?_ | refine Ops.callM (v' := bysA _) (ab := [.row ⟨140, 2, .leaf, _, none⟩]) eF [0] 2 Zw rfl rfl rfl rfl (k1) rfl (wk_eq rfl) rfl Zb Zo rfl rfl rfl rfl rfl rfl rfl ?_ | refine Ops.callM (v' := bysA _) (ab := [.row ⟨140, 2, .leaf, _, none⟩]) eF [0] 2 Zw rfl rfl rfl rfl (k2) rfl (wk_eq rfl) rfl Zb Zo rfl rfl rfl rfl rfl rfl rfl ?_ | refine Ops.val eF rfl rfl Zw (Hop.idx (enc := encB) eF rfl rfl rfl rfl rfl rfl rfl (fun _ => rfl) i01) ?_ | refine Ops.frzMv eF 34 rfl rfl rfl Zw Z1 rfl Zi rfl rfl rfl rfl ?_ | refine Ops.val eF rfl rfl Zw Zs ?_ | refine Ops.val eF rfl rfl Zw (by first | exact Z1 | exact Z2 | exact Z3 | exact Z4 | exact Z5) ?_ | refine Go.condT rfl ?_ | refine Go.condTt rfl Za ?_ | refine Go.block ?_ | refine Go.skip ?_ | refine Go.exit rfl ?_ | refine Go.retM rfl rfl ?_ ?_ rfl
      ·rfl
      ·exact ⟨⟨_, rfl, rfl, rfl, rfl, rfl⟩, trivial⟩
     ·have h1' : ¬ (d.toNat : Int) = 1 := h1
      by_cases h2 : (([d].getD (Int.toNat 0) default).toNat : Int) = 255
      ·have h2' : (d.toNat : Int) = 255 := h2
       rw [rtxt_255 (by omega) (by omega)] at hP
       have g := ih (out ++ [0], ⟨b, false⟩) ⟨by rw [hP, List.append_assoc]; rfl, by simp only [List.length_cons, List.length_append, List.length_nil] at *; omega⟩ (by simp <;> omega)
       simp only [encR, List.length_append, List.flatMap_append, List.flatMap_cons, List.flatMap_nil, List.append_nil] at g k1 k2 ⊢
       repeat' first | refine Go.seq ?_ | refine Go.region rfl ?_ | refine Ops.nil ?_ | refine Go.condNp rfl Za ?_ | refine Ops.val eF rfl rfl Zw (Hop.nilC rfl rfl) ?_ | refine Ops.callM (v' := bysA _) (ab := [.row ⟨140, 2, .leaf, _, none⟩]) eF [0] 2 Zw rfl rfl rfl rfl (k1) rfl (wk_eq rfl) rfl Zb Zo rfl rfl rfl rfl rfl rfl rfl ?_ | refine Ops.callM (v' := bysA _) (ab := [.row ⟨140, 2, .leaf, _, none⟩]) eF [0] 2 Zw rfl rfl rfl rfl (k2) rfl (wk_eq rfl) rfl Zb Zo rfl rfl rfl rfl rfl rfl rfl ?_ | refine Ops.val eF rfl rfl Zw (Hop.idx (enc := encB) eF rfl rfl rfl rfl rfl rfl rfl (fun _ => rfl) i01) ?_ | refine Ops.val eF rfl rfl Zw (by first | exact Z1 | exact Z2 | exact Z3 | exact Z4 | exact Z5) ?_ | refine Ops.data eF rfl rfl Zw rfl (Hop.bslice eF rfl rfl rfl rfl rfl rfl rfl rfl rfl rfl rfl) rfl rfl ?_ | refine Ops.appendE eF rfl rfl Zw rfl rfl rfl rfl rfl rfl rfl rfl rfl rfl rfl rfl rfl rfl rfl rfl Zi rfl rfl rfl rfl rfl Zz (by omega) ?_ | refine Go.condT rfl ?_ | refine Go.condTt rfl Za ?_ | refine Go.condFt rfl Za ?_ | refine Go.block ?_ | refine Go.unblk ?_ | refine Go.skip ?_
       exact Go.toQ g rfl eF.g Zt rfl rfl Zg Zl rfl rfl
      ·have h2' : ¬ (d.toNat : Int) = 255 := h2
       rw [rtxt_n (by omega) (by omega) (by omega)] at hP
       have g := ih (out, ⟨b, true⟩) ⟨hP, by simp only [List.length_cons] at *; omega⟩ (by simp <;> omega)
       simp only [encR] at g k1 k2 ⊢
       repeat' first | refine Go.seq ?_ | refine Go.region rfl ?_ | refine Ops.nil ?_ | refine Go.condNp rfl Za ?_ | refine Ops.val eF rfl rfl Zw (Hop.nilC rfl rfl) ?_ | refine Ops.callM (v' := bysA _) (ab := [.row ⟨140, 2, .leaf, _, none⟩]) eF [0] 2 Zw rfl rfl rfl rfl (k1) rfl (wk_eq rfl) rfl Zb Zo rfl rfl rfl rfl rfl rfl rfl ?_ | refine Ops.callM (v' := bysA _) (ab := [.row ⟨140, 2, .leaf, _, none⟩]) eF [0] 2 Zw rfl rfl rfl rfl (k2) rfl (wk_eq rfl) rfl Zb Zo rfl rfl rfl rfl rfl rfl rfl ?_ | refine Ops.val eF rfl rfl Zw (Hop.idx (enc := encB) eF rfl rfl rfl rfl rfl rfl rfl (fun _ => rfl) i01) ?_ | refine Ops.val eF rfl rfl Zw (by first | exact Z1 | exact Z2 | exact Z3 | exact Z4 | exact Z5) ?_ | refine Ops.unit eF rfl Zw (Hop.store eF rfl rfl rfl rfl rfl rfl) (ArrKeep.put rfl) ?_ | refine Go.condT rfl ?_ | refine Go.condFt rfl Za ?_ | refine Go.block ?_ | refine Go.unblk ?_ | refine Go.skip ?_
       exact Go.toQ g rfl eF.g Zt rfl rfl Zg Zl rfl rfl
   ·have hc' : ¬ (c.toNat : Int) = 0 := hc
    rw [rtxt_c (by omega)] at hP
    have g := ih (out ++ [c], ⟨b, false⟩) ⟨by rw [hP, List.append_assoc]; rfl, by simp only [List.length_cons, List.length_append, List.length_nil] at *; omega⟩ (by simp <;> omega)
    simp only [encR, List.length_append, List.flatMap_append, List.flatMap_cons, List.flatMap_nil, List.append_nil] at g k1 ⊢
    repeat' first | refine Go.seq ?_ | refine Go.region rfl ?_ | refine Ops.nil ?_ | refine Go.condNn rfl Za ?_ | refine Ops.val eF rfl rfl Zw (Hop.nilC rfl rfl) ?_ | refine Ops.callM (v' := bysA _) (ab := [.row ⟨140, 2, .leaf, _, none⟩]) eF [0] 2 Zw rfl rfl rfl rfl (k1) rfl (wk_eq rfl) rfl Zb Zo rfl rfl rfl rfl rfl rfl rfl ?_ | refine Ops.val eF rfl rfl Zw (Hop.idx (enc := encB) eF rfl rfl rfl rfl rfl rfl rfl (fun _ => rfl) i01) ?_ | refine Ops.val eF rfl rfl Zw (by first | exact Z1 | exact Z2 | exact Z3 | exact Z4 | exact Z5) ?_ | refine Ops.data eF rfl rfl Zw rfl (Hop.bslice eF rfl rfl rfl rfl rfl rfl rfl rfl rfl rfl rfl) rfl rfl ?_ | refine Ops.appendE eF rfl rfl Zw rfl rfl rfl rfl rfl rfl rfl rfl rfl rfl rfl rfl rfl rfl rfl rfl Zi rfl rfl rfl rfl rfl Zz (by omega) ?_ | refine Go.condT rfl ?_ | refine Go.block ?_ | refine Go.skip ?_ | refine Go.exit rfl ?_
    exact Go.toQ g rfl eF.g Zt rfl rfl Zg Zl rfl rfl
end Go.Px.Fe
end
section
set_option maxHeartbeats 4000000
set_option maxRecDepth 20000
namespace Go.Px.Fe
open Go.Proofs Go.Px.Fs
attribute [local irreducible] Go.Px.KOk
def rbody (c : UInt8) (r : Rd) : Va × Rd :=
 if (c.toNat : Int) = 2 then (⟨c.toNat, ((rtake r 1).1.getD 0 default).toNat, []⟩, (rtake r 1).2)
 else if txtK c.toNat then (⟨c.toNat, 0, (txtOf r).1⟩, (txtOf r).2)
 else (⟨c.toNat, num8 (rtake r 8).1, []⟩, (rtake r 8).2)
def rval (r : Rd) : Va × Rd := rbody ((rtake r 1).1.getD 0 default) (rtake r 1).2
noncomputable def rvalC (r : Rd) : Rd := ⟨(rval r).2.b, (rval r).2.bad || !bd (VaP (rval r).1)⟩
theorem txtOf_le (r : Rd) (h : r.b.length ≤ 100000) : (txtOf r).1.length ≤ 100000 := by
 unfold txtOf
 split
 ·simp
 ·exact Nat.le_trans (rtxt_le r.b).1 h
theorem one_of {l : Str} (h : l.length = 1) : ∃ c, l = [c] := by
 match l, h with
 | [c], _ => exact ⟨c, rfl⟩
theorem chkE (v : Va) : bd (VaP v) = bd ((bif bd (VaP v) then (0 : Int) else 10) = 0) := by
 by_cases h : VaP v
 ·rw [bd_of h]; exact (bd_of rfl).symm
 ·rw [bd_no h]; exact (bd_no (by decide)).symm
theorem m107 (r : Rd) (hb : r.b.length ≤ 100000) : KM cF 107 [.row 140 (encR r)] [.ptr 0 0] (.agg (encVa (rval r).1)) [.row 140 (encR (rvalC r))] := by
 have k1 := m126 r 1 (by decide) (by omega)
 obtain ⟨c, hc⟩ := one_of (rtake_len r 1)
 have hb1 := rtake_le r 1
 refine KM.of (N := 1) (ab := [.row ⟨140, 2, .leaf, encR r, none⟩]) (gv := [.ptr 0 0]) cF_ok eF.g Try.func107 rfl rfl rfl rfl (Nat.le_of_ble_eq_true rfl) rfl rfl rfl rfl rfl rfl fun w F opn gx => ?_
 unfold rvalC rval
 rw [hc] at k1 ⊢
 simp only [List.getD_cons_zero]
 generalize (rtake r 1).2 = r1 at *
 have hcl := ([c].getD (Int.toNat 0) default).toNat_lt
 by_cases h2 : (([c].getD (Int.toNat 0) default).toNat : Int) = 2
 ·have e : rbody c r1 = (⟨c.toNat, ((rtake r1 1).1.getD 0 default).toNat, []⟩, (rtake r1 1).2) := if_pos h2
  have k2 := m126 r1 1 (by decide) (by omega)
  obtain ⟨d, hd⟩ := one_of (rtake_len r1 1)
  rw [hd] at k2 e
  rw [e]
  simp only [List.getD_cons_zero]
  generalize (rtake r1 1).2 = r2 at *
  have hdl := ([d].getD (Int.toNat 0) default).toNat_lt
  have k3 := k49 ⟨c.toNat, d.toNat, []⟩ (by first | exact Nat.zero_le _ | exact hl)
  have ev := chkE ⟨c.toNat, d.toNat, []⟩
  rw [ev]
  generalize (bif bd (VaP ⟨c.toNat, d.toNat, []⟩) then (0 : Int) else 10) = x at *
  obtain ⟨b2, bad2⟩ := r2
  cases bad2 with
  | true =>
   simp only [encR, Bool.true_or] at k2 ⊢
   repeat' first | refine Go.seq ?_ | refine Go.region rfl ?_ | refine Ops.nil ?_ | refine Ops.val eF rfl rfl Zw (Hop.nilC rfl rfl) ?_ | refine Ops.callM (v' := bysA [c]) (ab := [.row ⟨140, 2, .leaf, encR r1, none⟩]) eF [0] 2 Zw rfl rfl rfl rfl (k1) rfl (wk_eq rfl) rfl Zb Zo rfl rfl rfl rfl rfl rfl rfl ?_ | refine Ops.callM (v' := bysA [d]) (ab := [.row ⟨140, 2, .leaf, _, none⟩]) eF [0] 3 Zw rfl rfl rfl rfl (k2) rfl (wk_eq rfl) rfl Zb Zo rfl rfl rfl rfl rfl rfl rfl ?_ | refine Ops.val eF rfl rfl Zw (Hop.idx (enc := encB) eF rfl rfl rfl rfl rfl rfl rfl (fun _ => rfl) i01) ?_ | refine Ops.val eF rfl rfl Zw (by first | exact Z1 | exact Z2 | exact Z3 | exact Y20 | exact Z4 | exact Z5 | exact Y36) ?_ | refine Ops.skip rfl rfl Zn ?_ | refine Ops.rowAt eF 1 rfl rfl Zw rfl (Hop.alloc eF rfl rfl rfl) ?_ | refine Ops.rowAt eF 2 rfl rfl Zw rfl (Hop.alloc eF rfl rfl rfl) ?_ | refine Ops.unit eF rfl Zw (Hop.store eF rfl rfl rfl rfl rfl rfl) (ArrKeep.put rfl) ?_ | refine Go.condTt rfl Za ?_ | refine Go.block ?_ | refine Go.unblk ?_
   all_goals first
    | exact Go.retMc [_] rfl ⟨Hop.ldPG eF rfl rfl rfl rfl rfl rfl rfl, trivial⟩ rfl ⟨⟨_, rfl, rfl, rfl, rfl, rfl⟩, trivial⟩ rfl
    | (exfalso; rcases ht with q | q | q <;> exact absurd q (by assumption))
  | false =>
   simp only [encR, Bool.false_or] at k2 ⊢
   repeat' first | refine Go.seq ?_ | refine Go.region rfl ?_ | refine Ops.nil ?_ | refine Ops.val eF rfl rfl Zw (Hop.nilC rfl rfl) ?_ | refine Ops.callM (v' := bysA [c]) (ab := [.row ⟨140, 2, .leaf, encR r1, none⟩]) eF [0] 2 Zw rfl rfl rfl rfl (k1) rfl (wk_eq rfl) rfl Zb Zo rfl rfl rfl rfl rfl rfl rfl ?_ | refine Ops.callM (v' := bysA [d]) (ab := [.row ⟨140, 2, .leaf, _, none⟩]) eF [0] 3 Zw rfl rfl rfl rfl (k2) rfl (wk_eq rfl) rfl Zb Zo rfl rfl rfl rfl rfl rfl rfl ?_ | refine Ops.val eF rfl rfl Zw (Hop.idx (enc := encB) eF rfl rfl rfl rfl rfl rfl rfl (fun _ => rfl) i01) ?_ | refine Ops.val eF rfl rfl Zw (by first | exact Z1 | exact Z2 | exact Z3 | exact Y20 | exact Z4 | exact Z5 | exact Y36) ?_ | refine Ops.call eF rfl rfl Zw rfl rfl rfl rfl (k3) rfl ?_ | refine Ops.rowAt eF 1 rfl rfl Zw rfl (Hop.alloc eF rfl rfl rfl) ?_ | refine Ops.rowAt eF 2 rfl rfl Zw rfl (Hop.alloc eF rfl rfl rfl) ?_ | refine Ops.unit eF rfl Zw (Hop.store eF rfl rfl rfl rfl rfl rfl) (ArrKeep.put rfl) ?_ | refine Go.condTt rfl Za ?_ | refine Go.block ?_ | refine Go.unblk ?_
   all_goals first
    | exact Go.retMc [_] rfl ⟨Hop.ldPG eF rfl rfl rfl rfl rfl rfl rfl, trivial⟩ rfl ⟨⟨_, rfl, rfl, rfl, rfl, rfl⟩, trivial⟩ rfl
    | (exfalso; rcases ht with q | q | q <;> exact absurd q (by assumption))
 ·by_cases ht : txtK c.toNat
  ·have e : rbody c r1 = (⟨c.toNat, 0, (txtOf r1).1⟩, (txtOf r1).2) := by
    unfold rbody; rw [if_neg (show ¬ (c.toNat : Int) = 2 from h2), if_pos ht]
   have k2 := m127 r1 (by omega)
   have hl := txtOf_le r1 (by omega)
   rw [e]
   simp only []
   generalize (txtOf r1).2 = r2 at *
   generalize (txtOf r1).1 = s at *
   have k3 := k49 ⟨c.toNat, 0, s⟩ (by first | exact Nat.zero_le _ | exact hl)
   have ev := chkE ⟨c.toNat, 0, s⟩
   rw [ev]
   generalize (bif bd (VaP ⟨c.toNat, 0, s⟩) then (0 : Int) else 10) = x at *
   obtain ⟨b2, bad2⟩ := r2
   cases bad2 with
   | true =>
    simp only [encR, Bool.true_or] at k2 ⊢
    repeat' first | refine Go.seq ?_ | refine Go.region rfl ?_ | refine Ops.nil ?_ | refine Ops.val eF rfl rfl Zw (Hop.nilC rfl rfl) ?_ | refine Ops.callM (v' := bysA [c]) (ab := [.row ⟨140, 2, .leaf, encR r1, none⟩]) eF [0] 2 Zw rfl rfl rfl rfl (k1) rfl (wk_eq rfl) rfl Zb Zo rfl rfl rfl rfl rfl rfl rfl ?_ | refine Ops.callM (v' := sA s) (ab := [.row ⟨140, 2, .leaf, _, none⟩]) eF [0] 3 Zw rfl rfl rfl rfl (k2) rfl (wk_eq rfl) rfl Zb Zo rfl rfl rfl rfl rfl rfl rfl ?_ | refine Ops.val eF rfl rfl Zw (Hop.idx (enc := encB) eF rfl rfl rfl rfl rfl rfl rfl (fun _ => rfl) i01) ?_ | refine Ops.val eF rfl rfl Zw (by first | exact Z1 | exact Z2 | exact Z3 | exact Y20 | exact Z4 | exact Z5 | exact Y36) ?_ | refine Ops.skip rfl rfl Zn ?_ | refine Ops.rowAt eF 1 rfl rfl Zw rfl (Hop.alloc eF rfl rfl rfl) ?_ | refine Ops.rowAt eF 2 rfl rfl Zw rfl (Hop.alloc eF rfl rfl rfl) ?_ | refine Ops.unit eF rfl Zw (Hop.store eF rfl rfl rfl rfl rfl rfl) (ArrKeep.put rfl) ?_ | refine Go.condT rfl ?_ | refine Go.condFt rfl Za ?_ | refine Go.condPt rfl (fun _ => ?_) (fun _ => ?_) | refine Go.block ?_ | refine Go.unblk ?_ | refine Go.skip ?_
    all_goals first
     | exact Go.retMc [_] rfl ⟨Hop.ldPG eF rfl rfl rfl rfl rfl rfl rfl, trivial⟩ rfl ⟨⟨_, rfl, rfl, rfl, rfl, rfl⟩, trivial⟩ rfl
     | (exfalso; rcases ht with q | q | q <;> exact absurd q (by assumption))
   | false =>
    simp only [encR, Bool.false_or] at k2 ⊢
    repeat' first | refine Go.seq ?_ | refine Go.region rfl ?_ | refine Ops.nil ?_ | refine Ops.val eF rfl rfl Zw (Hop.nilC rfl rfl) ?_ | refine Ops.callM (v' := bysA [c]) (ab := [.row ⟨140, 2, .leaf, encR r1, none⟩]) eF [0] 2 Zw rfl rfl rfl rfl (k1) rfl (wk_eq rfl) rfl Zb Zo rfl rfl rfl rfl rfl rfl rfl ?_ | refine Ops.callM (v' := sA s) (ab := [.row ⟨140, 2, .leaf, _, none⟩]) eF [0] 3 Zw rfl rfl rfl rfl (k2) rfl (wk_eq rfl) rfl Zb Zo rfl rfl rfl rfl rfl rfl rfl ?_ | refine Ops.val eF rfl rfl Zw (Hop.idx (enc := encB) eF rfl rfl rfl rfl rfl rfl rfl (fun _ => rfl) i01) ?_ | refine Ops.val eF rfl rfl Zw (by first | exact Z1 | exact Z2 | exact Z3 | exact Y20 | exact Z4 | exact Z5 | exact Y36) ?_ | refine Ops.call eF rfl rfl Zw rfl rfl rfl rfl (k3) rfl ?_ | refine Ops.rowAt eF 1 rfl rfl Zw rfl (Hop.alloc eF rfl rfl rfl) ?_ | refine Ops.rowAt eF 2 rfl rfl Zw rfl (Hop.alloc eF rfl rfl rfl) ?_ | refine Ops.unit eF rfl Zw (Hop.store eF rfl rfl rfl rfl rfl rfl) (ArrKeep.put rfl) ?_ | refine Go.condT rfl ?_ | refine Go.condFt rfl Za ?_ | refine Go.condPt rfl (fun _ => ?_) (fun _ => ?_) | refine Go.block ?_ | refine Go.unblk ?_ | refine Go.skip ?_
    all_goals first
     | exact Go.retMc [_] rfl ⟨Hop.ldPG eF rfl rfl rfl rfl rfl rfl rfl, trivial⟩ rfl ⟨⟨_, rfl, rfl, rfl, rfl, rfl⟩, trivial⟩ rfl
     | (exfalso; rcases ht with q | q | q <;> exact absurd q (by assumption))
  ·have e : rbody c r1 = (⟨c.toNat, num8 (rtake r1 8).1, []⟩, (rtake r1 8).2) := by
    unfold rbody; rw [if_neg (show ¬ (c.toNat : Int) = 2 from h2), if_neg ht]
   have k2 := m108 r1 (by omega)
   unfold txtK at ht
   have h3 : ¬ (([c].getD (Int.toNat 0) default).toNat : Int) = 3 := fun q => ht (.inl q)
   have h4 : ¬ (([c].getD (Int.toNat 0) default).toNat : Int) = 4 := fun q => ht (.inr (.inl q))
   have h7 : ¬ (([c].getD (Int.toNat 0) default).toNat : Int) = 7 := fun q => ht (.inr (.inr q))
   rw [e]
   simp only []
   generalize (rtake r1 8).2 = r2 at *
   generalize num8 (rtake r1 8).1 = y at *
   have k3 := k49 ⟨c.toNat, y, []⟩ (by first | exact Nat.zero_le _ | exact hl)
   have ev := chkE ⟨c.toNat, y, []⟩
   rw [ev]
   generalize (bif bd (VaP ⟨c.toNat, y, []⟩) then (0 : Int) else 10) = x at *
   obtain ⟨b2, bad2⟩ := r2
   cases bad2 with
   | true =>
    simp only [encR, Bool.true_or] at k2 ⊢
    repeat' first | refine Go.seq ?_ | refine Go.region rfl ?_ | refine Ops.nil ?_ | refine Ops.val eF rfl rfl Zw (Hop.nilC rfl rfl) ?_ | refine Ops.callM (v' := bysA [c]) (ab := [.row ⟨140, 2, .leaf, encR r1, none⟩]) eF [0] 2 Zw rfl rfl rfl rfl (k1) rfl (wk_eq rfl) rfl Zb Zo rfl rfl rfl rfl rfl rfl rfl ?_ | refine Ops.callM (v' := .int .i64 y) (ab := [.row ⟨140, 2, .leaf, _, none⟩]) eF [0] 3 Zw rfl rfl rfl rfl (k2) rfl (wk_eq rfl) rfl Zb Zo rfl rfl rfl rfl rfl rfl rfl ?_ | refine Ops.val eF rfl rfl Zw (Hop.idx (enc := encB) eF rfl rfl rfl rfl rfl rfl rfl (fun _ => rfl) i01) ?_ | refine Ops.val eF rfl rfl Zw (by first | exact Z1 | exact Z2 | exact Z3 | exact Y20 | exact Z4 | exact Z5 | exact Y36) ?_ | refine Ops.skip rfl rfl Zn ?_ | refine Ops.rowAt eF 1 rfl rfl Zw rfl (Hop.alloc eF rfl rfl rfl) ?_ | refine Ops.rowAt eF 2 rfl rfl Zw rfl (Hop.alloc eF rfl rfl rfl) ?_ | refine Ops.unit eF rfl Zw (Hop.store eF rfl rfl rfl rfl rfl rfl) (ArrKeep.put rfl) ?_ | refine Go.condFt rfl Za ?_ | refine Go.block ?_ | refine Go.unblk ?_
    all_goals first
     | exact Go.retMc [_] rfl ⟨Hop.ldPG eF rfl rfl rfl rfl rfl rfl rfl, trivial⟩ rfl ⟨⟨_, rfl, rfl, rfl, rfl, rfl⟩, trivial⟩ rfl
     | (exfalso; rcases ht with q | q | q <;> exact absurd q (by assumption))
   | false =>
    simp only [encR, Bool.false_or] at k2 ⊢
    repeat' first | refine Go.seq ?_ | refine Go.region rfl ?_ | refine Ops.nil ?_ | refine Ops.val eF rfl rfl Zw (Hop.nilC rfl rfl) ?_ | refine Ops.callM (v' := bysA [c]) (ab := [.row ⟨140, 2, .leaf, encR r1, none⟩]) eF [0] 2 Zw rfl rfl rfl rfl (k1) rfl (wk_eq rfl) rfl Zb Zo rfl rfl rfl rfl rfl rfl rfl ?_ | refine Ops.callM (v' := .int .i64 y) (ab := [.row ⟨140, 2, .leaf, _, none⟩]) eF [0] 3 Zw rfl rfl rfl rfl (k2) rfl (wk_eq rfl) rfl Zb Zo rfl rfl rfl rfl rfl rfl rfl ?_ | refine Ops.val eF rfl rfl Zw (Hop.idx (enc := encB) eF rfl rfl rfl rfl rfl rfl rfl (fun _ => rfl) i01) ?_ | refine Ops.val eF rfl rfl Zw (by first | exact Z1 | exact Z2 | exact Z3 | exact Y20 | exact Z4 | exact Z5 | exact Y36) ?_ | refine Ops.call eF rfl rfl Zw rfl rfl rfl rfl (k3) rfl ?_ | refine Ops.rowAt eF 1 rfl rfl Zw rfl (Hop.alloc eF rfl rfl rfl) ?_ | refine Ops.rowAt eF 2 rfl rfl Zw rfl (Hop.alloc eF rfl rfl rfl) ?_ | refine Ops.unit eF rfl Zw (Hop.store eF rfl rfl rfl rfl rfl rfl) (ArrKeep.put rfl) ?_ | refine Go.condFt rfl Za ?_ | refine Go.block ?_ | refine Go.unblk ?_
    all_goals first
     | exact Go.retMc [_] rfl ⟨Hop.ldPG eF rfl rfl rfl rfl rfl rfl rfl, trivial⟩ rfl ⟨⟨_, rfl, rfl, rfl, rfl, rfl⟩, trivial⟩ rfl
     | (exfalso; rcases ht with q | q | q <;> exact absurd q (by assumption))
end Go.Px.Fe
end
section
set_option maxHeartbeats 4000000
set_option maxRecDepth 20000
namespace Go.Px.Fe
open Go.Proofs Go.Px.Fs
attribute [local irreducible] Go.Px.KOk
noncomputable def rpart (is : Bool) (r : Rd) : Pt × Rd := match is with
 | true => (sdP (rval r).1, rvalC r)
 | false => (nmP (num8 (rtake r 8).1), (rtake r 8).2)
noncomputable def rparts : List Bool → Rd → List Pt × Rd
 | [], r => ([], r)
 | k :: ks, r => match (rpart k r).2.bad with
  | true => ([], (rpart k r).2)
  | false => ((rpart k r).1 :: (rparts ks (rpart k r).2).1, (rparts ks (rpart k r).2).2)
def encBl (b : Bool) : List AV := [.bool b]
def hB (R : ALoop) (ks : List Bool) (r : Rd) (n : Nat) (o : List AV) : List AB := [.row ⟨140, 2, .leaf, encR r, none⟩, .row ⟨95, 1, .leaf, [.own 2 n 5], none⟩, .arr 108 5 n o, .row ⟨138, 1, .leaf, [.ptr 0 0], none⟩, .row ⟨103, 1, .leaf, [dsl 1 encBl ks], none⟩, .dfr true, .loop R]
theorem lowB {R : ALoop} {ks : List Bool} {r : Rd} {n : Nat} {o : List AV} (h : ABLow 7 (.loop R)) : lowsP 7 (hB R ks r n o) := ⟨low_row rfl rfl, low_row rfl rfl, trivial, low_row rfl rfl, low_row rfl rfl, trivial, h, trivial⟩
theorem flatP (l : List Pt) (p : Pt) : (l ++ [p]).flatMap encPt = l.flatMap encPt ++ encPt p := by rw [List.flatMap_append]; simp
theorem rpart_le (k : Bool) (r : Rd) : (rpart k r).2.b.length ≤ r.b.length := by
 have h1 := rtake_le r 1
 have h8 := rtake_le r 8
 cases k with
 | false => exact h8
 | true =>
  show (rval r).2.b.length ≤ _
  unfold rval rbody
  split
  ·exact Nat.le_trans (rtake_le _ _) h1
  ·split
   ·show (txtOf _).2.b.length ≤ _
    unfold txtOf
    split
    ·exact h1
    ·exact Nat.le_trans (rtxt_le _).2 h1
   ·exact Nat.le_trans (rtake_le _ _) h1
theorem k60 (b : Str) (ks : List Bool) (hb : b.length ≤ 100000) (hk : ks.length ≤ 100) : KOk cF 60 [bysA b, dsl 1 encBl ks] (bif (rparts ks ⟨b, false⟩).2.bad || !bd ((rparts ks ⟨b, false⟩).2.b.length = 0) then .tup [.nilsl, .int .i64 20] else .tup [ptsA (rparts ks ⟨b, false⟩).1, .int .i64 0]) := by
 refine KOk.of cF_ok eF.g Try.func60 rfl (Nat.le_of_ble_eq_true rfl) fun w F => ?_
 repeat' first | refine Go.seq ?_ | refine Go.region rfl ?_ | refine Ops.nil ?_ | refine Ops.val eF rfl rfl Zw (by first | exact Z1 | exact Y36) ?_ | refine Ops.rowAt eF 0 rfl rfl Zw rfl (Hop.boxC rfl rfl rfl) ?_ | refine Ops.rowAt eF 1 rfl rfl Zw rfl (Hop.alloc eF rfl rfl rfl) ?_
 refine Ops.change (Chg.tokCell 2 1 108 5 rfl rfl rfl) ?_
 refine Ops.sub (M := [(6, .ptr 0 0), (7, .ptr 1 0), (12, .ptr 0 0), (13, dsl 1 encBl ks)]) Zt ?_
 refine Ops.inl eF (fn := Try.f87) rfl rfl (Want.no rfl) rfl rfl rfl rfl Try.func87 rfl rfl rfl (fun gx => ?_)
 repeat' first | refine Go.seq ?_ | refine Go.region rfl ?_ | refine Ops.nil ?_ | refine Ops.val eF rfl rfl Zw (by first | exact Z1 | exact Y38) ?_ | refine Ops.rowAt eF 3 rfl rfl Zw rfl (Hop.boxC rfl rfl rfl) ?_ | refine Ops.rowAt eF 4 rfl rfl Zw rfl (Hop.boxC rfl rfl rfl) ?_ | refine Go.block ?_ | refine Go.retI rfl ?_
 refine Go.to (M := [(6, .ptr 0 0), (7, .ptr 1 0), (14, .fn (.func 106) [] [.ptr 4 0, .ptr 3 0])]) ?_ Zt
 refine Go.rangeAt eF 5 rfl rfl Try.func106 rfl rfl rfl (fun gx' R hR => ?_)
 repeat' first | refine Go.seq ?_ | refine Go.region rfl ?_ | refine Ops.nil ?_ | refine Ops.val eF rfl rfl Zw (by first | exact Z1 | exact Z5 | exact Z6) ?_ | refine Go.block ?_
 have hlow : ABLow 7 (.loop R) := by subst hR; exact ⟨envLs [(6, .ptr 0 0), (7, .ptr 1 0), (14, .fn (.func 106) [] [.ptr 4 0, .ptr 3 0])] Try.f60.ntmps, rfl, rfl, by decide⟩
 refine Go.toHQ (N := 7) (bs := hB R ks ⟨b, false⟩ 0 []) (L' := [(0, .fn (.yield 6) [] []), (2, .ptr 3 0), (7, dsl 1 encBl ks), (8, .int .i64 ks.length), (9, .int .i64 0)]) ?_ rfl eF.g Zt rfl rfl Zg (lowB hlow) rfl rfl
 refine Go.loop (fun s : Nat × List Pt × Rd => [(0, .fn (.yield 6) [] []), (2, .ptr 3 0), (7, dsl 1 encBl ks), (8, .int .i64 ks.length), (9, .int .i64 s.1)]) (fun s => hq 7 (hB R ks s.2.2 s.2.1.length (s.2.1.flatMap encPt))) (fun s => s.1 ≤ ks.length ∧ s.2.1.length ≤ s.1 ∧ s.2.2.bad = false ∧ s.2.2.b.length ≤ 100000 ∧ rparts ks ⟨b, false⟩ = (s.2.1 ++ (rparts (ks.drop s.1) s.2.2).1, (rparts (ks.drop s.1) s.2.2).2)) (fun s => ks.length - s.1) (0, [], ⟨b, false⟩) ⟨Nat.zero_le _, Nat.zero_le _, rfl, hb, rfl⟩ Zt rfl (fun s hP ih => ?_)
 obtain ⟨i, out, r⟩ := s
 obtain ⟨hi, ho, hbad, hrb, hP⟩ := hP
 simp only at hi ho hbad hrb hP ih ⊢
 have hRs := congrArg ALoop.sz hR
 have hRp := congrArg ALoop.params hR
 have hRa := congrArg ALoop.assign hR
 have hRb := congrArg ALoop.body hR
 have hRe := congrArg ALoop.e hR
 have hRn := congrArg ALoop.pending hR
 have hRt := congrArg ALoop.state hR
 have hRd := congrArg ALoop.defers hR
 dsimp only at hRs hRp hRa hRb hRe hRn hRt hRd
 clear hR
 have hRR : ({ R with state := .ready, pending := none } : ALoop) = R := by
  obtain ⟨st, pe, a1, a2, a3, a4, a5, a6, a7⟩ := R
  have hRt : st = .ready := hRt
  have hRn : pe = none := hRn
  subst hRt; subst hRn; rfl
 by_cases c0 : (i : Int) < (ks.length : Int)
 ·have hlt : i < ks.length := by omega
  obtain ⟨rb, rbad⟩ := r
  have hbad : rbad = false := hbad
  subst hbad
  have hindL : ∀ st pe, ABInd 2 (.loop { R with state := st, pending := pe }) := fun st pe => ⟨envLs [(6, .ptr 0 0), (7, .ptr 1 0), (14, .fn (.func 106) [] [.ptr 4 0, .ptr 3 0])] Try.f60.ntmps, hRe, rfl, by show R.defers ≠ 2; rw [hRd]; decide⟩
  have hokL : ABOk [] [0] (.loop R) := ⟨envLs [(6, .ptr 0 0), (7, .ptr 1 0), (14, .fn (.func 106) [] [.ptr 4 0, .ptr 3 0])] Try.f60.ntmps, hRe, rfl, by rw [hRd]; rfl⟩
  have hle := rpart_le (ks.getD i default) ⟨rb, false⟩
  rw [drop_at hlt] at hP
  cases hk' : ks.getD i default with
  | true =>
   have k1 := m107 ⟨rb, false⟩ hrb
   rw [hk'] at hP hle
   simp only [rparts, rpart] at hP hle
   generalize (rval ⟨rb, false⟩).1 = v at *
   generalize rvalC ⟨rb, false⟩ = r2 at *
   obtain ⟨b2, bad2⟩ := r2
   repeat' first | refine Go.seq ?_ | refine Go.region rfl ?_ | refine Ops.nil ?_ | refine Ops.val eF rfl rfl Zw (by first | exact Z1 | exact Z3 | exact Y24 | exact Z5) ?_ | refine Ops.rowAt eF 7 rfl rfl Zw rfl (Hop.alloc eF rfl rfl rfl) ?_ | refine Go.condTt rfl Za ?_ | refine Go.block ?_ | refine Go.skip ?_
   simp only [Int.toNat_natCast, hk']
   cases bad2 with
   | true =>
    as_aux_lemma =>
     simp only [List.append_nil] at hP
     rw [hP]
     simp only [Bool.true_or, cond_true, encR] at k1 ⊢
     repeat' first | refine Go.seq ?_ | refine Go.region rfl ?_ | refine Ops.nil ?_ | refine Ops.val eF rfl rfl Zw (Hop.nilC rfl rfl) ?_ | refine Ops.callM (v' := .agg (encVa v)) (ab := [.row ⟨140, 2, .leaf, _, none⟩]) eF [0] 8 Zw rfl rfl rfl rfl (k1) rfl (wk_eq rfl) rfl Zb (by repeat' first | exact trivial | exact .inl rfl | exact .inr trivial | exact .inr rfl | exact .inr (ok_row rfl rfl) | exact .inr hokL | refine And.intro ?_ ?_) rfl rfl rfl rfl rfl rfl rfl ?_ | refine Ops.val eF rfl rfl Zw (by first | exact Z1 | exact Z2 | exact Z4 | exact Z5 | exact Y36) ?_ | refine Ops.skip rfl rfl Zn ?_ | refine Ops.unit eF rfl Zw (Hop.store eF rfl rfl rfl rfl rfl rfl) (ArrKeep.put rfl) ?_ | refine Go.condT rfl ?_ | refine Go.retI rfl ?_
     refine Go.afterN (r := R) rfl hRn (.inl hRt) ?_
     refine Go.unblk ?_
     refine Go.toHQ (N := 6) (bs := [.row ⟨140, 2, .leaf, encR ⟨b2, true⟩, none⟩, .row ⟨95, 1, .leaf, [.own 2 out.length 5], none⟩, .arr 108 5 out.length (out.flatMap encPt), .none, .none, .dfr true]) (L' := [(6, .ptr 0 0), (7, .ptr 1 0)]) ?_ rfl eF.g Zt rfl rfl Zg Zl rfl rfl
     repeat' first | refine Go.seq ?_ | refine Go.region rfl ?_ | refine Ops.nil ?_ | refine Ops.val eF rfl rfl Zw (Hop.nilC rfl rfl) ?_ | refine Ops.val eF rfl rfl Zw (by first | exact Z1 | exact Z2 | exact Z4 | exact Z5) ?_ | refine Ops.skip rfl rfl Zn ?_ | refine Go.condT rfl ?_ | refine Go.retFm rfl rfl ?_ rfl
     rfl
   | false =>
    as_aux_lemma =>
     have g := ih (i + 1, out ++ [sdP v], ⟨b2, false⟩) ⟨hlt, by show (out ++ [sdP v]).length ≤ i + 1; rw [List.length_append]; show out.length + 1 ≤ _; omega, rfl, Nat.le_trans hle hrb, by rw [hP, List.append_assoc]; rfl⟩ (by show _ < _; omega)
     simp only [encR] at k1
     repeat' first | refine Go.seq ?_ | refine Go.region rfl ?_ | refine Ops.nil ?_ | refine Ops.val eF rfl rfl Zw (Hop.nilC rfl rfl) ?_ | refine Ops.callM (v' := .agg (encVa v)) (ab := [.row ⟨140, 2, .leaf, [bysA b2, .bool false], none⟩]) eF [0] 8 Zw rfl rfl rfl rfl (k1) rfl (wk_eq rfl) rfl Zb (by repeat' first | exact trivial | exact .inl rfl | exact .inr trivial | exact .inr rfl | exact .inr (ok_row rfl rfl) | exact .inr hokL | refine And.intro ?_ ?_) rfl rfl rfl rfl rfl rfl rfl ?_ | refine Ops.val eF rfl rfl Zw (by first | exact Z1 | exact Z4 | exact Z5 | exact Y36) ?_ | refine Ops.unit eF rfl Zw (Hop.store eF rfl rfl rfl rfl rfl rfl) (ArrKeep.put rfl) ?_ | refine Go.condT rfl ?_
     rw [flatP, List.length_append] at g
     refine Ops.sub (M := [(0, .fn (.yield 6) [] []), (2, .ptr 3 0), (7, dsl 1 encBl ks), (8, .int .i64 ks.length), (9, .int .i64 i), (24, .bool false), (25, .fn (.yield 6) [] []), (26, .agg (encPt (sdP v)))]) Zt ?_
     refine Ops.round (r := R) (lst := envLs [(6, .ptr 0 0), (7, .ptr 1 0), (14, .fn (.func 106) [] [.ptr 4 0, .ptr 3 0])] Try.f60.ntmps) rfl rfl (Want.fF rfl rfl rfl rfl) rfl rfl rfl rfl rfl hRt hRe (by rw [hRp]; rfl) (by rw [hRp]; simp only [hRs]; rfl) rfl (fun gx2 => ?_)
     rw [hRs, hRp, hRa, hRb]
     repeat' first | refine Go.region rfl ?_ | refine Ops.nil ?_ | refine Ops.rowAt eF 8 rfl rfl Zw rfl (Hop.alloc eF rfl rfl rfl) ?_ | refine Ops.unit eF rfl Zw (Hop.store eF rfl rfl rfl rfl rfl rfl) (ArrKeep.put rfl) ?_
     refine Go.body (r := R) rfl hRt ?_
     repeat' first | refine Go.region rfl ?_ | refine Ops.nil ?_ | refine Ops.val eF rfl rfl Zw Z5 ?_ | refine Ops.data eF rfl rfl Zw rfl (Hop.bslice eF rfl rfl rfl rfl rfl rfl rfl rfl rfl rfl rfl) rfl rfl ?_ | refine Ops.appendE eF rfl rfl Zw rfl rfl rfl rfl rfl rfl rfl rfl rfl rfl rfl rfl rfl rfl rfl rfl Zi rfl rfl rfl rfl rfl Zz (by omega) ?_ | refine Ops.unit eF rfl Zw (Hop.store eF rfl rfl rfl rfl rfl rfl) (ArrKeep.put rfl) ?_ | refine Go.block ?_ | refine Go.unblk ?_
     refine Go.roundN rfl ?_
     repeat' first | refine Go.region rfl ?_ | refine Ops.nil ?_ | refine Ops.val eF rfl rfl Zw (by first | exact Z1 | exact Z2 | exact Y14) ?_ | refine Go.condF rfl ?_ | refine Go.unblk ?_ | refine Go.skip ?_
     exact Go.toQ g rfl eF.g Zt rfl rfl ⟨.inr rfl, .inr rfl, .inr rfl, .inr rfl, .inr rfl, .inr rfl, .inr (congrArg AB.loop hRR), trivial⟩ (lowB hlow) rfl rfl
  | false =>
   have k1 := m108 ⟨rb, false⟩ (Nat.le_trans hrb (by decide))
   rw [hk'] at hP hle
   simp only [rparts, rpart] at hP hle
   generalize num8 (rtake ⟨rb, false⟩ 8).1 = v at *
   generalize (rtake ⟨rb, false⟩ 8).2 = r2 at *
   obtain ⟨b2, bad2⟩ := r2
   repeat' first | refine Go.seq ?_ | refine Go.region rfl ?_ | refine Ops.nil ?_ | refine Ops.val eF rfl rfl Zw (by first | exact Z1 | exact Z3 | exact Y24 | exact Z5) ?_ | refine Ops.rowAt eF 7 rfl rfl Zw rfl (Hop.alloc eF rfl rfl rfl) ?_ | refine Go.condTt rfl Za ?_ | refine Go.block ?_ | refine Go.skip ?_
   simp only [Int.toNat_natCast, hk']
   cases bad2 with
   | true =>
    as_aux_lemma =>
     simp only [List.append_nil] at hP
     rw [hP]
     simp only [Bool.true_or, cond_true, encR] at k1 ⊢
     repeat' first | refine Go.seq ?_ | refine Go.region rfl ?_ | refine Ops.nil ?_ | refine Ops.val eF rfl rfl Zw (Hop.nilC rfl rfl) ?_ | refine Ops.callM (v' := .int .i64 v) (ab := [.row ⟨140, 2, .leaf, _, none⟩]) eF [0] 8 Zw rfl rfl rfl rfl (k1) rfl (wk_eq rfl) rfl Zb (by repeat' first | exact trivial | exact .inl rfl | exact .inr trivial | exact .inr rfl | exact .inr (ok_row rfl rfl) | exact .inr hokL | refine And.intro ?_ ?_) rfl rfl rfl rfl rfl rfl rfl ?_ | refine Ops.val eF rfl rfl Zw (by first | exact Z1 | exact Z2 | exact Z4 | exact Z5 | exact Y36) ?_ | refine Ops.skip rfl rfl Zn ?_ | refine Ops.unit eF rfl Zw (Hop.store eF rfl rfl rfl rfl rfl rfl) (ArrKeep.put rfl) ?_ | refine Go.condT rfl ?_ | refine Go.condF rfl ?_ | refine Go.retI rfl ?_
     refine Go.afterN (r := R) rfl hRn (.inl hRt) ?_
     refine Go.unblk ?_
     refine Go.toHQ (N := 6) (bs := [.row ⟨140, 2, .leaf, encR ⟨b2, true⟩, none⟩, .row ⟨95, 1, .leaf, [.own 2 out.length 5], none⟩, .arr 108 5 out.length (out.flatMap encPt), .none, .none, .dfr true]) (L' := [(6, .ptr 0 0), (7, .ptr 1 0)]) ?_ rfl eF.g Zt rfl rfl Zg Zl rfl rfl
     repeat' first | refine Go.seq ?_ | refine Go.region rfl ?_ | refine Ops.nil ?_ | refine Ops.val eF rfl rfl Zw (Hop.nilC rfl rfl) ?_ | refine Ops.val eF rfl rfl Zw (by first | exact Z1 | exact Z2 | exact Z4 | exact Z5) ?_ | refine Ops.skip rfl rfl Zn ?_ | refine Go.condT rfl ?_ | refine Go.retFm rfl rfl ?_ rfl
     rfl
   | false =>
    as_aux_lemma =>
     have g := ih (i + 1, out ++ [nmP v], ⟨b2, false⟩) ⟨hlt, by show (out ++ [nmP v]).length ≤ i + 1; rw [List.length_append]; show out.length + 1 ≤ _; omega, rfl, Nat.le_trans hle hrb, by rw [hP, List.append_assoc]; rfl⟩ (by show _ < _; omega)
     simp only [encR] at k1
     repeat' first | refine Go.seq ?_ | refine Go.region rfl ?_ | refine Ops.nil ?_ | refine Ops.val eF rfl rfl Zw (Hop.nilC rfl rfl) ?_ | refine Ops.callM (v' := .int .i64 v) (ab := [.row ⟨140, 2, .leaf, [bysA b2, .bool false], none⟩]) eF [0] 8 Zw rfl rfl rfl rfl (k1) rfl (wk_eq rfl) rfl Zb (by repeat' first | exact trivial | exact .inl rfl | exact .inr trivial | exact .inr rfl | exact .inr (ok_row rfl rfl) | exact .inr hokL | refine And.intro ?_ ?_) rfl rfl rfl rfl rfl rfl rfl ?_ | refine Ops.val eF rfl rfl Zw (by first | exact Z1 | exact Z4 | exact Z5 | exact Y36) ?_ | refine Ops.unit eF rfl Zw (Hop.store eF rfl rfl rfl rfl rfl rfl) (ArrKeep.put rfl) ?_ | refine Go.condF rfl ?_
     rw [flatP, List.length_append] at g
     refine Ops.sub (M := [(0, .fn (.yield 6) [] []), (2, .ptr 3 0), (7, dsl 1 encBl ks), (8, .int .i64 ks.length), (9, .int .i64 i), (24, .bool false), (25, .fn (.yield 6) [] []), (26, .agg (encPt (nmP v)))]) Zt ?_
     refine Ops.round (r := R) (lst := envLs [(6, .ptr 0 0), (7, .ptr 1 0), (14, .fn (.func 106) [] [.ptr 4 0, .ptr 3 0])] Try.f60.ntmps) rfl rfl (Want.fF rfl rfl rfl rfl) rfl rfl rfl rfl rfl hRt hRe (by rw [hRp]; rfl) (by rw [hRp]; simp only [hRs]; rfl) rfl (fun gx2 => ?_)
     rw [hRs, hRp, hRa, hRb]
     repeat' first | refine Go.region rfl ?_ | refine Ops.nil ?_ | refine Ops.rowAt eF 8 rfl rfl Zw rfl (Hop.alloc eF rfl rfl rfl) ?_ | refine Ops.unit eF rfl Zw (Hop.store eF rfl rfl rfl rfl rfl rfl) (ArrKeep.put rfl) ?_
     refine Go.body (r := R) rfl hRt ?_
     repeat' first | refine Go.region rfl ?_ | refine Ops.nil ?_ | refine Ops.val eF rfl rfl Zw Z5 ?_ | refine Ops.data eF rfl rfl Zw rfl (Hop.bslice eF rfl rfl rfl rfl rfl rfl rfl rfl rfl rfl rfl) rfl rfl ?_ | refine Ops.appendE eF rfl rfl Zw rfl rfl rfl rfl rfl rfl rfl rfl rfl rfl rfl rfl rfl rfl rfl rfl Zi rfl rfl rfl rfl rfl Zz (by omega) ?_ | refine Ops.unit eF rfl Zw (Hop.store eF rfl rfl rfl rfl rfl rfl) (ArrKeep.put rfl) ?_ | refine Go.block ?_ | refine Go.unblk ?_
     refine Go.roundN rfl ?_
     repeat' first | refine Go.region rfl ?_ | refine Ops.nil ?_ | refine Ops.val eF rfl rfl Zw (by first | exact Z1 | exact Z2 | exact Y14) ?_ | refine Go.condF rfl ?_ | refine Go.unblk ?_ | refine Go.skip ?_
     exact Go.toQ g rfl eF.g Zt rfl rfl ⟨.inr rfl, .inr rfl, .inr rfl, .inr rfl, .inr rfl, .inr rfl, .inr (congrArg AB.loop hRR), trivial⟩ (lowB hlow) rfl rfl
 ·as_aux_lemma =>
   have ei : i = ks.length := by omega
   subst ei
   rw [List.drop_length, show rparts [] r = ([], r) from rfl, List.append_nil] at hP
   rw [hP]
   obtain ⟨rb, rbad⟩ := r
   have hbad : rbad = false := hbad
   subst hbad
   repeat' first | refine Go.seq ?_ | refine Go.region rfl ?_ | refine Ops.nil ?_ | refine Ops.val eF rfl rfl Zw Z3 ?_ | refine Go.condFt rfl Za ?_ | refine Go.exit rfl ?_ | refine Go.endI rfl ?_
   refine Go.afterN (r := R) rfl hRn (.inl hRt) ?_
   refine Go.unblk ?_
   refine Go.toHQ (N := 6) (bs := [.row ⟨140, 2, .leaf, encR ⟨rb, false⟩, none⟩, .row ⟨95, 1, .leaf, [.own 2 out.length 5], none⟩, .arr 108 5 out.length (out.flatMap encPt), .none, .none, .dfr true]) (L' := [(6, .ptr 0 0), (7, .ptr 1 0)]) ?_ rfl eF.g Zt rfl rfl Zg Zl rfl rfl
   by_cases cb : (0 : Int) < (rb.length : Int)
   ·simp only [bd_no (show ¬ rb.length = 0 by omega), Bool.not_false, Bool.or_true, cond_true]
    repeat' first | refine Go.seq ?_ | refine Go.region rfl ?_ | refine Ops.nil ?_ | refine Ops.val eF rfl rfl Zw (Hop.nilC rfl rfl) ?_ | refine Ops.val eF rfl rfl Zw (by first | exact Z1 | exact Z2 | exact Z3 | exact Z4 | exact Z5 | exact Z6) ?_ | refine Go.condTt rfl Za ?_ | refine Go.retFm rfl rfl ?_ rfl
    rfl
   ·simp only [bd_of (show rb.length = 0 by omega), Bool.not_true, Bool.or_false, cond_false]
    repeat' first | refine Go.seq ?_ | refine Go.region rfl ?_ | refine Ops.nil ?_ | refine Ops.val eF rfl rfl Zw (Hop.nilC rfl rfl) ?_ | refine Ops.frzMv eF 4 rfl rfl rfl Zw Z1 rfl Zi rfl rfl rfl rfl ?_ | refine Ops.val eF rfl rfl Zw (by first | exact Z1 | exact Z2 | exact Z3 | exact Z4 | exact Z5 | exact Z6) ?_ | refine Go.condFt rfl Za ?_ | refine Go.skip ?_ | refine Go.retFm rfl rfl ?_ rfl
    rfl
end Go.Px.Fe
end
