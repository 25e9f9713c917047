/- Parts of the proof in YtdccabejobkkcaaRFin: LrI. -/
import Derived.Test.YtdccabejobkkcaaRLd
import Derived.Test.YtdccabejobkkcaaRLf
import Derived.Test.YtdccabejobkkcaaRK4
set_option linter.unusedVariables false
set_option linter.unusedSimpArgs false
section
set_option maxHeartbeats 4000000
set_option maxRecDepth 20000
namespace Go.Px.Lr
open Go.Proofs
attribute [local irreducible] Go.Px.KOk
def ObjsAt (l : Objs) (base : Int) (os : List Str) : Prop := (∀ i : Nat, i < os.length → mget (base + i) l = some (os.getD i default)) ∧ mget (base + os.length) l = none
noncomputable def rdA (os : List Str) : AV := bif bd (SegsP os) then .tup [segA (segs os), .int .i64 0] else .tup [.nilsl, .int .i64 230]
theorem rdA_low (os : List Str) (n : Nat) : lowB n (rdA os) = true := by unfold rdA; cases bd (SegsP os) <;> rfl
noncomputable def S26 (base : Int) (os : List Str) (i : Nat) : List (Nat × AV) := [(0, .ptr 0 0), (1, .int .i64 base), (4, .ptr 2 0), (5, .ptr 3 0), (6, .own 4 (segs (os.take i)).length 1), (7, .int .i64 i)]
noncomputable def H26 (l : Objs) (n : Nat) (os : List Str) (i : Nat) : List AB := [.row ⟨62, 7, .leaf, volC 1, none⟩, .map (mE keyI bysA l) n, .row ⟨35, 1, .leaf, [.nilsl], none⟩, .row ⟨24, 1, .leaf, [.int .i64 0], none⟩, .arr 22 1 (segs (os.take i)).length ((segs (os.take i)).flatMap encS)]
def L0I (base : Int) (os : List Str) (i : Nat) : List (Nat × AV) := [(0, .ptr 0 0), (1, .int .i64 base), (4, .ptr 2 0), (5, .ptr 3 0), (6, .own 4 (segs (os.take i)).length 1), (7, .int .i64 i), (10, .ptr 6 0), (42, .fn (.func 47) [] [.ptr 8 0])]
noncomputable def HI (l : Objs) (n : Nat) (os : List Str) (i : Nat) (R : ALoop) (out : List Str) (r : Str) : List AB := [.row ⟨62, 7, .leaf, volC 1, none⟩, .map (mE keyI bysA l) n, .row ⟨35, 1, .leaf, [.nilsl], none⟩, .row ⟨24, 1, .leaf, [.int .i64 0], none⟩, .arr 22 1 (segs (os.take i)).length ((segs (os.take i)).flatMap encS), .none, .row ⟨22, 1, .leaf, [.own 7 out.length 1], none⟩, .arr 30 1 out.length (out.flatMap encL), .row ⟨30, 1, .leaf, [bysA r], none⟩, .dfr true, .loop R]
theorem lowI {l : Objs} {n : Nat} {os : List Str} {i : Nat} {R : ALoop} {out : List Str} {r : Str} (h : ABLow 11 (.loop R)) : lowsP 11 (HI l n os i R out r) := ⟨low_row rfl rfl, esD l, low_row rfl rfl, low_row rfl rfl, trivial, trivial, low_row rfl rfl, trivial, low_row rfl rfl, trivial, h, trivial⟩
def InI (bb : Str) (s : List Str × Str) : Prop := recs bb = (s.1 ++ (recs s.2).1, (recs s.2).2) ∧ s.1.length + s.2.length ≤ bb.length
theorem n4_int (r : Str) : (r.getD (0 : Int).toNat default).toNat * 2 ^ 24 + (r.getD (1 : Int).toNat default).toNat * 2 ^ 16 + (r.getD (2 : Int).toNat default).toNat * 2 ^ 8 + (r.getD (3 : Int).toNat default).toNat = n4 r := by
 have t0 : (0 : Int).toNat = 0 := rfl
 have t1 : (1 : Int).toNat = 1 := rfl
 have t2 : (2 : Int).toNat = 2 := rfl
 have t3 : (3 : Int).toNat = 3 := rfl
 unfold n4
 rw [t0, t1, t2, t3]
 omega
noncomputable def r47_0 : List Oper := ((drawn (Try.f47.body.getD .skip))[0]?).getD []
theorem dr47_0 : chkOrd cF r47_0 [0, 1, 2, 3, 4, 5, 6, 7, 8, 9, 10, 11, 12, 13, 14, 15, 16, 17, 18, 19, 20, 21, 22] = true := by kernel_rfl
theorem m26 (l : Objs) (n : Nat) (base : Int) (os : List Str) (hb : 0 ≤ base ∧ base ≤ 3595) (ho : ObjsAt l base os) (hl : os.length ≤ 400) (hs : ∀ i, (os.getD i default).length ≤ 1000000) : KM cF 26 (volM l n) [.ptr 0 0, .int .i64 base] (rdA os) (volM l n) := by
 refine KM.of (N := 2) (ab := [.row ⟨62, 7, .leaf, volC 1, none⟩, .map (mE keyI bysA l) n]) (gv := [.ptr 0 0, .mp 1]) cF_ok eF.g Try.func26 rfl rfl rfl rfl (Nat.le_of_ble_eq_true rfl) rfl (loV l n) rfl (loV l n) (rdA_low os _) rfl fun w F opn gx => ?_
 repeat' first | refine Go.seq ?_ | refine Go.region rfl ?_ | refine Ops.nil ?_ | refine Ops.val eF rfl rfl Zw Z1 ?_ | refine Ops.rowAt eF 2 rfl rfl Zw rfl (Hop.alloc eF rfl rfl rfl) ?_ | refine Ops.rowAt eF 3 rfl rfl Zw rfl (Hop.alloc eF rfl rfl rfl) ?_ | refine Go.block ?_
 refine Go.change (Chg.tokAt 4 6 22 1 rfl rfl) ?_
 refine Go.toHQ (N := 5) (bs := H26 l n os 0) (L' := S26 base os 0) ?_ rfl eF.g Zt rfl rfl Zg ⟨low_row rfl rfl, esD l, low_row rfl rfl, low_row rfl rfl, trivial, trivial⟩ rfl rfl
 refine Go.loopM rfl rfl eF.g (S26 base os) (H26 l n os) (In9 os) (fun i => os.length - i) (fun _ => rfl) (fun _ => ⟨low_row rfl rfl, esD l, low_row rfl rfl, low_row rfl rfl, trivial, trivial⟩) (fun _ => rfl) (fun _ => rfl) rfl 0 ⟨Nat.zero_le _, fun j h => absurd h (Nat.not_lt_zero _), fun j h => absurd h (Nat.not_lt_zero _)⟩ Zt rfl (fun i hP b => ?_)
 obtain ⟨hb0, hb1⟩ := hb
 have hil := hP.1
 have hsl : (segs (os.take i)).length = i := by rw [segs_len, List.length_take, Nat.min_eq_left hil]
 unfold S26 H26
 by_cases hlt : i < os.length
 ·have k1 := m42 l n (base + i) _ (hs i) (ho.1 i hlt)
  by_cases cz : i ≠ 0 ∧ (recs (os.getD (i - 1) default)).1.length = 0
  ·have hno : ¬ SegsP os := fun h => h.2 (i - 1) (by omega) (by rw [cz.2])
   have ei : ((i : Int) - 1).toNat = i - 1 := by omega
   have hat : (segs (os.take i)).getD ((i : Int) - 1).toNat default = (recs (os.getD (i - 1) default)).1 := by rw [ei]; exact segs_at (by omega) hil
   have cz' : ((segs (os.take i)).getD ((i : Int) - 1).toNat default).length = 0 := by rw [hat]; exact cz.2
   have ci := cz.1
   unfold rdA
   rw [bd_no hno]
   repeat' first | refine Go.seq ?_ | refine Go.region rfl ?_ | refine Ops.nil ?_ | refine Ops.callM (v' := .tup [bysA (os.getD i default), .bool true]) (ab := [.row ⟨62, 7, .leaf, volC 1, none⟩, .map (mE keyI bysA l) n]) eF [0, 1] 5 Zw rfl rfl rfl rfl (k1) rfl (wk_eq rfl) rfl (by repeat' first | exact trivial | exact ⟨rfl, ⟨_, rfl, rfl, rfl, rfl, rfl⟩⟩ | exact ⟨rfl, rfl⟩ | refine And.intro ?_ ?_) (by repeat' first | exact trivial | exact .inl rfl | exact .inr trivial | exact .inr rfl | exact .inr (ok_row rfl rfl) | exact .inr (mE_dat _ _ (fun _ => rfl) _) | refine And.intro ?_ ?_) rfl rfl rfl rfl rfl rfl rfl ?_ | refine Ops.val eF rfl rfl Zw Zk ?_ | refine Go.condT rfl ?_ | refine Go.condF rfl ?_ | refine Ops.val eF rfl rfl Zw (Hop.geqF rfl rfl rfl (by omega)) ?_ | refine Ops.val eF rfl rfl Zw (Hop.ldF1 (enc := encS) (l := segs (os.take i)) (i := ((i : Int) - 1).toNat) eF rfl rfl rfl rfl rfl rfl (fun _ => rfl) rfl rfl (by omega)) ?_ | refine Ops.val eF rfl rfl Zw (by first | exact Z1 | exact Z2 | exact Y14 | exact Y15 | exact Y25 | exact Z6) ?_ | refine Ops.unit eF rfl Zw (Hop.store eF rfl rfl rfl rfl rfl rfl) (ArrKeep.put rfl) ?_ | refine Go.block ?_ | refine Go.skip ?_
   refine Go.retMM fun e he => fin_M (X := ⟨cF, w, F, opn, none, none, [], [.ptr 0 0, .mp 1], gx⟩) [.nilsl, .int .i64 230] he (fun d q => by cases q) List.nodup_nil (fun d q => by cases q) (show 2 ≤ 5 by decide) (fun h' hh => ?_) rfl ?_
   ·exact ⟨res_cell eF rfl rfl rfl rfl (hh 2 (show 2 < 5 by decide) (by simp)), res_cell eF rfl rfl rfl rfl (hh 3 (show 3 < 5 by decide) (by simp)), trivial⟩
   ·exact ⟨⟨_, rfl, rfl, rfl, rfl, rfl⟩, rfl, trivial⟩
  ·have hP' : (recs (os.getD i default)).2 = true → In9 os (i + 1) := fun hr => ⟨hlt, fun j hj => by
    by_cases e : j = i
    ·subst e; exact hr
    ·exact hP.2.1 j (by omega), fun j hj => by
    by_cases e : j + 1 = i
    ·exact fun q => cz ⟨by omega, by rw [show i - 1 = j by omega]; exact q⟩
    ·exact hP.2.2 j (by omega)⟩
   have ei : i ≠ 0 → ((i : Int) - 1).toNat = i - 1 := by omega
   have cz' : ¬ ((((segs (os.take i)).getD ((i : Int) - 1).toNat default).length : Int) = 0 ∧ 0 < (i : Int)) := fun q => cz ⟨by omega, by
    have := q.1
    rw [ei (by omega), segs_at (by omega) hil] at this; omega⟩
   have hsp : 0 < (i : Int) → ¬ (((segs (os.take i)).getD ((i : Int) - 1).toNat default).length : Int) = 0 := fun a q => cz' ⟨q, a⟩
   apply share
   ·intro key
    repeat' first | refine Go.seq ?_ | refine Go.region rfl ?_ | refine Ops.nil ?_ | refine Ops.callM (v' := .tup [bysA (os.getD i default), .bool true]) (ab := [.row ⟨62, 7, .leaf, volC 1, none⟩, .map (mE keyI bysA l) n]) eF [0, 1] 5 Zw rfl rfl rfl rfl (k1) rfl (wk_eq rfl) rfl (by repeat' first | exact trivial | exact ⟨rfl, ⟨_, rfl, rfl, rfl, rfl, rfl⟩⟩ | exact ⟨rfl, rfl⟩ | refine And.intro ?_ ?_) (by repeat' first | exact trivial | exact .inl rfl | exact .inr trivial | exact .inr rfl | exact .inr (ok_row rfl rfl) | exact .inr (mE_dat _ _ (fun _ => rfl) _) | refine And.intro ?_ ?_) rfl rfl rfl rfl rfl rfl rfl ?_ | refine Ops.val eF rfl rfl Zw (Hop.eqlF rfl rfl rfl (hsp (by assumption))) ?_ | refine Ops.val eF rfl rfl Zw (Hop.geqF rfl rfl rfl (by omega)) ?_ | refine Ops.val eF rfl rfl Zw (Hop.ldF1 (enc := encS) (l := segs (os.take i)) (i := ((i : Int) - 1).toNat) eF rfl rfl rfl rfl rfl rfl (fun _ => rfl) rfl rfl (by omega)) ?_ | refine Ops.val eF rfl rfl Zw (by first | exact Z1 | exact Z2 | exact Z3 | exact Y14 | exact Y15 | exact Y25 | exact Z6) ?_ | refine Ops.skip rfl rfl Zn ?_ | refine Ops.gP rfl rfl (fun _ => ?_) (fun _ => ?_) | refine Go.condF rfl ?_ | refine Go.block ?_ | refine Go.skip ?_
    all_goals refine Ops.csl0 eF 5 rfl rfl (Want.no rfl) rfl rfl rfl rfl rfl ?_
    all_goals refine Ops.sub (M := [(0, .ptr 0 0), (1, .int .i64 base), (4, .ptr 2 0), (5, .ptr 3 0), (6, .own 4 (segs (os.take i)).length 1), (7, .int .i64 i), (8, bysA (os.getD i default)), (40, .csl)]) Zt ?_
    all_goals exact key.h
   have hbb := hs i
   generalize hbd : os.getD i default = bb at *
   repeat' first | refine Go.seq ?_ | refine Go.region rfl ?_ | refine Ops.nil ?_ | refine Ops.val eF rfl rfl Zw Z1 ?_ | refine Ops.rowAt eF 6 rfl rfl Zw rfl (Hop.alloc eF rfl rfl rfl) ?_ | refine Ops.unit eF rfl Zw (Hop.store eF rfl rfl rfl rfl rfl rfl) (ArrKeep.put rfl) ?_ | fail
   refine Ops.change (Chg.tokCell 7 6 30 1 rfl rfl rfl) ?_
   refine Ops.sub (M := [(0, .ptr 0 0), (1, .int .i64 base), (4, .ptr 2 0), (5, .ptr 3 0), (6, .own 4 (segs (os.take i)).length 1), (7, .int .i64 i), (10, .ptr 6 0), (41, bysA bb)]) Zt ?_
   refine Ops.inl eF (fn := Try.f43) rfl rfl (Want.no rfl) rfl rfl rfl rfl Try.func43 rfl rfl rfl (fun gx => ?_)
   repeat' first | refine Go.seq ?_ | refine Go.region rfl ?_ | refine Ops.nil ?_ | refine Ops.val eF rfl rfl Zw (by first | exact Z1 | exact Y38) ?_ | refine Ops.rowAt eF 8 rfl rfl Zw rfl (Hop.boxC rfl rfl rfl) ?_ | refine Go.block ?_ | refine Go.retI rfl ?_
   refine Go.sub (M := [(0, .ptr 0 0), (1, .int .i64 base), (4, .ptr 2 0), (5, .ptr 3 0), (6, .own 4 (segs (os.take i)).length 1), (7, .int .i64 i), (10, .ptr 6 0), (42, .fn (.func 47) [] [.ptr 8 0])]) Zt ?_
   refine Go.rangeAt eF 9 rfl rfl Try.func47 rfl rfl rfl (fun gx' R hR => ?_)
   repeat' first | refine Go.seq ?_ | refine Go.block ?_ | refine Go.scope ?_ | refine Go.label ?_
   have hlow : ABLow 11 (.loop R) := by subst hR; exact ⟨envLs (L0I base os i) Try.f26.ntmps, rfl, rfl, (show (9 : Nat) < 11 by decide)⟩
   refine Go.toHQ (N := 11) (bs := HI l n os i R [] bb) (L' := [(0, .fn (.yield 10) [] []), (1, .ptr 8 0)]) ?_ rfl eF.g Zt rfl rfl Zg (lowI hlow) rfl rfl
   refine Go.loop (fun s : List Str × Str => [(0, .fn (.yield 10) [] []), (1, .ptr 8 0)]) (fun s => hq 11 (HI l n os i R s.1 s.2)) (InI bb) (fun s => s.2.length) ([], bb) ⟨rfl, Nat.le_of_eq (Nat.zero_add _)⟩ Zt rfl (fun s hPI ih => ?_)
   obtain ⟨out, r⟩ := s
   obtain ⟨hre, hlen⟩ := hPI
   simp only at hre hlen ih ⊢
   have hRs := congrArg ALoop.sz hR
   have hRp := congrArg ALoop.params hR
   have hRa := congrArg ALoop.assign hR
   have hRb := congrArg ALoop.body hR
   have hRe := congrArg ALoop.e hR
   have hRn := congrArg ALoop.pending hR
   have hRt := congrArg ALoop.state hR
   have hRd := congrArg ALoop.defers hR
   dsimp only at hRs hRp hRa hRb hRe hRn hRt hRd
   clear hR
   have hRR : ({ R with state := .ready, pending := none } : ALoop) = R := by
    obtain ⟨st, pe, a1, a2, a3, a4, a5, a6, a7⟩ := R
    have hRt : st = .ready := hRt
    have hRn : pe = none := hRn
    subst hRt; subst hRn; rfl
   unfold HI
   by_cases c0 : (0 : Int) < (r.length : Int)
   ·have hne : r.length ≠ 0 := by omega
    have hrb : r.length ≤ 1000000 := Nat.le_trans (Nat.le_trans (Nat.le_add_left _ _) hlen) hbb
    by_cases hok : OkR r
    ·have hr := recs_ok hne hok
     rw [hr] at hre
     obtain ⟨h4, h5, h6⟩ := hok
     have c4 : (4 : Int) ≤ (r.length : Int) := by omega
     have b0 : (r.getD (0 : Int).toNat default).toNat < 256 := u8lt _
     have b1 : (r.getD (1 : Int).toNat default).toNat < 256 := u8lt _
     have b2 : (r.getD (2 : Int).toNat default).toNat < 256 := u8lt _
     have b3 : (r.getD (3 : Int).toNat default).toNat < 256 := u8lt _
     repeat' first | refine Go.seq ?_ | refine Go.region rfl ?_ | refine Ops.nil ?_ | refine Ops.val eF rfl rfl Zw (by first | exact Z1 | exact Z3 | exact Z5 | exact Z6) ?_ | refine Go.condTt rfl Za ?_ | refine Go.block ?_ | refine Go.skip ?_
     refine Go.draw eF hm [] [0, 1, 2, 3, 4, 5, 6, 7, 8, 9, 10, 11, 12, 13, 14, 15, 16, 17, 18, 19, 20, 21, 22] dr47_0 ?_
     repeat' first | refine Dr.nil ?_ | refine Dr.pure rfl rfl rfl rfl Zw (by first | exact Hop.shlI (k := 24) rfl rfl rfl (by decide) (by omega) | exact Hop.shlI (k := 16) rfl rfl rfl (by decide) (by omega) | exact Hop.shlI (k := 8) rfl rfl rfl (by decide) (by omega) | exact Hop.orI 24 rfl rfl rfl (by omega) (by omega) (by omega) | exact Hop.orI 16 rfl rfl rfl (by omega) (by omega) (by omega) | exact Hop.orI 8 rfl rfl rfl (by omega) (by omega) (by omega)) ?_ | refine Dr.pure rfl rfl rfl rfl Zw (by first | exact Z1 | exact Y20 | exact Y24 | exact Z5) ?_ | refine Dr.light rfl rfl rfl rfl Zw (by first | exact Y20 | exact Z5) ?_ | fail
     refine Go.sub (M := [(0, .fn (.yield 10) [] []), (1, .ptr 8 0), (3, .int .i64 ((n4 r : Nat) : Int))]) ⟨rfl, rfl, congrArg (fun z : Nat => some (AV.int .i64 (z : Int))) (n4_int r), trivial⟩ ?_
     clear b0 b1 b2 b3
     have g := ih (out ++ [(r.drop 4).take (n4 r)], r.drop (4 + n4 r)) ⟨by rw [hre, List.append_assoc]; rfl, by show (out ++ [_]).length + (r.drop _).length ≤ _; rw [List.length_append, List.length_drop]; show out.length + 1 + _ ≤ _; omega⟩ (by show (r.drop _).length < _; rw [List.length_drop]; omega)
     unfold HI at g
     simp only [] at g
     rw [flL, List.length_append] at g
     generalize n4 r = nn at *
     have e1 : (4 : Int).toNat = 4 := rfl
     have e2 : ((4 : Int) + (nn : Int)).toNat = 4 + nn := by omega
     have e3 : 4 + nn - 4 = nn := by omega
     repeat' first | refine Go.seq ?_ | refine Go.region rfl ?_ | refine Ops.nil ?_ | refine Ops.val eF rfl rfl Zw Zk ?_ | refine Go.condT rfl ?_ | refine Go.condF rfl ?_ | refine Ops.val eF rfl rfl Zw (Hop.cut eF (enc := byC) (l := r) rfl rfl rfl rfl rfl rfl rfl rfl (fun _ => rfl) (by omega)) ?_ | refine Ops.val eF rfl rfl Zw (by first | exact Z1 | exact Z2 | exact Y14 | exact Y15 | exact Z5 | exact Z6) ?_ | refine Go.skip ?_
     all_goals try simp only [e1, e2, e3] at *
     have krec := k25 ((r.drop 4).take nn) (by rw [List.length_take]; omega)
     refine Ops.round (r := R) (lst := envLs (L0I base os i) Try.f26.ntmps) rfl rfl (Want.no rfl) rfl rfl rfl rfl rfl hRt hRe (by rw [hRp]; rfl) (by rw [hRp]; simp only [hRs]; rfl) rfl (fun gx2 => ?_)
     rw [hRs, hRp, hRa, hRb]
     repeat' first | refine Go.seq ?_ | refine Go.region rfl ?_ | refine Ops.nil ?_ | refine Ops.val eF rfl rfl Zw Z1 ?_ | fail
     refine Go.body (r := R) rfl hRt ?_
     repeat' first | refine Go.seq ?_ | refine Go.region rfl ?_ | refine Ops.nil ?_ | refine Ops.val eF rfl rfl Zw (by first | exact Z1 | exact Z2) ?_ | refine Go.condF rfl ?_ | refine Go.block ?_ | refine Go.skip ?_
     have hindL : ∀ st pe, ABInd 7 (.loop { R with state := st, pending := pe }) := fun st pe => ⟨envLs (L0I base os i) Try.f26.ntmps, hRe, rfl, by show R.defers ≠ 7; rw [hRd]; decide⟩
     refine Go.anyD hm ?_
     apply share
     ·intro key
      repeat' first | refine Ops.nil ?_ | refine Ops.val eF rfl rfl Zw (by first | exact Z1 | exact Z5) ?_ | refine Ops.call eF rfl rfl Zw rfl rfl rfl rfl (krec) rfl ?_ | refine Ops.data eF rfl rfl Zw rfl (Hop.bslice eF rfl rfl rfl rfl rfl rfl rfl rfl rfl rfl rfl) rfl rfl ?_ | refine Ops.appendE eF rfl rfl Zw rfl rfl rfl rfl rfl rfl rfl rfl rfl rfl rfl rfl rfl rfl rfl rfl (by repeat' first | exact trivial | refine And.intro ?_ ?_ | exact .inr trivial | exact .inr (ind_row rfl rfl) | exact .inr rfl | exact .inl rfl | exact .inr (hindL _ _) | exact .inr (esD _)) rfl rfl rfl rfl rfl Zz (by omega) ?_ | refine Ops.unit eF rfl Zw (Hop.store eF rfl rfl rfl rfl rfl rfl) (ArrKeep.put rfl) ?_ | refine Go.unblk ?_ | refine Go.anyEnd rfl ?_ | refine Go.any1 rfl rfl ?_ | refine Go.any2 rfl rfl rfl ?_ ?_
      all_goals exact Go.sub (M := []) trivial key.h
     refine Go.roundN rfl ?_
     repeat' first | refine Go.region rfl ?_ | refine Ops.nil ?_ | refine Ops.val eF rfl rfl Zw Zk ?_ | refine Go.condT rfl ?_ | refine Go.condF rfl ?_ | refine Ops.val eF rfl rfl Zw (by first | exact Z1 | exact Z2 | exact Y14 | exact Z5 | exact Y41) ?_ | refine Ops.unit eF rfl Zw (Hop.store eF rfl rfl rfl rfl rfl rfl) (ArrKeep.put rfl) ?_ | refine Go.unblk ?_ | refine Go.skip ?_
     all_goals try simp only [e2] at *
     exact Go.toQ g rfl eF.g Zt rfl rfl ⟨.inr rfl, .inr rfl, .inr rfl, .inr rfl, .inr rfl, .inl rfl, .inr rfl, .inr rfl, .inr rfl, .inr rfl, .inr (congrArg AB.loop hRR), trivial⟩ ⟨low_row rfl rfl, esD l, low_row rfl rfl, low_row rfl rfl, trivial, trivial, low_row rfl rfl, trivial, low_row rfl rfl, trivial, hlow, trivial⟩ rfl rfl
    ·have hbad := recs_bad hne hok
     rw [hbad, List.append_nil] at hre
     have hno : ¬ SegsP os := fun h => by have := h.1 i hlt; rw [hbd, hre] at this; cases this
     unfold rdA
     rw [bd_no hno]
     apply share
     ·intro key
      by_cases c4 : (4 : Int) ≤ (r.length : Int)
      ·have hok' : ¬ (n4 r ≤ 65536 ∧ n4 r ≤ r.length - 4) := fun h => hok ⟨by omega, h.1, h.2⟩
       have b0 : (r.getD (0 : Int).toNat default).toNat < 256 := u8lt _
       have b1 : (r.getD (1 : Int).toNat default).toNat < 256 := u8lt _
       have b2 : (r.getD (2 : Int).toNat default).toNat < 256 := u8lt _
       have b3 : (r.getD (3 : Int).toNat default).toNat < 256 := u8lt _
       repeat' first | refine Go.seq ?_ | refine Go.region rfl ?_ | refine Ops.nil ?_ | refine Ops.val eF rfl rfl Zw (by first | exact Z1 | exact Z3 | exact Z5 | exact Z6) ?_ | refine Go.condTt rfl Za ?_ | refine Go.block ?_ | refine Go.skip ?_
       refine Go.draw eF hm [] [0, 1, 2, 3, 4, 5, 6, 7, 8, 9, 10, 11, 12, 13, 14, 15, 16, 17, 18, 19, 20, 21, 22] dr47_0 ?_
       repeat' first | refine Dr.nil ?_ | refine Dr.pure rfl rfl rfl rfl Zw (by first | exact Hop.shlI (k := 24) rfl rfl rfl (by decide) (by omega) | exact Hop.shlI (k := 16) rfl rfl rfl (by decide) (by omega) | exact Hop.shlI (k := 8) rfl rfl rfl (by decide) (by omega) | exact Hop.orI 24 rfl rfl rfl (by omega) (by omega) (by omega) | exact Hop.orI 16 rfl rfl rfl (by omega) (by omega) (by omega) | exact Hop.orI 8 rfl rfl rfl (by omega) (by omega) (by omega)) ?_ | refine Dr.pure rfl rfl rfl rfl Zw (by first | exact Z1 | exact Y20 | exact Y24 | exact Z5) ?_ | refine Dr.light rfl rfl rfl rfl Zw (by first | exact Y20 | exact Z5) ?_ | fail
       refine Go.sub (M := [(0, .fn (.yield 10) [] []), (1, .ptr 8 0), (3, .int .i64 ((n4 r : Nat) : Int))]) ⟨rfl, rfl, congrArg (fun z : Nat => some (AV.int .i64 (z : Int))) (n4_int r), trivial⟩ ?_
       clear b0 b1 b2 b3
       generalize n4 r = nn at *
       by_cases c5 : nn ≤ 65536
       ·have c6 : r.length - 4 < nn := by omega
        repeat' first | refine Go.seq ?_ | refine Go.region rfl ?_ | refine Ops.nil ?_ | refine Ops.val eF rfl rfl Zw Zk ?_ | refine Go.condT rfl ?_ | refine Go.condF rfl ?_ | refine Ops.val eF rfl rfl Zw (by first | exact Z1 | exact Z2 | exact Y15 | exact Z5 | exact Z6) ?_ | fail
        refine Ops.sub (M := [(0, .fn (.yield 10) [] []), (1, .ptr 8 0), (41, .fn (.yield 10) [] [])]) Zt ?_
        exact key.h
       ·repeat' first | refine Go.seq ?_ | refine Go.region rfl ?_ | refine Ops.nil ?_ | refine Ops.val eF rfl rfl Zw Zk ?_ | refine Go.condT rfl ?_ | refine Go.condF rfl ?_ | refine Ops.val eF rfl rfl Zw (by first | exact Z1 | exact Z2) ?_ | refine Ops.skip rfl rfl Zn ?_ | fail
        refine Ops.sub (M := [(0, .fn (.yield 10) [] []), (1, .ptr 8 0), (41, .fn (.yield 10) [] [])]) Zt ?_
        exact key.h
      ·repeat' first | refine Go.seq ?_ | refine Go.region rfl ?_ | refine Ops.nil ?_ | refine Ops.val eF rfl rfl Zw Zk ?_ | refine Go.condT rfl ?_ | refine Go.condF rfl ?_ | refine Ops.val eF rfl rfl Zw (by first | exact Z1 | exact Z2 | exact Z3 | exact Z5 | exact Z6) ?_ | refine Ops.skip rfl rfl Zn ?_ | refine Go.condFt rfl Za ?_ | refine Go.block ?_ | refine Go.skip ?_
       refine Ops.sub (M := [(0, .fn (.yield 10) [] []), (1, .ptr 8 0), (41, .fn (.yield 10) [] [])]) Zt ?_
       exact key.h
     refine Ops.round (r := R) (lst := envLs (L0I base os i) Try.f26.ntmps) rfl rfl (Want.no rfl) rfl rfl rfl rfl rfl hRt hRe (by rw [hRp]; rfl) (by rw [hRp]; simp only [hRs]; rfl) rfl (fun gx2 => ?_)
     rw [hRs, hRp, hRa, hRb]
     repeat' first | refine Go.seq ?_ | refine Go.region rfl ?_ | refine Ops.nil ?_ | refine Ops.val eF rfl rfl Zw Z1 ?_ | fail
     refine Go.body (r := R) rfl hRt ?_
     repeat' first | refine Go.seq ?_ | refine Go.region rfl ?_ | refine Ops.nil ?_ | refine Ops.val eF rfl rfl Zw (by first | exact Z1 | exact Z2) ?_ | refine Ops.unit eF rfl Zw (Hop.store eF rfl rfl rfl rfl rfl rfl) (ArrKeep.put rfl) ?_ | refine Go.condT rfl ?_ | refine Go.block ?_
     refine Go.roundR rfl ?_
     repeat' first | refine Ops.nil ?_ | refine Go.exit rfl ?_ | refine Go.endI rfl ?_
     refine Go.afterRt rfl rfl (.inr rfl) fun e he => ?_
     refine fin_M (X := ⟨cF, w, F, opn, none, none, [], [.ptr 0 0, .mp 1], gx⟩) [.nilsl, .int .i64 230] he (fun d q => by rcases List.mem_singleton.1 q with rfl; exact ⟨(show 2 ≤ 9 by decide), rfl⟩) (List.nodup_cons.2 ⟨List.not_mem_nil, List.nodup_nil⟩) (fun d q => by rcases List.mem_singleton.1 q with rfl; exact (show 9 < 11 by decide)) (show 2 ≤ 11 by decide) (fun h' hh => ?_) rfl ?_
     ·exact ⟨res_cell eF rfl rfl rfl rfl (hh 2 (show 2 < 11 by decide) (by simp)), res_cell eF rfl rfl rfl rfl (hh 3 (show 3 < 11 by decide) (by simp)), trivial⟩
     ·exact ⟨⟨_, rfl, rfl, rfl, rfl, rfl⟩, rfl, trivial⟩
   ·as_aux_lemma =>
     have er : r = [] := List.length_eq_zero_iff.1 (by omega)
     subst er
     rw [recs_nil (b := []) rfl, List.append_nil] at hre
     have hr : (recs bb).2 = true := by rw [hre]
     repeat' first | refine Go.seq ?_ | refine Go.region rfl ?_ | refine Ops.nil ?_ | refine Ops.val eF rfl rfl Zw (by first | exact Z3 | exact Z5 | exact Z6) ?_ | refine Go.condFt rfl Za ?_ | refine Go.exit rfl ?_ | refine Go.endI rfl ?_
     refine Go.afterN (r := R) rfl hRn (.inl hRt) ?_
     refine Go.unblk ?_
     refine Go.toHQ (N := 10) (bs := [.row ⟨62, 7, .leaf, volC 1, none⟩, .map (mE keyI bysA l) n, .row ⟨35, 1, .leaf, [.nilsl], none⟩, .row ⟨24, 1, .leaf, [.int .i64 0], none⟩, .arr 22 1 (segs (os.take i)).length ((segs (os.take i)).flatMap encS), .none, .row ⟨22, 1, .leaf, [.own 7 out.length 1], none⟩, .arr 30 1 out.length (out.flatMap encL), .none, .dfr true]) (L' := [(0, .ptr 0 0), (1, .int .i64 base), (4, .ptr 2 0), (5, .ptr 3 0), (6, .own 4 (segs (os.take i)).length 1), (7, .int .i64 i), (10, .ptr 6 0)]) ?_ rfl eF.g Zt rfl rfl Zg ⟨low_row rfl rfl, esD l, low_row rfl rfl, low_row rfl rfl, trivial, trivial, low_row rfl rfl, trivial, trivial, trivial, trivial⟩ rfl rfl
     refine Go.change (Chg.cellFrz 6 7 rfl rfl (by repeat' first | exact trivial | refine And.intro ?_ ?_ | exact .inr trivial | exact .inr (ind_row rfl rfl) | exact .inr (esD l) | exact .inr rfl | exact .inl rfl) rfl rfl rfl) ?_
     repeat' first | refine Go.region rfl ?_ | refine Ops.nil ?_ | refine Ops.val eF rfl rfl Zw (by first | exact Z1 | exact Y14 | exact Z5) ?_ | refine Ops.data eF rfl rfl Zw rfl (Hop.bslice eF rfl rfl rfl rfl rfl rfl rfl rfl rfl rfl rfl) rfl rfl ?_ | refine Ops.appendE eF rfl rfl Zw rfl rfl rfl rfl rfl rfl rfl rfl rfl rfl rfl rfl rfl rfl rfl rfl (by repeat' first | exact trivial | refine And.intro ?_ ?_ | exact .inr trivial | exact .inr (ind_row rfl rfl) | exact .inr rfl | exact .inl rfl | exact .inr (hindL _ _) | exact .inr (esD _)) rfl rfl rfl rfl rfl Zz (by omega) ?_ | refine Go.unblk ?_
     refine Go.nextM (i + 1) (hP' hr) (by show os.length - (i + 1) < os.length - i; omega) ?_ ?_ rfl (fun d q => by rcases List.mem_singleton.1 q with rfl; exact ⟨by decide, rfl⟩) (List.nodup_cons.2 ⟨List.not_mem_nil, List.nodup_nil⟩)
     ·refine (show SubL _ (S26 base os (i + 1)) from ?_)
      unfold S26
      rw [segs_succ hlt, List.length_append, hbd, hre]
      exact Zt
     ·refine (show getsP _ (H26 l n os (i + 1)) 0 from ?_)
      unfold H26
      rw [segs_succ hlt, List.length_append, List.flatMap_append, hbd, hre]
      exact Zg
 ·have ei : i = os.length := by omega
  subst ei
  have k1 := m42n l n (base + os.length) ho.2
  have hyes : SegsP os := ⟨hP.2.1, hP.2.2⟩
  unfold rdA
  rw [bd_of hyes]
  rw [List.take_length] at *
  repeat' first | refine Go.seq ?_ | refine Go.region rfl ?_ | refine Ops.nil ?_ | refine Ops.callM (v' := .tup [.nilsl, .bool false]) (ab := [.row ⟨62, 7, .leaf, volC 1, none⟩, .map (mE keyI bysA l) n]) eF [0, 1] 5 Zw rfl rfl rfl rfl (k1) rfl (wk_eq rfl) rfl (by repeat' first | exact trivial | exact ⟨rfl, ⟨_, rfl, rfl, rfl, rfl, rfl⟩⟩ | exact ⟨rfl, rfl⟩ | refine And.intro ?_ ?_) (by repeat' first | exact trivial | exact .inl rfl | exact .inr trivial | exact .inr rfl | exact .inr (ok_row rfl rfl) | exact .inr (mE_dat _ _ (fun _ => rfl) _) | refine And.intro ?_ ?_) rfl rfl rfl rfl rfl rfl rfl ?_ | refine Ops.val eF rfl rfl Zw (by first | exact Z1 | exact Z2 | exact Y14) ?_ | refine Go.condT rfl ?_ | refine Go.block ?_
  refine Go.exitM (NE := 5) (L2 := [(4, .ptr 2 0), (5, .ptr 3 0), (6, .own 4 (segs os).length 1)]) (bs := [.row ⟨62, 7, .leaf, volC 1, none⟩, .map (mE keyI bysA l) n, .row ⟨35, 1, .leaf, [.nilsl], none⟩, .row ⟨24, 1, .leaf, [.int .i64 0], none⟩, .arr 22 1 (segs os).length ((segs os).flatMap encS)]) (fun b => ?_) rfl rfl eF.g rfl rfl Zt rfl ⟨low_row rfl rfl, esD l, low_row rfl rfl, low_row rfl rfl, trivial, trivial⟩ rfl rfl rfl Zg (fun d q => by cases q) List.nodup_nil (fun d q => by cases q)
  repeat' first | refine Go.seq ?_ | refine Go.region rfl ?_ | refine Ops.nil ?_ | refine Ops.frzMv eF 56 rfl rfl rfl Zw Z1 rfl (by repeat' first | exact trivial | refine And.intro ?_ ?_ | exact .inr trivial | exact .inr (ind_row rfl rfl) | exact .inr (esD l) | exact .inr rfl | exact .inl rfl) rfl rfl rfl rfl ?_ | refine Ops.unit eF rfl Zw (Hop.store eF rfl rfl rfl rfl rfl rfl) (ArrKeep.put rfl) ?_ | fail
  refine Go.ret fun e he => fin_M (X := ⟨cF, w, F, opn, none, none, [], [.ptr 0 0, .mp 1], gx⟩) [segA (segs os), .int .i64 0] he (fun d q => by cases q) List.nodup_nil (fun d q => by cases q) (show 2 ≤ 5 by decide) (fun h' hh => ?_) rfl ?_
  ·exact ⟨res_cell eF rfl rfl rfl rfl (hh 2 (show 2 < 5 by decide) (by simp)), res_cell eF rfl rfl rfl rfl (hh 3 (show 3 < 5 by decide) (by simp)), trivial⟩
  ·exact ⟨⟨_, rfl, rfl, rfl, rfl, rfl⟩, rfl, trivial⟩
end Go.Px.Lr
end
