/- Parts of the proof in YtdccabejobkkcaaRFin: LrJ, LrK. -/
import Derived.Test.YtdccabejobkkcaaRLg
import Derived.Test.YtdccabejobkkcaaRK4
set_option linter.unusedVariables false
set_option linter.unusedSimpArgs false
section
set_option maxHeartbeats 4000000
set_option maxRecDepth 20000
namespace Go.Px.Lr
open Go.Proofs
attribute [local irreducible] Go.Px.KOk
theorem eqV32 (i o : Nat) : eqv cF 6 32 (.ptr i o) .nilptr = some false := by kernel_rfl
def ledC (s : List (List Str)) (base room : Int) (v : Nat) : List AV := [.ptr v 0, .int .i64 base, .int .i64 room, segA s]
noncomputable def ledM (s : List (List Str)) (base room : Int) (l : Objs) (n : Nat) : List MB := [.row 82 (ledC s base room 1), .row 62 (volC 2), .map (mE keyI bysA l) n]
noncomputable def ledB (s : List (List Str)) (base room : Int) (l : Objs) (n : Nat) : List AB := [.row ⟨82, 4, .leaf, ledC s base room 1, none⟩, .row ⟨62, 7, .leaf, volC 2, none⟩, .map (mE keyI bysA l) n]
theorem loL (s : List (List Str)) (base room : Int) (l : Objs) (n : Nat) : lowM (ledM s base room l n).length (ledM s base room l n) = true := by
 show lowM 3 [.row 82 (ledC s base room 1), .row 62 (volC 2), .map (mE keyI bysA l) n] = true
 simp only [lowM, MB.low, esD]; rfl
noncomputable def opnM (os : List Str) (base room : Int) (l : Objs) (n : Nat) : List MB := [.row 62 (volC 1), .map (mE keyI bysA l) n, .row 82 (ledC (segs os) base room 0)]
theorem loO (os : List Str) (base room : Int) (l : Objs) (n : Nat) : lowM (opnM os base room l n).length (opnM os base room l n) = true := by
 show lowM 3 [.row 62 (volC 1), .map (mE keyI bysA l) n, .row 82 (ledC (segs os) base room 0)] = true
 simp only [lowM, MB.low, esD]; rfl
theorem m8y (l : Objs) (n : Nat) (base room : Int) (os : List Str) (hb : 0 ≤ base ∧ base ≤ 3595) (hr : 64 ≤ room ∧ room ≤ 524288) (ho : ObjsAt l base os) (hl : os.length ≤ 400) (hs : ∀ i, (os.getD i default).length ≤ 1000000) (hyes : SegsP os) : KM cF 8 (volM l n) [.ptr 0 0, .int .i64 base, .int .i64 room] (.tup [.ptr 2 0, .int .i64 0]) (opnM os base room l n) := by
 refine KM.of (N := 2) (ab := [.row ⟨62, 7, .leaf, volC 1, none⟩, .map (mE keyI bysA l) n]) (gv := [.ptr 0 0, .mp 1]) cF_ok eF.g Try.func8 rfl rfl rfl rfl (Nat.le_of_ble_eq_true rfl) rfl (loV l n) rfl (loO _ _ _ _ _) rfl rfl fun w F opn gx => ?_
 have k1 := m26 l n base os hb ho hl hs
 unfold rdA at k1
 rw [bd_of hyes] at k1
 obtain ⟨hb0, hb1⟩ := hb
 obtain ⟨hr0, hr1⟩ := hr
 repeat' first | refine Go.seq ?_ | refine Go.region rfl ?_ | refine Ops.nil ?_ | refine Ops.val eF rfl rfl Zw Zk ?_ | refine Go.condT rfl ?_ | refine Go.condF rfl ?_ | refine Ops.val eF rfl rfl Zw (by exact Hop.eqD rfl rfl rfl rfl (eqV _ _)) ?_ | refine Ops.callM (v' := .tup [segA (segs os), .int .i64 0]) (ab := [.row ⟨62, 7, .leaf, volC 1, none⟩, .map (mE keyI bysA l) n]) eF [0, 1] 2 Zw rfl rfl rfl rfl (k1) rfl (wk_eq rfl) rfl (by repeat' first | exact trivial | exact ⟨rfl, ⟨_, rfl, rfl, rfl, rfl, rfl⟩⟩ | exact ⟨rfl, rfl⟩ | refine And.intro ?_ ?_) (by repeat' first | exact trivial | exact .inl rfl | exact .inr trivial | exact .inr rfl | exact .inr (ok_row rfl rfl) | exact .inr (mE_dat _ _ (fun _ => rfl) _) | refine And.intro ?_ ?_) rfl rfl rfl rfl rfl rfl rfl ?_ | refine Ops.val eF rfl rfl Zw (by first | exact Z1 | exact Z2 | exact Y36) ?_ | refine Ops.rowAt eF 2 rfl rfl Zw rfl (Hop.boxC rfl rfl rfl) ?_ | refine Go.skip ?_ | refine Go.retM rfl rfl ?_ ?_ rfl
 all_goals first | rfl | exact ⟨⟨_, rfl, rfl, rfl, rfl, rfl⟩, rfl, ⟨_, rfl, rfl, rfl, rfl, rfl⟩, trivial⟩
theorem m8n (l : Objs) (n : Nat) (base room : Int) (os : List Str) (hb : 0 ≤ base ∧ base ≤ 3595) (hr : 64 ≤ room ∧ room ≤ 524288) (ho : ObjsAt l base os) (hl : os.length ≤ 400) (hs : ∀ i, (os.getD i default).length ≤ 1000000) (hno : ¬ SegsP os) : KM cF 8 (volM l n) [.ptr 0 0, .int .i64 base, .int .i64 room] (.tup [.nilptr, .int .i64 230]) (volM l n) := by
 refine KM.of (N := 2) (ab := [.row ⟨62, 7, .leaf, volC 1, none⟩, .map (mE keyI bysA l) n]) (gv := [.ptr 0 0, .mp 1]) cF_ok eF.g Try.func8 rfl rfl rfl rfl (Nat.le_of_ble_eq_true rfl) rfl (loV l n) rfl (loV _ _) rfl rfl fun w F opn gx => ?_
 have k1 := m26 l n base os hb ho hl hs
 unfold rdA at k1
 rw [bd_no hno] at k1
 obtain ⟨hb0, hb1⟩ := hb
 obtain ⟨hr0, hr1⟩ := hr
 repeat' first | refine Go.seq ?_ | refine Go.region rfl ?_ | refine Ops.nil ?_ | refine Ops.val eF rfl rfl Zw Zk ?_ | refine Go.condT rfl ?_ | refine Go.condF rfl ?_ | refine Go.condNn rfl Za ?_ | refine Ops.val eF rfl rfl Zw (by exact Hop.eqD rfl rfl rfl rfl (eqV _ _)) ?_ | refine Ops.callM (v' := .tup [.nilsl, .int .i64 230]) (ab := [.row ⟨62, 7, .leaf, volC 1, none⟩, .map (mE keyI bysA l) n]) eF [0, 1] 2 Zw rfl rfl rfl rfl (k1) rfl (wk_eq rfl) rfl (by repeat' first | exact trivial | exact ⟨rfl, ⟨_, rfl, rfl, rfl, rfl, rfl⟩⟩ | exact ⟨rfl, rfl⟩ | refine And.intro ?_ ?_) (by repeat' first | exact trivial | exact .inl rfl | exact .inr trivial | exact .inr rfl | exact .inr (ok_row rfl rfl) | exact .inr (mE_dat _ _ (fun _ => rfl) _) | refine And.intro ?_ ?_) rfl rfl rfl rfl rfl rfl rfl ?_ | refine Ops.val eF rfl rfl Zw (by first | exact Z1 | exact Z2 | exact Z3) ?_ | refine Go.skip ?_ | refine Go.retM rfl rfl ?_ ?_ rfl
 all_goals first | rfl | exact ⟨⟨_, rfl, rfl, rfl, rfl, rfl⟩, rfl, trivial⟩
theorem m32 (s : List (List Str)) (base room : Int) (l : Objs) (n : Nat) : KM cF 32 (ledM s base room l n) [.ptr 0 0] (.bool false) (ledM s base room l n) := by
 refine KM.of (N := 3) (ab := ledB s base room l n) (gv := [.ptr 0 0, .ptr 1 0, .mp 2]) cF_ok eF.g Try.func32 rfl rfl rfl rfl (Nat.le_of_ble_eq_true rfl) rfl (loL _ _ _ _ _) rfl (loL _ _ _ _ _) rfl rfl fun w F opn gx => ?_
 unfold ledB
 repeat' first | refine Go.seq ?_ | refine Go.region rfl ?_ | refine Ops.nil ?_ | refine Ops.val eF rfl rfl Zw (Hop.nilC rfl rfl) ?_ | refine Ops.val eF rfl rfl Zw (by first | exact Hop.eqD rfl rfl rfl rfl (eqV32 _ _) | exact Hop.eqD rfl rfl rfl rfl (eqV _ _)) ?_ | refine Ops.val eF rfl rfl Zw (by first | exact Z1 | exact Z2 | exact Z4 | exact Z5) ?_ | refine Go.retM rfl rfl ?_ ?_ rfl
 all_goals first | rfl | exact ⟨⟨_, rfl, rfl, rfl, rfl, rfl⟩, ⟨_, rfl, rfl, rfl, rfl, rfl⟩, rfl, trivial⟩
theorem m16 (s : List (List Str)) (base room : Int) (l : Objs) (n : Nat) : KM cF 16 (ledM s base room l n) [.ptr 0 0] (.int .i64 s.length) (ledM s base room l n) := by
 refine KM.of (N := 3) (ab := ledB s base room l n) (gv := [.ptr 0 0, .ptr 1 0, .mp 2]) cF_ok eF.g Try.func16 rfl rfl rfl rfl (Nat.le_of_ble_eq_true rfl) rfl (loL _ _ _ _ _) rfl (loL _ _ _ _ _) rfl rfl fun w F opn gx => ?_
 unfold ledB
 repeat' first | refine Go.seq ?_ | refine Go.region rfl ?_ | refine Ops.nil ?_ | refine Ops.val eF rfl rfl Zw (Hop.nilC rfl rfl) ?_ | refine Ops.callM (v' := .bool false) (ab := [.row ⟨82, 4, .leaf, ledC s base room 1, none⟩, .row ⟨62, 7, .leaf, volC 2, none⟩, .map (mE keyI bysA l) n]) eF [0, 1, 2] 3 Zw rfl rfl rfl rfl (m32 s base room l n) rfl (wk_eq rfl) rfl (by repeat' first | exact trivial | exact ⟨rfl, ⟨_, rfl, rfl, rfl, rfl, rfl⟩⟩ | exact ⟨rfl, rfl⟩ | refine And.intro ?_ ?_) (by repeat' first | exact trivial | exact .inl rfl | exact .inr trivial | exact .inr rfl | exact .inr (ok_row rfl rfl) | exact .inr (mE_dat _ _ (fun _ => rfl) _) | refine And.intro ?_ ?_) rfl rfl rfl rfl rfl rfl rfl ?_ | refine Ops.val eF rfl rfl Zw (by first | exact Z1 | exact Z4 | exact Z5 | exact Z6) ?_ | refine Go.condF rfl ?_ | refine Go.skip ?_ | refine Go.retM rfl rfl ?_ ?_ rfl
 all_goals first | rfl | exact ⟨⟨_, rfl, rfl, rfl, rfl, rfl⟩, ⟨_, rfl, rfl, rfl, rfl, rfl⟩, rfl, trivial⟩
theorem flat_len_succ {s : List (List Str)} {i : Nat} (h : i < s.length) : (s.take (i + 1)).flatten.length = (s.take i).flatten.length + (s.getD i default).length := by
 rw [take_succ'' h, List.flatten_append, List.length_append]; simp
theorem flat_take_le (s : List (List Str)) (i : Nat) : (s.take i).flatten.length ≤ s.flatten.length := by
 conv => rhs; rw [← List.take_append_drop i s, List.flatten_append, List.length_append]
 omega
theorem m15 (s : List (List Str)) (base room : Int) (l : Objs) (n : Nat) (hs : s.flatten.length ≤ 1000000) (hsl : s.length ≤ 1000000) : KM cF 15 (ledM s base room l n) [.ptr 0 0] (.int .i64 s.flatten.length) (ledM s base room l n) := by
 refine KM.of (N := 3) (ab := ledB s base room l n) (gv := [.ptr 0 0, .ptr 1 0, .mp 2]) cF_ok eF.g Try.func15 rfl rfl rfl rfl (Nat.le_of_ble_eq_true rfl) rfl (loL _ _ _ _ _) rfl (loL _ _ _ _ _) rfl rfl fun w F opn gx => ?_
 unfold ledB
 repeat' first | refine Go.seq ?_ | refine Go.region rfl ?_ | refine Ops.nil ?_ | refine Ops.val eF rfl rfl Zw (Hop.nilC rfl rfl) ?_ | refine Ops.callM (v' := .bool false) (ab := [.row ⟨82, 4, .leaf, ledC s base room 1, none⟩, .row ⟨62, 7, .leaf, volC 2, none⟩, .map (mE keyI bysA l) n]) eF [0, 1, 2] 3 Zw rfl rfl rfl rfl (m32 s base room l n) rfl (wk_eq rfl) rfl (by repeat' first | exact trivial | exact ⟨rfl, ⟨_, rfl, rfl, rfl, rfl, rfl⟩⟩ | exact ⟨rfl, rfl⟩ | refine And.intro ?_ ?_) (by repeat' first | exact trivial | exact .inl rfl | exact .inr trivial | exact .inr rfl | exact .inr (ok_row rfl rfl) | exact .inr (mE_dat _ _ (fun _ => rfl) _) | refine And.intro ?_ ?_) rfl rfl rfl rfl rfl rfl rfl ?_ | refine Ops.val eF rfl rfl Zw (by first | exact Z1 | exact Z2 | exact Z4 | exact Z5 | exact Z6) ?_ | refine Go.condT rfl ?_ | refine Go.block ?_
 refine Go.toHQ (N := 3) (bs := [.row ⟨82, 4, .leaf, ledC s base room 1, none⟩, .row ⟨62, 7, .leaf, volC 2, none⟩, .map (mE keyI bysA l) n]) (L' := [(3, .int .i64 ((s.take 0).flatten.length : Nat)), (12, segA s), (13, .int .i64 (s.length : Nat)), (14, .int .i64 (0 : Nat))]) ?_ rfl eF.g Zt rfl rfl Zg ⟨low_row rfl rfl, low_row rfl rfl, esD l, trivial⟩ rfl rfl
 refine Go.loop (fun i : Nat => [(3, .int .i64 ((s.take i).flatten.length : Nat)), (12, segA s), (13, .int .i64 (s.length : Nat)), (14, .int .i64 i)]) (fun i => hq 3 [.row ⟨82, 4, .leaf, ledC s base room 1, none⟩, .row ⟨62, 7, .leaf, volC 2, none⟩, .map (mE keyI bysA l) n]) (fun i => i ≤ s.length) (fun i => s.length - i) 0 (Nat.zero_le _) Zt rfl (fun i hi ih => ?_)
 by_cases c0 : (i : Int) < (s.length : Int)
 ·have g := ih (i + 1) (by omega) (by omega)
  have hf := flat_len_succ (s := s) (i := i) (by omega)
  have hle := flat_take_le s (i + 1)
  have hf : (s.take (i + 1)).flatten.length = (s.take i).flatten.length + (s.getD (i : Int).toNat default).length := hf
  repeat' first | refine Go.seq ?_ | refine Go.region rfl ?_ | refine Ops.nil ?_ | refine Ops.val eF rfl rfl Zw (by first | exact Z1 | exact Z3 | exact Y14 | exact Y24 | exact Z5 | exact Z6) ?_ | refine Go.condTt rfl Za ?_ | refine Go.block ?_ | refine Go.unblk ?_ | refine Go.skip ?_
  exact Go.sub (M := [(3, .int .i64 ((s.take (i + 1)).flatten.length : Nat)), (12, segA s), (13, .int .i64 (s.length : Nat)), (14, .int .i64 ((i + 1 : Nat) : Int))]) ⟨by rw [hf]; rfl, rfl, rfl, rfl, trivial⟩ g
 ·have ei : i = s.length := by omega
  subst ei
  rw [List.take_length]
  repeat' first | refine Go.seq ?_ | refine Go.region rfl ?_ | refine Ops.nil ?_ | refine Ops.val eF rfl rfl Zw (by first | exact Z1 | exact Z3) ?_ | refine Go.condFt rfl Za ?_ | refine Go.exit rfl ?_ | refine Go.retM rfl rfl ?_ ?_ rfl
  all_goals first | rfl | exact ⟨⟨_, rfl, rfl, rfl, rfl, rfl⟩, ⟨_, rfl, rfl, rfl, rfl, rfl⟩, rfl, trivial⟩
def recAt (s : List (List Str)) (i : Int) : Option Str := if 0 ≤ i then s.flatten[i.toNat]? else none
theorem rec_hit {s : List (List Str)} {i j : Nat} (h : i < s.length) (hj : j < (s.getD i default).length) : s.flatten[(s.take i).flatten.length + j]? = some ((s.getD i default).getD j default) := by
 have e : s = s.take i ++ ((s.getD i default) :: s.drop (i + 1)) := by
  conv => lhs; rw [← List.take_append_drop i s, List.drop_eq_getElem_cons h]
  rw [List.getD_eq_getElem?_getD, List.getElem?_eq_getElem h]; rfl
 generalize s.getD i default = x at *
 have e2 : s.flatten = (s.take i).flatten ++ (x ++ (s.drop (i + 1)).flatten) := by
  conv => lhs; rw [e]
  rw [List.flatten_append, List.flatten_cons]
 rw [e2, List.getElem?_append_right (by omega), show (s.take i).flatten.length + j - (s.take i).flatten.length = j by omega, List.getElem?_append_left hj, List.getD_eq_getElem?_getD, List.getElem?_eq_getElem hj]; rfl
theorem m17 (s : List (List Str)) (base room : Int) (l : Objs) (n : Nat) (hs : s.flatten.length ≤ 1000000) (hsl : s.length ≤ 1000000) (hsb : ∀ j k, ((s.getD j default).getD k default).length ≤ 1000000) (at_ : Int) (ha : -1000000 ≤ at_ ∧ at_ ≤ 1000000) : KM cF 17 (ledM s base room l n) [.ptr 0 0, .int .i64 at_] (match recAt s at_ with | some b => .tup [bysA b, .bool true] | none => .tup [.nilsl, .bool false]) (ledM s base room l n) := by
 refine KM.of (N := 3) (ab := ledB s base room l n) (gv := [.ptr 0 0, .ptr 1 0, .mp 2]) cF_ok eF.g Try.func17 rfl rfl rfl rfl (Nat.le_of_ble_eq_true rfl) rfl (loL _ _ _ _ _) rfl (loL _ _ _ _ _) (by cases recAt s at_ <;> rfl) rfl fun w F opn gx => ?_
 unfold ledB
 obtain ⟨ha0, ha1⟩ := ha
 by_cases cn : at_ < 0
 ·have hr : recAt s at_ = none := if_neg (by omega)
  rw [hr]
  repeat' first | refine Go.seq ?_ | refine Go.region rfl ?_ | refine Ops.nil ?_ | refine Ops.callM (v' := .bool false) (ab := [.row ⟨82, 4, .leaf, ledC s base room 1, none⟩, .row ⟨62, 7, .leaf, volC 2, none⟩, .map (mE keyI bysA l) n]) eF [0, 1, 2] 3 Zw rfl rfl rfl rfl (m32 s base room l n) rfl (wk_eq rfl) rfl (by repeat' first | exact trivial | exact ⟨rfl, ⟨_, rfl, rfl, rfl, rfl, rfl⟩⟩ | exact ⟨rfl, rfl⟩ | refine And.intro ?_ ?_) (by repeat' first | exact trivial | exact .inl rfl | exact .inr trivial | exact .inr rfl | exact .inr (ok_row rfl rfl) | exact .inr (mE_dat _ _ (fun _ => rfl) _) | refine And.intro ?_ ?_) rfl rfl rfl rfl rfl rfl rfl ?_ | refine Ops.val eF rfl rfl Zw (by first | exact Z1 | exact Z2 | exact Z3) ?_ | refine Go.condTt rfl Za ?_ | refine Go.retM rfl rfl ?_ ?_ rfl
  all_goals first | rfl | exact ⟨⟨_, rfl, rfl, rfl, rfl, rfl⟩, ⟨_, rfl, rfl, rfl, rfl, rfl⟩, rfl, trivial⟩
 ·repeat' first | refine Go.seq ?_ | refine Go.region rfl ?_ | refine Ops.nil ?_ | refine Ops.val eF rfl rfl Zw (Hop.nilC rfl rfl) ?_ | refine Ops.callM (v' := .bool false) (ab := [.row ⟨82, 4, .leaf, ledC s base room 1, none⟩, .row ⟨62, 7, .leaf, volC 2, none⟩, .map (mE keyI bysA l) n]) eF [0, 1, 2] 3 Zw rfl rfl rfl rfl (m32 s base room l n) rfl (wk_eq rfl) rfl (by repeat' first | exact trivial | exact ⟨rfl, ⟨_, rfl, rfl, rfl, rfl, rfl⟩⟩ | exact ⟨rfl, rfl⟩ | refine And.intro ?_ ?_) (by repeat' first | exact trivial | exact .inl rfl | exact .inr trivial | exact .inr rfl | exact .inr (ok_row rfl rfl) | exact .inr (mE_dat _ _ (fun _ => rfl) _) | refine And.intro ?_ ?_) rfl rfl rfl rfl rfl rfl rfl ?_ | refine Ops.val eF rfl rfl Zw (by first | exact Z1 | exact Z2 | exact Z3 | exact Z4 | exact Z5 | exact Z6) ?_ | refine Go.condFt rfl Za ?_ | refine Go.block ?_ | refine Go.skip ?_
  refine Go.toHQ (N := 3) (bs := [.row ⟨82, 4, .leaf, ledC s base room 1, none⟩, .row ⟨62, 7, .leaf, volC 2, none⟩, .map (mE keyI bysA l) n]) (L' := [(1, .int .i64 (at_ - ((s.take 0).flatten.length : Nat))), (17, segA s), (18, .int .i64 (s.length : Nat)), (19, .int .i64 (0 : Nat))]) ?_ rfl eF.g ⟨by rw [List.take_zero, show (([] : List (List Str)).flatten.length : Int) = 0 from rfl, Int.sub_zero]; rfl, rfl, rfl, rfl, trivial⟩ rfl rfl Zg ⟨low_row rfl rfl, low_row rfl rfl, esD l, trivial⟩ rfl rfl
  refine Go.loop (fun i : Nat => [(1, .int .i64 (at_ - ((s.take i).flatten.length : Nat))), (17, segA s), (18, .int .i64 (s.length : Nat)), (19, .int .i64 i)]) (fun i => hq 3 [.row ⟨82, 4, .leaf, ledC s base room 1, none⟩, .row ⟨62, 7, .leaf, volC 2, none⟩, .map (mE keyI bysA l) n]) (fun i => i ≤ s.length ∧ ((s.take i).flatten.length : Int) ≤ at_) (fun i => s.length - i) 0 ⟨Nat.zero_le _, by rw [List.take_zero]; show (0 : Int) ≤ _; omega⟩ Zt rfl (fun i hi ih => ?_)
  obtain ⟨hi, hle⟩ := hi
  by_cases c0 : (i : Int) < (s.length : Int)
  ·have hlt : i < s.length := by omega
   have hf : (s.take (i + 1)).flatten.length = (s.take i).flatten.length + (s.getD (i : Int).toNat default).length := flat_len_succ hlt
   by_cases c1 : at_ - ((s.take i).flatten.length : Int) < ((s.getD (i : Int).toNat default).length : Int)
   ·have hh := rec_hit (j := (at_ - ((s.take i).flatten.length : Int)).toNat) hlt (by show _ < (s.getD (i : Int).toNat default).length; omega)
    have hr : recAt s at_ = some ((s.getD i default).getD (at_ - ((s.take i).flatten.length : Int)).toNat default) := by
     unfold recAt
     rw [if_pos (by omega), ← hh]
     congr 1; omega
    rw [hr]
    have kc := k25 ((s.getD i default).getD (at_ - ((s.take i).flatten.length : Int)).toNat default) (hsb _ _)
    repeat' first | refine Go.seq ?_ | refine Go.region rfl ?_ | refine Ops.nil ?_ | refine Ops.val eF rfl rfl Zw (by first | exact Z1 | exact Z3 | exact Y24 | exact Z5 | exact Z6) ?_ | refine Ops.call eF rfl rfl Zw rfl rfl rfl rfl (kc) rfl ?_ | refine Go.condTt rfl Za ?_ | refine Go.block ?_ | refine Go.skip ?_ | refine Go.retM rfl rfl ?_ ?_ rfl
    all_goals first | rfl | exact ⟨⟨_, rfl, rfl, rfl, rfl, rfl⟩, ⟨_, rfl, rfl, rfl, rfl, rfl⟩, rfl, trivial⟩
   ·have g := ih (i + 1) ⟨by omega, by omega⟩ (by omega)
    repeat' first | refine Go.seq ?_ | refine Go.region rfl ?_ | refine Ops.nil ?_ | refine Ops.val eF rfl rfl Zw (by first | exact Z1 | exact Z3 | exact Y14 | exact Y15 | exact Y24 | exact Z5 | exact Z6) ?_ | refine Go.condTt rfl Za ?_ | refine Go.condFt rfl Za ?_ | refine Go.block ?_ | refine Go.unblk ?_ | refine Go.skip ?_
    exact Go.sub (M := [(1, .int .i64 (at_ - ((s.take (i + 1)).flatten.length : Nat))), (17, segA s), (18, .int .i64 (s.length : Nat)), (19, .int .i64 ((i + 1 : Nat) : Int))]) ⟨by rw [hf]; exact congrArg (fun z => some (AV.int .i64 z)) (by omega), rfl, rfl, rfl, trivial⟩ g
  ·have ei : i = s.length := by omega
   subst ei
   rw [List.take_length] at hle
   have hr : recAt s at_ = none := by
    unfold recAt
    rw [if_pos (by omega), List.getElem?_eq_none (by omega)]
   rw [hr]
   repeat' first | refine Go.seq ?_ | refine Go.region rfl ?_ | refine Ops.nil ?_ | refine Ops.val eF rfl rfl Zw (by first | exact Z1 | exact Z3) ?_ | refine Go.condFt rfl Za ?_ | refine Go.exit rfl ?_ | refine Go.retM rfl rfl ?_ ?_ rfl
   all_goals first | rfl | exact ⟨⟨_, rfl, rfl, rfl, rfl, rfl⟩, ⟨_, rfl, rfl, rfl, rfl, rfl⟩, rfl, trivial⟩
end Go.Px.Lr
end
section
set_option maxHeartbeats 4000000
set_option maxRecDepth 20000
namespace Go.Px.Lr
open Go.Proofs
attribute [local irreducible] Go.Px.KOk
def refC (s : List (List Str)) (room : Int) : List AV := [segA s, .int .i64 room]
noncomputable def refM (s : List (List Str)) (room : Int) : List MB := [.row 37 (refC s room)]
theorem m28 (s : List (List Str)) (room : Int) (hs : s.flatten.length ≤ 1000000) (hsl : s.length ≤ 1000000) : KM cF 28 (refM s room) [.ptr 0 0] (.int .i64 s.flatten.length) (refM s room) := by
 refine KM.of (N := 1) (ab := [.row ⟨37, 2, .leaf, refC s room, none⟩]) (gv := [.ptr 0 0]) cF_ok eF.g Try.func28 rfl rfl rfl rfl (Nat.le_of_ble_eq_true rfl) rfl rfl rfl rfl rfl rfl fun w F opn gx => ?_
 repeat' first | refine Go.seq ?_ | refine Go.region rfl ?_ | refine Ops.nil ?_ | refine Ops.val eF rfl rfl Zw Z1 ?_ | refine Go.block ?_
 refine Go.toHQ (N := 1) (bs := [.row ⟨37, 2, .leaf, refC s room, none⟩]) (L' := [(0, .ptr 0 0), (3, .int .i64 ((s.take 0).flatten.length : Nat)), (4, .int .i64 (0 : Nat))]) ?_ rfl eF.g Zt rfl rfl ⟨.inr rfl, trivial⟩ Zl rfl rfl
 refine Go.loop (fun i : Nat => [(0, .ptr 0 0), (3, .int .i64 ((s.take i).flatten.length : Nat)), (4, .int .i64 i)]) (fun i => hq 1 [.row ⟨37, 2, .leaf, refC s room, none⟩]) (fun i => i ≤ s.length) (fun i => s.length - i) 0 (Nat.zero_le _) Zt rfl (fun i hi ih => ?_)
 by_cases c0 : (i : Int) < (s.length : Int)
 ·have g := ih (i + 1) (by omega) (by omega)
  have hle := flat_take_le s (i + 1)
  have hf : (s.take (i + 1)).flatten.length = (s.take i).flatten.length + (s.getD (i : Int).toNat default).length := flat_len_succ (s := s) (i := i) (by omega)
  repeat' first | refine Go.seq ?_ | refine Go.region rfl ?_ | refine Ops.nil ?_ | refine Ops.val eF rfl rfl Zw (Hop.nilC rfl rfl) ?_ | refine Ops.val eF rfl rfl Zw (by first | exact Z1 | exact Z3 | exact Y14 | exact Z4 | exact Y24 | exact Z5 | exact Z6) ?_ | refine Go.condTt rfl Za ?_ | refine Go.block ?_ | refine Go.unblk ?_ | refine Go.skip ?_
  exact Go.sub (M := [(0, .ptr 0 0), (3, .int .i64 ((s.take (i + 1)).flatten.length : Nat)), (4, .int .i64 ((i + 1 : Nat) : Int))]) ⟨rfl, by rw [hf]; rfl, rfl, trivial⟩ g
 ·have ei : i = s.length := by omega
  subst ei
  rw [List.take_length]
  repeat' first | refine Go.seq ?_ | refine Go.region rfl ?_ | refine Ops.nil ?_ | refine Ops.val eF rfl rfl Zw (Hop.nilC rfl rfl) ?_ | refine Ops.val eF rfl rfl Zw (by first | exact Z1 | exact Z3 | exact Z4 | exact Z5 | exact Z6) ?_ | refine Go.condFt rfl Za ?_ | refine Go.exit rfl ?_ | refine Go.retM rfl rfl ?_ ?_ rfl
  all_goals first | rfl | exact ⟨⟨_, rfl, rfl, rfl, rfl, rfl⟩, trivial⟩
theorem m30 (s : List (List Str)) (room : Int) (hs : s.flatten.length ≤ 1000000) (hsl : s.length ≤ 1000000) (at_ : Int) (ha : -1000000 ≤ at_ ∧ at_ ≤ 1000000) : KM cF 30 (refM s room) [.ptr 0 0, .int .i64 at_] (match recAt s at_ with | some b => .tup [bysA b, .bool true] | none => .tup [.nilsl, .bool false]) (refM s room) := by
 refine KM.of (N := 1) (ab := [.row ⟨37, 2, .leaf, refC s room, none⟩]) (gv := [.ptr 0 0]) cF_ok eF.g Try.func30 rfl rfl rfl rfl (Nat.le_of_ble_eq_true rfl) rfl rfl rfl rfl (by cases recAt s at_ <;> rfl) rfl fun w F opn gx => ?_
 obtain ⟨ha0, ha1⟩ := ha
 repeat' first | refine Go.seq ?_ | refine Go.region rfl ?_ | refine Ops.nil ?_ | refine Ops.val eF rfl rfl Zw Z1 ?_ | refine Go.block ?_
 refine Go.toHQ (N := 1) (bs := [.row ⟨37, 2, .leaf, refC s room, none⟩]) (L' := [(0, .ptr 0 0), (1, .int .i64 (at_ - ((s.take 0).flatten.length : Nat))), (6, .int .i64 (0 : Nat))]) ?_ rfl eF.g ⟨rfl, by rw [List.take_zero, show (([] : List (List Str)).flatten.length : Int) = 0 from rfl, Int.sub_zero]; rfl, rfl, trivial⟩ rfl rfl ⟨.inr rfl, trivial⟩ Zl rfl rfl
 refine Go.loop (fun i : Nat => [(0, .ptr 0 0), (1, .int .i64 (at_ - ((s.take i).flatten.length : Nat))), (6, .int .i64 i)]) (fun i => hq 1 [.row ⟨37, 2, .leaf, refC s room, none⟩]) (fun i => i ≤ s.length ∧ (at_ < 0 ∨ ((s.take i).flatten.length : Int) ≤ at_)) (fun i => s.length - i) 0 ⟨Nat.zero_le _, by rw [List.take_zero]; show _ ∨ (0 : Int) ≤ _; omega⟩ Zt rfl (fun i hi ih => ?_)
 obtain ⟨hi, hle⟩ := hi
 by_cases c0 : (i : Int) < (s.length : Int)
 ·have hlt : i < s.length := by omega
  have hf : (s.take (i + 1)).flatten.length = (s.take i).flatten.length + (s.getD (i : Int).toNat default).length := flat_len_succ hlt
  have hle1 := flat_take_le s (i + 1)
  repeat' first | refine Go.seq ?_ | refine Go.region rfl ?_ | refine Ops.nil ?_ | refine Ops.val eF rfl rfl Zw (Hop.nilC rfl rfl) ?_ | refine Ops.val eF rfl rfl Zw (by first | exact Z1 | exact Z3 | exact Z4 | exact Z5 | exact Z6) ?_ | refine Go.condTt rfl Za ?_ | refine Go.block ?_ | refine Go.skip ?_
  refine Go.toHQ (N := 1) (bs := [.row ⟨37, 2, .leaf, refC s room, none⟩]) (L' := [(0, .ptr 0 0), (1, .int .i64 (at_ - ((s.take i).flatten.length + 0 : Nat))), (6, .int .i64 i), (7, .int .i64 (0 : Nat))]) ?_ rfl eF.g Zt rfl rfl ⟨.inr rfl, trivial⟩ Zl rfl rfl
  refine Go.loop (fun j : Nat => [(0, .ptr 0 0), (1, .int .i64 (at_ - ((s.take i).flatten.length + j : Nat))), (6, .int .i64 i), (7, .int .i64 j)]) (fun j => hq 1 [.row ⟨37, 2, .leaf, refC s room, none⟩]) (fun j => j ≤ (s.getD i default).length ∧ (at_ < 0 ∨ (((s.take i).flatten.length + j : Nat) : Int) ≤ at_)) (fun j => (s.getD i default).length - j) 0 ⟨Nat.zero_le _, hle⟩ Zt rfl (fun j hj ihj => ?_)
  obtain ⟨hj, hlej⟩ := hj
  by_cases c1 : (j : Int) < ((s.getD (i : Int).toNat default).length : Int)
  ·have hjl : j < (s.getD i default).length := by have : (j : Int) < ((s.getD i default).length : Int) := c1; omega
   have hlen2 : (s.take i).flatten.length + (s.getD (i : Int).toNat default).length ≤ 1000000 := by omega
   by_cases c2 : at_ - (((s.take i).flatten.length + j : Nat) : Int) = 0
   ·have hh := rec_hit hlt hjl
    have hr : recAt s at_ = some ((s.getD i default).getD j default) := by
     unfold recAt
     rw [if_pos (by omega), ← hh]
     congr 1; omega
    rw [hr]
    repeat' first | refine Go.seq ?_ | refine Go.region rfl ?_ | refine Ops.nil ?_ | refine Ops.val eF rfl rfl Zw (Hop.nilC rfl rfl) ?_ | refine Ops.val eF rfl rfl Zw Zk ?_ | refine Go.condT rfl ?_ | refine Go.condF rfl ?_ | refine Ops.val eF rfl rfl Zw (by first | exact Z1 | exact Z4 | exact Y24 | exact Z5 | exact Z6) ?_ | refine Go.block ?_ | refine Go.skip ?_ | refine Go.retM rfl rfl ?_ ?_ rfl
    all_goals first | rfl | exact ⟨⟨_, rfl, rfl, rfl, rfl, rfl⟩, trivial⟩
   ·have g := ihj (j + 1) ⟨hjl, by omega⟩ (by omega)
    repeat' first | refine Go.seq ?_ | refine Go.region rfl ?_ | refine Ops.nil ?_ | refine Ops.val eF rfl rfl Zw (Hop.nilC rfl rfl) ?_ | refine Ops.val eF rfl rfl Zw Zk ?_ | refine Go.condT rfl ?_ | refine Go.condF rfl ?_ | refine Ops.val eF rfl rfl Zw (by first | exact Z1 | exact Y14 | exact Y15 | exact Z4 | exact Y24 | exact Z5 | exact Z6) ?_ | refine Go.block ?_ | refine Go.unblk ?_ | refine Go.skip ?_
    exact Go.sub (M := [(0, .ptr 0 0), (1, .int .i64 (at_ - ((s.take i).flatten.length + (j + 1) : Nat))), (6, .int .i64 i), (7, .int .i64 ((j + 1 : Nat) : Int))]) ⟨rfl, congrArg (fun z => some (AV.int .i64 z)) (by omega), rfl, rfl, trivial⟩ g
  ·have ej : j = (s.getD i default).length := by have : ¬ (j : Int) < ((s.getD i default).length : Int) := c1; omega
   have hf' : (s.take (i + 1)).flatten.length = (s.take i).flatten.length + j := by rw [ej]; exact hf
   have g := ih (i + 1) ⟨by omega, by rw [hf']; exact hlej⟩ (by omega)
   repeat' first | refine Go.seq ?_ | refine Go.region rfl ?_ | refine Ops.nil ?_ | refine Ops.val eF rfl rfl Zw (Hop.nilC rfl rfl) ?_ | refine Ops.val eF rfl rfl Zw Zk ?_ | refine Go.condT rfl ?_ | refine Go.condF rfl ?_ | refine Ops.val eF rfl rfl Zw (by first | exact Z1 | exact Y14 | exact Z4 | exact Y24 | exact Z5 | exact Z6) ?_ | refine Go.unblk ?_ | refine Go.exit rfl ?_
   exact Go.sub (M := [(0, .ptr 0 0), (1, .int .i64 (at_ - ((s.take (i + 1)).flatten.length : Nat))), (6, .int .i64 ((i + 1 : Nat) : Int))]) ⟨rfl, by rw [hf']; rfl, rfl, trivial⟩ g
 ·have ei : i = s.length := by omega
  subst ei
  rw [List.take_length] at hle
  have hr : recAt s at_ = none := by
   unfold recAt
   split
   ·rw [List.getElem?_eq_none (by omega)]
   ·rfl
  rw [hr]
  repeat' first | refine Go.seq ?_ | refine Go.region rfl ?_ | refine Ops.nil ?_ | refine Ops.val eF rfl rfl Zw (Hop.nilC rfl rfl) ?_ | refine Ops.val eF rfl rfl Zw (by first | exact Z1 | exact Z3 | exact Z4 | exact Z5 | exact Z6) ?_ | refine Go.condFt rfl Za ?_ | refine Go.exit rfl ?_ | refine Go.retM rfl rfl ?_ ?_ rfl
  all_goals first | rfl | exact ⟨⟨_, rfl, rfl, rfl, rfl, rfl⟩, trivial⟩
theorem m29 (l : Objs) (n : Nat) (base : Int) (os : List Str) (hb : 0 ≤ base ∧ base ≤ 3595) (ho : ObjsAt l base os) (hl : os.length ≤ 400) (hs : ∀ i, (os.getD i default).length ≤ 1000000) : KM cF 29 (volM l n) [.ptr 0 0, .int .i64 base] (lstA os) (volM l n) := by
 refine KM.of (N := 2) (ab := [.row ⟨62, 7, .leaf, volC 1, none⟩, .map (mE keyI bysA l) n]) (gv := [.ptr 0 0, .mp 1]) cF_ok eF.g Try.func29 rfl rfl rfl rfl (Nat.le_of_ble_eq_true rfl) rfl (loV l n) rfl (loV _ _) rfl rfl fun w F opn gx => ?_
 obtain ⟨hb0, hb1⟩ := hb
 repeat' first | refine Go.seq ?_ | refine Go.region rfl ?_ | refine Ops.nil ?_ | refine Ops.val eF rfl rfl Zw Z1 ?_ | refine Go.block ?_
 refine Go.change (Chg.tokAt 2 5 30 1 rfl rfl) ?_
 refine Go.toHQ (N := 3) (bs := [.row ⟨62, 7, .leaf, volC 1, none⟩, .map (mE keyI bysA l) n, .arr 30 1 (os.take 0).length ((os.take 0).flatMap encL)]) (L' := [(0, .ptr 0 0), (1, .int .i64 base), (5, .own 2 (os.take 0).length 1), (6, .int .i64 (0 : Nat))]) ?_ rfl eF.g Zt rfl rfl Zg ⟨low_row rfl rfl, esD l, trivial, trivial⟩ rfl rfl
 refine Go.loop (fun i : Nat => [(0, .ptr 0 0), (1, .int .i64 base), (5, .own 2 (os.take i).length 1), (6, .int .i64 i)]) (fun i => hq 3 [.row ⟨62, 7, .leaf, volC 1, none⟩, .map (mE keyI bysA l) n, .arr 30 1 (os.take i).length ((os.take i).flatMap encL)]) (fun i => i ≤ os.length) (fun i => os.length - i) 0 (Nat.zero_le _) Zt rfl (fun i hi ih => ?_)
 by_cases hlt : i < os.length
 ·have k1 := m42 l n (base + i) _ (hs i) (ho.1 i hlt)
  have g := ih (i + 1) hlt (by omega)
  have hti : (os.take i).length = i := by rw [List.length_take]; omega
  rw [take_succ'' hlt, List.length_append, List.flatMap_append] at g
  repeat' first | refine Go.seq ?_ | refine Go.region rfl ?_ | refine Ops.nil ?_ | refine Ops.callM (v' := .tup [bysA (os.getD i default), .bool true]) (ab := [.row ⟨62, 7, .leaf, volC 1, none⟩, .map (mE keyI bysA l) n]) eF [0, 1] 3 Zw rfl rfl rfl rfl (k1) rfl (wk_eq rfl) rfl (by repeat' first | exact trivial | exact ⟨rfl, ⟨_, rfl, rfl, rfl, rfl, rfl⟩⟩ | exact ⟨rfl, rfl⟩ | refine And.intro ?_ ?_) (by repeat' first | exact trivial | exact .inl rfl | exact .inr trivial | exact .inr rfl | exact .inr (ok_row rfl rfl) | exact .inr (mE_dat _ _ (fun _ => rfl) _) | refine And.intro ?_ ?_) rfl rfl rfl rfl rfl rfl rfl ?_ | refine Ops.val eF rfl rfl Zw Zk ?_ | refine Go.condT rfl ?_ | refine Go.condF rfl ?_ | refine Ops.val eF rfl rfl Zw (by first | exact Z1 | exact Z2 | exact Y14) ?_ | refine Ops.data eF rfl rfl Zw rfl (Hop.bslice eF rfl rfl rfl rfl rfl rfl rfl rfl rfl rfl rfl) rfl rfl ?_ | refine Ops.appendE eF rfl rfl Zw rfl rfl rfl rfl rfl rfl rfl rfl rfl rfl rfl rfl rfl rfl rfl rfl (by repeat' first | exact trivial | refine And.intro ?_ ?_ | exact .inr trivial | exact .inr (ind_row rfl rfl) | exact .inr rfl | exact .inl rfl | exact .inr (hindL _ _) | exact .inr (esD _)) rfl rfl rfl rfl rfl Zz (by omega) ?_ | refine Go.block ?_ | refine Go.unblk ?_ | refine Go.skip ?_
  exact Go.toQ g rfl eF.g Zt rfl rfl Zg ⟨low_row rfl rfl, esD l, trivial, trivial⟩ rfl rfl
 ·have ei : i = os.length := by omega
  subst ei
  have k1 := m42n l n (base + os.length) ho.2
  rw [List.take_length]
  repeat' first | refine Go.seq ?_ | refine Go.region rfl ?_ | refine Ops.nil ?_ | refine Ops.frzMv eF 27 rfl rfl rfl Zw Z1 rfl (by repeat' first | exact trivial | refine And.intro ?_ ?_ | exact .inr trivial | exact .inr (ind_row rfl rfl) | exact .inr rfl | exact .inl rfl | exact .inr (hindL _ _) | exact .inr (esD _)) rfl rfl rfl rfl ?_ | refine Ops.callM (v' := .tup [.nilsl, .bool false]) (ab := [.row ⟨62, 7, .leaf, volC 1, none⟩, .map (mE keyI bysA l) n]) eF [0, 1] 3 Zw rfl rfl rfl rfl (k1) rfl (wk_eq rfl) rfl (by repeat' first | exact trivial | exact ⟨rfl, ⟨_, rfl, rfl, rfl, rfl, rfl⟩⟩ | exact ⟨rfl, rfl⟩ | refine And.intro ?_ ?_) (by repeat' first | exact trivial | exact .inl rfl | exact .inr trivial | exact .inr rfl | exact .inr (ok_row rfl rfl) | exact .inr (mE_dat _ _ (fun _ => rfl) _) | refine And.intro ?_ ?_) rfl rfl rfl rfl rfl rfl rfl ?_ | refine Ops.val eF rfl rfl Zw Zk ?_ | refine Go.condT rfl ?_ | refine Go.condF rfl ?_ | refine Ops.val eF rfl rfl Zw (by first | exact Z1 | exact Z2 | exact Y14) ?_ | refine Go.block ?_ | refine Go.skip ?_ | refine Go.exit rfl ?_ | refine Go.retM rfl rfl ?_ ?_ rfl
  all_goals first | rfl | exact ⟨⟨_, rfl, rfl, rfl, rfl, rfl⟩, rfl, trivial⟩
end Go.Px.Lr
end
