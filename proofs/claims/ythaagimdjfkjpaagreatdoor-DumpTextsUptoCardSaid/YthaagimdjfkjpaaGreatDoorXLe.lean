/- Parts of the proof in YthaagimdjfkjpaaGreatDoorXFin: DuD, DuB, DuE, DuS, DuC. -/
import Derived.Test.YthaagimdjfkjpaaGreatDoorXLc
import Derived.Test.YthaagimdjfkjpaaGreatDoorXK4
import Derived.Shelf.Small.Strs
import Derived.Shelf.Strconv.Itoa0
import Derived.Shelf.Strconv.Itoa1
import Derived.Shelf.LaysM
import Derived.Shelf.Strconv.Itoa2
import Derived.Shelf.Strconv.Itoa3
import Derived.Shelf.Strconv.Itoa4
import Derived.Shelf.Strings.Search1
import Derived.Test.YthaagimdjfkjpaaGreatDoorProg
set_option linter.unusedVariables false
set_option linter.unusedSimpArgs false
section
namespace Go.Px.Du
open Go.Proofs Go.Px.Ds Go.Px.De
noncomputable def eqNs (a b : List Nat) : Bool := List.rec (motive := fun _ => List Nat → Bool) (fun b => match b with | [] => true | _ :: _ => false) (fun x _ r b => match b with | [] => false | y :: m => (match Nat.beq x y with | true => r m | false => false)) a b
theorem eqNs_ok : ∀ {a b : List Nat}, eqNs a b = true → a = b
 | [], [], _ => rfl
 | [], _ :: _, h => by cases h
 | _ :: _, [], h => by cases h
 | x :: a, y :: b, h => by
  have h : (match Nat.beq x y with | true => eqNs a b | false => false) = true := h
  split at h
  ·rename_i q; rw [beqT q, eqNs_ok h]
  ·cases h
noncomputable def ansS (r : Ans) (l : List Nat) : Bool := match r with | .ok v _ => (match v with | .str x => eqNs x l | _ => false) | .bad _ => false
theorem ansS_ok {r : Ans} {l : List Nat} (h : ansS r l = true) : ∃ h', r = .ok (.str l) h' := by
 unfold ansS at h
 split at h
 ·split at h
  ·rw [← eqNs_ok h]; exact ⟨_, rfl⟩
  ·cases h
 ·cases h
def nib (n : Nat) : UInt8 := UInt8.ofNat (if n < 10 then 48 + n else 87 + n)
def hx (c : UInt8) : Str := [nib (c.toNat / 16), nib (c.toNat % 16)]
def plainB (c : UInt8) : Bool := Nat.ble 32 c.toNat && Nat.ble c.toNat 126 && !Nat.beq c.toNat 34 && !Nat.beq c.toNat 92
theorem kn0 : ∀ f, cF.kn.get none f = none := fun f => get_leaf none f
noncomputable def allB (n : Nat) (p : Nat → Bool) : Bool := Nat.rec (motive := fun _ => Bool) true (fun i r => match p i with | true => r | false => false) n
theorem allB_at {p : Nat → Bool} : ∀ {n : Nat}, allB n p = true → ∀ i, i < n → p i = true
 | 0, _, i, h => by omega
 | n + 1, h, i, hi => by
  have h : (match p n with | true => allB n p | false => false) = true := h
  split at h
  ·rename_i q
   by_cases e : i = n
   ·subst e; exact q
   ·exact allB_at h i (by omega)
  ·cases h
set_option maxRecDepth 1000000 in
theorem ran77 : allB 256 (fun c => ansS (app cF drawA 100000 (extC []) 60 (.f 77) [.int .u8 (.ofNat c)] h0) ((hx (UInt8.ofNat c)).map UInt8.toNat)) = true := by kernel_rfl
set_option maxRecDepth 1000000 in
theorem ran71 : allB 256 (fun c => answers (app cF drawA 100000 (extC []) 60 (.f 71) [.int .u8 (.ofNat c)] h0) (plainB (UInt8.ofNat c))) = true := by kernel_rfl
set_option maxRecDepth 1000000 in
theorem ran78 : allB 256 (fun c => answers (app cF drawA 100000 (extC []) 60 (.f 78) [.int .u8 (.ofNat c)] h0) (plainB (UInt8.ofNat c))) = true := by kernel_rfl
theorem xs0 : ExtOk cF (extC []) := extC_ok fun f hf => by cases hf
theorem u8eq (c : UInt8) : UInt8.ofNat c.toNat = c := by simp
theorem k77 (c : UInt8) : KOk cF 77 [.int .u8 (c.toNat : Int)] (sA (hx c)) := by
 have h := allB_at ran77 c.toNat c.toNat_lt
 rw [u8eq] at h
 exact KOk.run cF_ok kn0 hm eF.g xs0 (ansS_ok h) rfl
theorem k71 (c : UInt8) : KOk cF 71 [.int .u8 (c.toNat : Int)] (.bool (plainB c)) := by
 have h := allB_at ran71 c.toNat c.toNat_lt
 rw [u8eq] at h
 exact KOk.run cF_ok kn0 hm eF.g xs0 (answers_ok h) rfl
theorem k78 (c : UInt8) : KOk cF 78 [.int .u8 (c.toNat : Int)] (.bool (plainB c)) := by
 have h := allB_at ran78 c.toNat c.toNat_lt
 rw [u8eq] at h
 exact KOk.run cF_ok kn0 hm eF.g xs0 (answers_ok h) rfl
def tF (b : Bool) : Str := bif b then [116, 114, 117, 101] else [102, 97, 108, 115, 101]
set_option maxRecDepth 1000000 in
theorem ran69 : (match ansS (app cF drawA 100000 (extC []) 60 (.f 69) [.bool true] h0) ((tF true).map UInt8.toNat) with | true => ansS (app cF drawA 100000 (extC []) 60 (.f 69) [.bool false] h0) ((tF false).map UInt8.toNat) | false => false) = true := by kernel_rfl
theorem k69 (b : Bool) : KOk cF 69 [.bool b] (sA (tF b)) := by
 have h := ran69
 split at h
 ·rename_i q
  cases b
  ·exact KOk.run cF_ok kn0 hm eF.g xs0 (ansS_ok h) rfl
  ·exact KOk.run cF_ok kn0 hm eF.g xs0 (ansS_ok q) rfl
 ·cases h
end Go.Px.Du
end
section
set_option maxHeartbeats 4000000
set_option maxRecDepth 20000
namespace Go.Px.Du
open Go.Proofs Go.Px.Ds Go.Px.De
attribute [local irreducible] Go.Px.KOk
theorem u85 : cF.under 85 = some .unsafePointer := by kernel_rfl
theorem x34 : Extern.find Tryz.f34 = some Extern.AbiNoEscape.same := by kernel_rfl
theorem l44 : liesAt cF.P cF.P.depth 44 (2 / cF.P.cellsOf 44) 0 44 1 = true := by kernel_rfl
theorem l82 : liesAt cF.P cF.P.depth 82 (5 / cF.P.cellsOf 82) 0 44 1 = true := by kernel_rfl
theorem n34a : (Tryz.f34.name == "runtime.NumGoroutine") = false := by kernel_rfl
theorem n34b : Tryz.f34.body.isNone = true := by kernel_rfl
theorem n34c : Extern.findNext Tryz.f34 = none := by kernel_rfl
noncomputable def r13_0 : List Oper := ((drawn (Tryz.f13.body.getD .skip))[0]?).getD []
theorem dg13_0 : lvChk r13_0 4095 ([(0, [0, 5])] :: [[(1, [1, 5]), (32, [0, 6])], [(3, [2, 5]), (33, [1, 6]), (96, [0, 7])], [(7, [3, 5]), (35, [2, 6]), (97, [1, 7]), (224, [0, 8])], [(15, [4, 5]), (39, [3, 6]), (99, [2, 7]), (225, [1, 8]), (480, [0, 9])], [(31, [5]), (47, [4, 6]), (103, [3, 7]), (227, [2, 8]), (481, [1, 9]), (992, [0])], [(63, [6]), (111, [4, 7]), (231, [3, 8]), (483, [2, 9]), (993, [1])], [(127, [7]), (239, [4, 8]), (487, [3, 9]), (995, [2])], [(255, [8]), (495, [4, 9]), (999, [3])], [(511, [9]), (1007, [4])], [(1023, [10])], [(2047, [11])], [(4095, [])]]) = true := by kernel_rfl
theorem m26_44 {a : AV} (ha : a = .nilptr ∨ a = .ptr 0 0) (n : Nat) (cs : List AV) : KM cF 26 [.row 44 [a, .own 1 n 1], .arr 5 1 n cs] [.ptr 0 0] (.tup []) [.row 44 [.ptr 0 0, .own 1 n 1], .arr 5 1 n cs] := by
 rcases ha with rfl | rfl
 ·refine KM.of (N := 2) (ab := [.row ⟨44, 2, .leaf, [.nilptr, .own 1 n 1], none⟩, .arr 5 1 n cs]) (gv := [.ptr 0 0]) cF_ok eF.g Tryz.func26 rfl rfl rfl rfl (Nat.le_of_ble_eq_true rfl) rfl rfl rfl rfl rfl rfl fun w F opn gx => ?_
  repeat' first | refine Go.seq ?_ | refine Go.region rfl ?_ | refine Ops.nil ?_ | refine Ops.val eF rfl rfl Zw (Hop.nilC rfl rfl) ?_ | refine Ops.val eF rfl rfl Zw (Hop.eqD rfl rfl rfl rfl rfl) ?_ | refine Ops.val eF rfl rfl Zw (Hop.toU eF rfl rfl rfl rfl u85 rfl rfl rfl rfl) ?_ | refine Ops.val eF rfl rfl Zw (Hop.toP eF rfl rfl u85 rfl rfl rfl rfl rfl l44) ?_ | refine Ops.noEsc eF Tryz.func34 n34a n34b n34c x34 rfl rfl Zw rfl rfl rfl rfl ?_ | refine Ops.val eF rfl rfl Zw (by first | exact Z1 | exact Z4 | exact Z5) ?_ | refine Ops.unit eF rfl Zw (Hop.store eF rfl rfl rfl rfl rfl rfl) (ArrKeep.put rfl) ?_ | refine Go.condT rfl ?_ | refine Go.endM rfl rfl ?_ ?_ rfl
  ·rfl
  ·exact ⟨⟨_, rfl, rfl, rfl, rfl, rfl⟩, rfl, trivial⟩
 ·refine KM.of (N := 2) (ab := [.row ⟨44, 2, .leaf, [.ptr 0 0, .own 1 n 1], none⟩, .arr 5 1 n cs]) (gv := [.ptr 0 0]) cF_ok eF.g Tryz.func26 rfl rfl rfl rfl (Nat.le_of_ble_eq_true rfl) rfl rfl rfl rfl rfl rfl fun w F opn gx => ?_
  repeat' first | refine Go.seq ?_ | refine Go.region rfl ?_ | refine Ops.nil ?_ | refine Ops.val eF rfl rfl Zw (Hop.nilC rfl rfl) ?_ | refine Ops.val eF rfl rfl Zw (Hop.eqD rfl rfl rfl rfl rfl) ?_ | refine Ops.val eF rfl rfl Zw (Hop.neD rfl rfl rfl rfl rfl) ?_ | refine Ops.val eF rfl rfl Zw (by first | exact Z1 | exact Z4 | exact Z5) ?_ | refine Go.condF rfl ?_ | refine Go.skip ?_ | refine Go.endM rfl rfl ?_ ?_ rfl
  ·rfl
  ·exact ⟨⟨_, rfl, rfl, rfl, rfl, rfl⟩, rfl, trivial⟩
theorem m12_44 {a : AV} (ha : a = .nilptr ∨ a = .ptr 0 0) (n : Nat) (cs : List AV) (s : Str) (hs : s ≠ []) (hn : n + s.length ≤ 1000000) : KM cF 12 [.row 44 [a, .own 1 n 1], .arr 5 1 n cs] [.ptr 0 0, sA s] (.tup [.int .i64 s.length, .nilifc]) [.row 44 [.ptr 0 0, .own 1 (n + s.length) 1], .arr 5 1 (n + s.length) (cs ++ s.flatMap byC)] := by
 have k1 := m26_44 ha n cs
 have e : lowB 2 a = true := by rcases ha with rfl | rfl <;> rfl
 rcases ha with rfl | rfl
 ·refine KM.of (N := 2) (ab := [.row ⟨44, 2, .leaf, [.nilptr, .own 1 n 1], none⟩, .arr 5 1 n cs]) (gv := [.ptr 0 0]) cF_ok eF.g Tryz.func12 rfl rfl rfl rfl (Nat.le_of_ble_eq_true rfl) rfl rfl rfl rfl rfl rfl fun w F opn gx => ?_
  repeat' first | refine Go.seq ?_ | refine Go.region rfl ?_ | refine Ops.nil ?_ | refine Ops.val eF rfl rfl Zw (Hop.nilC rfl rfl) ?_ | refine Ops.callM (v' := .tup []) (ab := [.row ⟨44, 2, .leaf, [.ptr 0 0, .own 1 n 1], none⟩, .arr 5 1 n cs]) eF [0, 1] 2 Zw rfl rfl rfl rfl (k1) rfl (wk_eq rfl) rfl Zb Zo rfl rfl rfl rfl rfl rfl rfl ?_ | refine Ops.appendS eF rfl rfl Zw rfl rfl rfl rfl rfl rfl rfl rfl rfl rfl rfl rfl rfl rfl rfl Zi rfl rfl rfl rfl rfl hs hn ?_ | refine Ops.val eF rfl rfl Zw (by first | exact Z1 | exact Z4 | exact Z5 | exact Z6) ?_ | refine Ops.unit eF rfl Zw (Hop.store eF rfl rfl rfl rfl rfl rfl) (ArrKeep.put rfl) ?_ | refine Go.retM rfl rfl ?_ ?_ rfl
  ·rfl
  ·exact ⟨⟨_, rfl, rfl, rfl, rfl, rfl⟩, rfl, trivial⟩
 ·refine KM.of (N := 2) (ab := [.row ⟨44, 2, .leaf, [.ptr 0 0, .own 1 n 1], none⟩, .arr 5 1 n cs]) (gv := [.ptr 0 0]) cF_ok eF.g Tryz.func12 rfl rfl rfl rfl (Nat.le_of_ble_eq_true rfl) rfl rfl rfl rfl rfl rfl fun w F opn gx => ?_
  repeat' first | refine Go.seq ?_ | refine Go.region rfl ?_ | refine Ops.nil ?_ | refine Ops.val eF rfl rfl Zw (Hop.nilC rfl rfl) ?_ | refine Ops.callM (v' := .tup []) (ab := [.row ⟨44, 2, .leaf, [.ptr 0 0, .own 1 n 1], none⟩, .arr 5 1 n cs]) eF [0, 1] 2 Zw rfl rfl rfl rfl (k1) rfl (wk_eq rfl) rfl Zb Zo rfl rfl rfl rfl rfl rfl rfl ?_ | refine Ops.appendS eF rfl rfl Zw rfl rfl rfl rfl rfl rfl rfl rfl rfl rfl rfl rfl rfl rfl rfl Zi rfl rfl rfl rfl rfl hs hn ?_ | refine Ops.val eF rfl rfl Zw (by first | exact Z1 | exact Z4 | exact Z5 | exact Z6) ?_ | refine Ops.unit eF rfl Zw (Hop.store eF rfl rfl rfl rfl rfl rfl) (ArrKeep.put rfl) ?_ | refine Go.retM rfl rfl ?_ ?_ rfl
  ·rfl
  ·exact ⟨⟨_, rfl, rfl, rfl, rfl, rfl⟩, rfl, trivial⟩
theorem m33_44 {a : AV} (ha : a = .nilptr ∨ a = .ptr 0 0) (n : Nat) (cs : List AV) (c : UInt8) (hn : n < 1000000) : KM cF 33 [.row 44 [a, .own 1 n 1], .arr 5 1 n cs] [.ptr 0 0, .int .u8 (c.toNat : Int)] .nilifc [.row 44 [.ptr 0 0, .own 1 (n + 1) 1], .arr 5 1 (n + 1) (cs ++ byC c)] := by
 have k1 := m26_44 ha n cs
 rcases ha with rfl | rfl
 ·refine KM.of (N := 2) (ab := [.row ⟨44, 2, .leaf, [.nilptr, .own 1 n 1], none⟩, .arr 5 1 n cs]) (gv := [.ptr 0 0]) cF_ok eF.g Tryz.func33 rfl rfl rfl rfl (Nat.le_of_ble_eq_true rfl) rfl rfl rfl rfl rfl rfl fun w F opn gx => ?_
  repeat' first | refine Go.seq ?_ | refine Go.region rfl ?_ | refine Ops.nil ?_ | refine Ops.val eF rfl rfl Zw (Hop.nilC rfl rfl) ?_ | refine Ops.callM (v' := .tup []) (ab := [.row ⟨44, 2, .leaf, [.ptr 0 0, .own 1 n 1], none⟩, .arr 5 1 n cs]) eF [0, 1] 2 Zw rfl rfl rfl rfl (k1) rfl (wk_eq rfl) rfl Zb Zo rfl rfl rfl rfl rfl rfl rfl ?_ | refine Ops.val eF rfl rfl Zw (by first | exact Z1 | exact Z4 | exact Z5) ?_ | refine Ops.data eF rfl rfl Zw rfl (Hop.bslice eF rfl rfl rfl rfl rfl rfl rfl rfl rfl rfl rfl) rfl rfl ?_ | refine Ops.appendE eF rfl rfl Zw rfl rfl rfl rfl rfl rfl rfl rfl rfl rfl rfl rfl rfl rfl rfl rfl Zi rfl rfl rfl rfl rfl Zz (by omega) ?_ | refine Ops.unit eF rfl Zw (Hop.store eF rfl rfl rfl rfl rfl rfl) (ArrKeep.put rfl) ?_ | refine Go.retM rfl rfl ?_ ?_ rfl
  ·rfl
  ·exact ⟨⟨_, rfl, rfl, rfl, rfl, rfl⟩, rfl, trivial⟩
 ·refine KM.of (N := 2) (ab := [.row ⟨44, 2, .leaf, [.ptr 0 0, .own 1 n 1], none⟩, .arr 5 1 n cs]) (gv := [.ptr 0 0]) cF_ok eF.g Tryz.func33 rfl rfl rfl rfl (Nat.le_of_ble_eq_true rfl) rfl rfl rfl rfl rfl rfl fun w F opn gx => ?_
  repeat' first | refine Go.seq ?_ | refine Go.region rfl ?_ | refine Ops.nil ?_ | refine Ops.val eF rfl rfl Zw (Hop.nilC rfl rfl) ?_ | refine Ops.callM (v' := .tup []) (ab := [.row ⟨44, 2, .leaf, [.ptr 0 0, .own 1 n 1], none⟩, .arr 5 1 n cs]) eF [0, 1] 2 Zw rfl rfl rfl rfl (k1) rfl (wk_eq rfl) rfl Zb Zo rfl rfl rfl rfl rfl rfl rfl ?_ | refine Ops.val eF rfl rfl Zw (by first | exact Z1 | exact Z4 | exact Z5) ?_ | refine Ops.data eF rfl rfl Zw rfl (Hop.bslice eF rfl rfl rfl rfl rfl rfl rfl rfl rfl rfl rfl) rfl rfl ?_ | refine Ops.appendE eF rfl rfl Zw rfl rfl rfl rfl rfl rfl rfl rfl rfl rfl rfl rfl rfl rfl rfl rfl Zi rfl rfl rfl rfl rfl Zz (by omega) ?_ | refine Ops.unit eF rfl Zw (Hop.store eF rfl rfl rfl rfl rfl rfl) (ArrKeep.put rfl) ?_ | refine Go.retM rfl rfl ?_ ?_ rfl
  ·rfl
  ·exact ⟨⟨_, rfl, rfl, rfl, rfl, rfl⟩, rfl, trivial⟩
theorem m13_44 (s : Str) (hs : s ≠ []) (hn : s.length ≤ 1000000) : KM cF 13 [.row 44 [.ptr 0 0, .own 1 s.length 1], .arr 5 1 s.length (s.flatMap byC)] [.ptr 0 0] (sA s) [.row 44 [.ptr 0 0, .own 1 s.length 1], .no] := by
 have hl : s.length ≠ 0 := fun q => hs (List.length_eq_zero_iff.1 q)
 refine KM.of (N := 2) (ab := [.row ⟨44, 2, .leaf, [.ptr 0 0, .own 1 s.length 1], none⟩, .arr 5 1 s.length (s.flatMap byC)]) (gv := [.ptr 0 0]) cF_ok eF.g Tryz.func13 rfl rfl rfl rfl (Nat.le_of_ble_eq_true rfl) rfl rfl rfl rfl rfl rfl fun w F opn gx => ?_
 repeat' first | refine Go.seq ?_ | refine Go.region rfl ?_ | refine Ops.nil ?_ | refine Ops.val eF rfl rfl Zw Z1 ?_
 refine Go.dag 4095 hm (fun D => selL [(0, .ptr 0 0)] D [(12, 100, 2, sA s), (11, 100, 13, sA s), (10, 100, 12, .int .i64 s.length), (9, 100, 11, .own 1 s.length 1), (8, 100, 10, .ptr 0 1), (7, 100, 9, .ptr 0 0), (6, 100, 8, .ptr 0 0), (5, 100, 7, .optr 1 s.length 0), (4, 100, 6, .own 1 s.length 1), (3, 100, 5, .ptr 0 1), (2, 100, 4, .ptr 0 0), (1, 100, 3, .ptr 0 0)]) (fun D => match bitB D 10 with | true => hq 2 [.row ⟨44, 2, .leaf, [.ptr 0 0, .own 1 s.length 1], none⟩, .none] | false => hq 2 [.row ⟨44, 2, .leaf, [.ptr 0 0, .own 1 s.length 1], none⟩, .arr 5 1 s.length (s.flatMap byC)]) [0, 5] [[(1, [1, 5]), (32, [0, 6])], [(3, [2, 5]), (33, [1, 6]), (96, [0, 7])], [(7, [3, 5]), (35, [2, 6]), (97, [1, 7]), (224, [0, 8])], [(15, [4, 5]), (39, [3, 6]), (99, [2, 7]), (225, [1, 8]), (480, [0, 9])], [(31, [5]), (47, [4, 6]), (103, [3, 7]), (227, [2, 8]), (481, [1, 9]), (992, [0])], [(63, [6]), (111, [4, 7]), (231, [3, 8]), (483, [2, 9]), (993, [1])], [(127, [7]), (239, [4, 8]), (487, [3, 9]), (995, [2])], [(255, [8]), (495, [4, 9]), (999, [3])], [(511, [9]), (1007, [4])], [(1023, [10])], [(2047, [11])], [(4095, [])]] dg13_0 rfl (by repeat' first | exact trivial | refine ⟨rfl, ?_⟩) rfl ?_ ?_
 ·repeat' first | exact trivial | refine And.intro ?_ ?_ | refine Exists.intro _ (And.intro rfl ?_) | exact Ops.midE (by repeat' first | exact trivial | refine ⟨rfl, ?_⟩) | exact Ops.midQ eF.g rfl (by repeat' first | exact trivial | refine ⟨rfl, ?_⟩) rfl rfl (by repeat' first | exact trivial | refine And.intro ?_ ?_ | exact .inr rfl | exact .inl rfl) (by repeat' first | exact trivial | exact low_row rfl rfl | refine And.intro ?_ ?_) rfl rfl | refine Ops.val eF rfl rfl Zw (Hop.nilC rfl rfl) ?_ | refine Ops.sdataO eF rfl rfl Zw rfl rfl rfl rfl rfl hl ?_ | refine Ops.ustrO eF rfl rfl Zw rfl rfl rfl rfl rfl rfl rfl rfl rfl rfl rfl rfl hs hn ?_ | refine Ops.val eF rfl rfl Zw (by first | exact Z1 | exact Z4 | exact Z5 | exact Z6) ?_
 repeat' first | refine Go.retM rfl rfl ?_ ?_ rfl
 all_goals first | rfl | exact ⟨⟨_, rfl, rfl, rfl, rfl, rfl⟩, trivial, trivial⟩
theorem m26_82 {a : AV} (ha : a = .nilptr ∨ a = .ptr 0 0) (n : Nat) (cs : List AV) (dp mn : Int) (bad : Bool) : KM cF 26 [.row 82 [a, .own 1 n 1, .int .i64 dp, .int .i64 mn, .bool bad], .arr 5 1 n cs] [.ptr 0 0] (.tup []) [.row 82 [.ptr 0 0, .own 1 n 1, .int .i64 dp, .int .i64 mn, .bool bad], .arr 5 1 n cs] := by
 rcases ha with rfl | rfl
 ·refine KM.of (N := 2) (ab := [.row ⟨82, 5, .leaf, [.nilptr, .own 1 n 1, .int .i64 dp, .int .i64 mn, .bool bad], none⟩, .arr 5 1 n cs]) (gv := [.ptr 0 0]) cF_ok eF.g Tryz.func26 rfl rfl rfl rfl (Nat.le_of_ble_eq_true rfl) rfl rfl rfl rfl rfl rfl fun w F opn gx => ?_
  repeat' first | refine Go.seq ?_ | refine Go.region rfl ?_ | refine Ops.nil ?_ | refine Ops.val eF rfl rfl Zw (Hop.nilC rfl rfl) ?_ | refine Ops.val eF rfl rfl Zw (Hop.eqD rfl rfl rfl rfl rfl) ?_ | refine Ops.val eF rfl rfl Zw (Hop.toU eF rfl rfl rfl rfl u85 rfl rfl rfl rfl) ?_ | refine Ops.val eF rfl rfl Zw (Hop.toP eF rfl rfl u85 rfl rfl rfl rfl rfl l82) ?_ | refine Ops.noEsc eF Tryz.func34 n34a n34b n34c x34 rfl rfl Zw rfl rfl rfl rfl ?_ | refine Ops.val eF rfl rfl Zw (by first | exact Z1 | exact Z4 | exact Z5) ?_ | refine Ops.unit eF rfl Zw (Hop.store eF rfl rfl rfl rfl rfl rfl) (ArrKeep.put rfl) ?_ | refine Go.condT rfl ?_ | refine Go.endM rfl rfl ?_ ?_ rfl
  ·rfl
  ·exact ⟨⟨_, rfl, rfl, rfl, rfl, rfl⟩, rfl, trivial⟩
 ·refine KM.of (N := 2) (ab := [.row ⟨82, 5, .leaf, [.ptr 0 0, .own 1 n 1, .int .i64 dp, .int .i64 mn, .bool bad], none⟩, .arr 5 1 n cs]) (gv := [.ptr 0 0]) cF_ok eF.g Tryz.func26 rfl rfl rfl rfl (Nat.le_of_ble_eq_true rfl) rfl rfl rfl rfl rfl rfl fun w F opn gx => ?_
  repeat' first | refine Go.seq ?_ | refine Go.region rfl ?_ | refine Ops.nil ?_ | refine Ops.val eF rfl rfl Zw (Hop.nilC rfl rfl) ?_ | refine Ops.val eF rfl rfl Zw (Hop.eqD rfl rfl rfl rfl rfl) ?_ | refine Ops.val eF rfl rfl Zw (Hop.neD rfl rfl rfl rfl rfl) ?_ | refine Ops.val eF rfl rfl Zw (by first | exact Z1 | exact Z4 | exact Z5) ?_ | refine Go.condF rfl ?_ | refine Go.skip ?_ | refine Go.endM rfl rfl ?_ ?_ rfl
  ·rfl
  ·exact ⟨⟨_, rfl, rfl, rfl, rfl, rfl⟩, rfl, trivial⟩
theorem m12_82 {a : AV} (ha : a = .nilptr ∨ a = .ptr 0 0) (n : Nat) (cs : List AV) (s : Str) (hs : s ≠ []) (hn : n + s.length ≤ 1000000) (dp mn : Int) (bad : Bool) : KM cF 12 [.row 82 [a, .own 1 n 1, .int .i64 dp, .int .i64 mn, .bool bad], .arr 5 1 n cs] [.ptr 0 0, sA s] (.tup [.int .i64 s.length, .nilifc]) [.row 82 [.ptr 0 0, .own 1 (n + s.length) 1, .int .i64 dp, .int .i64 mn, .bool bad], .arr 5 1 (n + s.length) (cs ++ s.flatMap byC)] := by
 have k1 := m26_82 ha n cs dp mn bad
 have e : lowB 2 a = true := by rcases ha with rfl | rfl <;> rfl
 rcases ha with rfl | rfl
 ·refine KM.of (N := 2) (ab := [.row ⟨82, 5, .leaf, [.nilptr, .own 1 n 1, .int .i64 dp, .int .i64 mn, .bool bad], none⟩, .arr 5 1 n cs]) (gv := [.ptr 0 0]) cF_ok eF.g Tryz.func12 rfl rfl rfl rfl (Nat.le_of_ble_eq_true rfl) rfl rfl rfl rfl rfl rfl fun w F opn gx => ?_
  repeat' first | refine Go.seq ?_ | refine Go.region rfl ?_ | refine Ops.nil ?_ | refine Ops.val eF rfl rfl Zw (Hop.nilC rfl rfl) ?_ | refine Ops.callM (v' := .tup []) (ab := [.row ⟨82, 5, .leaf, [.ptr 0 0, .own 1 n 1, .int .i64 dp, .int .i64 mn, .bool bad], none⟩, .arr 5 1 n cs]) eF [0, 1] 2 Zw rfl rfl rfl rfl (k1) rfl (wk_eq rfl) rfl Zb Zo rfl rfl rfl rfl rfl rfl rfl ?_ | refine Ops.appendS eF rfl rfl Zw rfl rfl rfl rfl rfl rfl rfl rfl rfl rfl rfl rfl rfl rfl rfl Zi rfl rfl rfl rfl rfl hs hn ?_ | refine Ops.val eF rfl rfl Zw (by first | exact Z1 | exact Z4 | exact Z5 | exact Z6) ?_ | refine Ops.unit eF rfl Zw (Hop.store eF rfl rfl rfl rfl rfl rfl) (ArrKeep.put rfl) ?_ | refine Go.retM rfl rfl ?_ ?_ rfl
  ·rfl
  ·exact ⟨⟨_, rfl, rfl, rfl, rfl, rfl⟩, rfl, trivial⟩
 ·refine KM.of (N := 2) (ab := [.row ⟨82, 5, .leaf, [.ptr 0 0, .own 1 n 1, .int .i64 dp, .int .i64 mn, .bool bad], none⟩, .arr 5 1 n cs]) (gv := [.ptr 0 0]) cF_ok eF.g Tryz.func12 rfl rfl rfl rfl (Nat.le_of_ble_eq_true rfl) rfl rfl rfl rfl rfl rfl fun w F opn gx => ?_
  repeat' first | refine Go.seq ?_ | refine Go.region rfl ?_ | refine Ops.nil ?_ | refine Ops.val eF rfl rfl Zw (Hop.nilC rfl rfl) ?_ | refine Ops.callM (v' := .tup []) (ab := [.row ⟨82, 5, .leaf, [.ptr 0 0, .own 1 n 1, .int .i64 dp, .int .i64 mn, .bool bad], none⟩, .arr 5 1 n cs]) eF [0, 1] 2 Zw rfl rfl rfl rfl (k1) rfl (wk_eq rfl) rfl Zb Zo rfl rfl rfl rfl rfl rfl rfl ?_ | refine Ops.appendS eF rfl rfl Zw rfl rfl rfl rfl rfl rfl rfl rfl rfl rfl rfl rfl rfl rfl rfl Zi rfl rfl rfl rfl rfl hs hn ?_ | refine Ops.val eF rfl rfl Zw (by first | exact Z1 | exact Z4 | exact Z5 | exact Z6) ?_ | refine Ops.unit eF rfl Zw (Hop.store eF rfl rfl rfl rfl rfl rfl) (ArrKeep.put rfl) ?_ | refine Go.retM rfl rfl ?_ ?_ rfl
  ·rfl
  ·exact ⟨⟨_, rfl, rfl, rfl, rfl, rfl⟩, rfl, trivial⟩
theorem m33_82 {a : AV} (ha : a = .nilptr ∨ a = .ptr 0 0) (n : Nat) (cs : List AV) (c : UInt8) (hn : n < 1000000) (dp mn : Int) (bad : Bool) : KM cF 33 [.row 82 [a, .own 1 n 1, .int .i64 dp, .int .i64 mn, .bool bad], .arr 5 1 n cs] [.ptr 0 0, .int .u8 (c.toNat : Int)] .nilifc [.row 82 [.ptr 0 0, .own 1 (n + 1) 1, .int .i64 dp, .int .i64 mn, .bool bad], .arr 5 1 (n + 1) (cs ++ byC c)] := by
 have k1 := m26_82 ha n cs dp mn bad
 rcases ha with rfl | rfl
 ·refine KM.of (N := 2) (ab := [.row ⟨82, 5, .leaf, [.nilptr, .own 1 n 1, .int .i64 dp, .int .i64 mn, .bool bad], none⟩, .arr 5 1 n cs]) (gv := [.ptr 0 0]) cF_ok eF.g Tryz.func33 rfl rfl rfl rfl (Nat.le_of_ble_eq_true rfl) rfl rfl rfl rfl rfl rfl fun w F opn gx => ?_
  repeat' first | refine Go.seq ?_ | refine Go.region rfl ?_ | refine Ops.nil ?_ | refine Ops.val eF rfl rfl Zw (Hop.nilC rfl rfl) ?_ | refine Ops.callM (v' := .tup []) (ab := [.row ⟨82, 5, .leaf, [.ptr 0 0, .own 1 n 1, .int .i64 dp, .int .i64 mn, .bool bad], none⟩, .arr 5 1 n cs]) eF [0, 1] 2 Zw rfl rfl rfl rfl (k1) rfl (wk_eq rfl) rfl Zb Zo rfl rfl rfl rfl rfl rfl rfl ?_ | refine Ops.val eF rfl rfl Zw (by first | exact Z1 | exact Z4 | exact Z5) ?_ | refine Ops.data eF rfl rfl Zw rfl (Hop.bslice eF rfl rfl rfl rfl rfl rfl rfl rfl rfl rfl rfl) rfl rfl ?_ | refine Ops.appendE eF rfl rfl Zw rfl rfl rfl rfl rfl rfl rfl rfl rfl rfl rfl rfl rfl rfl rfl rfl Zi rfl rfl rfl rfl rfl Zz (by omega) ?_ | refine Ops.unit eF rfl Zw (Hop.store eF rfl rfl rfl rfl rfl rfl) (ArrKeep.put rfl) ?_ | refine Go.retM rfl rfl ?_ ?_ rfl
  ·rfl
  ·exact ⟨⟨_, rfl, rfl, rfl, rfl, rfl⟩, rfl, trivial⟩
 ·refine KM.of (N := 2) (ab := [.row ⟨82, 5, .leaf, [.ptr 0 0, .own 1 n 1, .int .i64 dp, .int .i64 mn, .bool bad], none⟩, .arr 5 1 n cs]) (gv := [.ptr 0 0]) cF_ok eF.g Tryz.func33 rfl rfl rfl rfl (Nat.le_of_ble_eq_true rfl) rfl rfl rfl rfl rfl rfl fun w F opn gx => ?_
  repeat' first | refine Go.seq ?_ | refine Go.region rfl ?_ | refine Ops.nil ?_ | refine Ops.val eF rfl rfl Zw (Hop.nilC rfl rfl) ?_ | refine Ops.callM (v' := .tup []) (ab := [.row ⟨82, 5, .leaf, [.ptr 0 0, .own 1 n 1, .int .i64 dp, .int .i64 mn, .bool bad], none⟩, .arr 5 1 n cs]) eF [0, 1] 2 Zw rfl rfl rfl rfl (k1) rfl (wk_eq rfl) rfl Zb Zo rfl rfl rfl rfl rfl rfl rfl ?_ | refine Ops.val eF rfl rfl Zw (by first | exact Z1 | exact Z4 | exact Z5) ?_ | refine Ops.data eF rfl rfl Zw rfl (Hop.bslice eF rfl rfl rfl rfl rfl rfl rfl rfl rfl rfl rfl) rfl rfl ?_ | refine Ops.appendE eF rfl rfl Zw rfl rfl rfl rfl rfl rfl rfl rfl rfl rfl rfl rfl rfl rfl rfl rfl Zi rfl rfl rfl rfl rfl Zz (by omega) ?_ | refine Ops.unit eF rfl Zw (Hop.store eF rfl rfl rfl rfl rfl rfl) (ArrKeep.put rfl) ?_ | refine Go.retM rfl rfl ?_ ?_ rfl
  ·rfl
  ·exact ⟨⟨_, rfl, rfl, rfl, rfl, rfl⟩, rfl, trivial⟩
theorem m13_82 (s : Str) (hs : s ≠ []) (hn : s.length ≤ 1000000) (dp mn : Int) (bad : Bool) : KM cF 13 [.row 82 [.ptr 0 0, .own 1 s.length 1, .int .i64 dp, .int .i64 mn, .bool bad], .arr 5 1 s.length (s.flatMap byC)] [.ptr 0 0] (sA s) [.row 82 [.ptr 0 0, .own 1 s.length 1, .int .i64 dp, .int .i64 mn, .bool bad], .no] := by
 have hl : s.length ≠ 0 := fun q => hs (List.length_eq_zero_iff.1 q)
 refine KM.of (N := 2) (ab := [.row ⟨82, 5, .leaf, [.ptr 0 0, .own 1 s.length 1, .int .i64 dp, .int .i64 mn, .bool bad], none⟩, .arr 5 1 s.length (s.flatMap byC)]) (gv := [.ptr 0 0]) cF_ok eF.g Tryz.func13 rfl rfl rfl rfl (Nat.le_of_ble_eq_true rfl) rfl rfl rfl rfl rfl rfl fun w F opn gx => ?_
 repeat' first | refine Go.seq ?_ | refine Go.region rfl ?_ | refine Ops.nil ?_ | refine Ops.val eF rfl rfl Zw Z1 ?_
 refine Go.dag 4095 hm (fun D => selL [(0, .ptr 0 0)] D [(12, 100, 2, sA s), (11, 100, 13, sA s), (10, 100, 12, .int .i64 s.length), (9, 100, 11, .own 1 s.length 1), (8, 100, 10, .ptr 0 1), (7, 100, 9, .ptr 0 0), (6, 100, 8, .ptr 0 0), (5, 100, 7, .optr 1 s.length 0), (4, 100, 6, .own 1 s.length 1), (3, 100, 5, .ptr 0 1), (2, 100, 4, .ptr 0 0), (1, 100, 3, .ptr 0 0)]) (fun D => match bitB D 10 with | true => hq 2 [.row ⟨82, 5, .leaf, [.ptr 0 0, .own 1 s.length 1, .int .i64 dp, .int .i64 mn, .bool bad], none⟩, .none] | false => hq 2 [.row ⟨82, 5, .leaf, [.ptr 0 0, .own 1 s.length 1, .int .i64 dp, .int .i64 mn, .bool bad], none⟩, .arr 5 1 s.length (s.flatMap byC)]) [0, 5] [[(1, [1, 5]), (32, [0, 6])], [(3, [2, 5]), (33, [1, 6]), (96, [0, 7])], [(7, [3, 5]), (35, [2, 6]), (97, [1, 7]), (224, [0, 8])], [(15, [4, 5]), (39, [3, 6]), (99, [2, 7]), (225, [1, 8]), (480, [0, 9])], [(31, [5]), (47, [4, 6]), (103, [3, 7]), (227, [2, 8]), (481, [1, 9]), (992, [0])], [(63, [6]), (111, [4, 7]), (231, [3, 8]), (483, [2, 9]), (993, [1])], [(127, [7]), (239, [4, 8]), (487, [3, 9]), (995, [2])], [(255, [8]), (495, [4, 9]), (999, [3])], [(511, [9]), (1007, [4])], [(1023, [10])], [(2047, [11])], [(4095, [])]] dg13_0 rfl (by repeat' first | exact trivial | refine ⟨rfl, ?_⟩) rfl ?_ ?_
 ·repeat' first | exact trivial | refine And.intro ?_ ?_ | refine Exists.intro _ (And.intro rfl ?_) | exact Ops.midE (by repeat' first | exact trivial | refine ⟨rfl, ?_⟩) | exact Ops.midQ eF.g rfl (by repeat' first | exact trivial | refine ⟨rfl, ?_⟩) rfl rfl (by repeat' first | exact trivial | refine And.intro ?_ ?_ | exact .inr rfl | exact .inl rfl) (by repeat' first | exact trivial | exact low_row rfl rfl | refine And.intro ?_ ?_) rfl rfl | refine Ops.val eF rfl rfl Zw (Hop.nilC rfl rfl) ?_ | refine Ops.sdataO eF rfl rfl Zw rfl rfl rfl rfl rfl hl ?_ | refine Ops.ustrO eF rfl rfl Zw rfl rfl rfl rfl rfl rfl rfl rfl rfl rfl rfl rfl hs hn ?_ | refine Ops.val eF rfl rfl Zw (by first | exact Z1 | exact Z4 | exact Z5 | exact Z6) ?_
 repeat' first | refine Go.retM rfl rfl ?_ ?_ rfl
 all_goals first | rfl | exact ⟨⟨_, rfl, rfl, rfl, rfl, rfl⟩, trivial, trivial⟩
end Go.Px.Du
end
section
set_option maxHeartbeats 4000000
set_option maxRecDepth 20000
namespace Go.Px.Du
open Go.Proofs Go.Px.Ds Go.Px.De
def hexS : Str := [48, 49, 50, 51, 52, 53, 54, 55, 56, 57, 97, 98, 99, 100, 101, 102]
theorem hexS_at : ∀ n, n < 16 → hexS.getD n 0 = nib n := by decide
theorem k70 (c : UInt8) : KOk cF 70 [.int .u8 (c.toNat : Int)] (sA (hx c)) := by
 have hc := c.toNat_lt
 have e : hx c = [hexS.getD ((c.toNat / 16 : Nat) : Int).toNat 0, hexS.getD ((c.toNat % 16 : Nat) : Int).toNat 0] := by
  rw [Int.toNat_natCast, Int.toNat_natCast, hexS_at _ (by omega), hexS_at _ (by omega)]; rfl
 rw [e]
 refine KOk.of cF_ok eF.g Tryz.func70 rfl (Nat.le_of_ble_eq_true rfl) fun w F => ?_
 repeat' first | refine Go.seq ?_ | refine Go.region rfl ?_ | refine Ops.nil ?_ | refine Ops.val eF rfl rfl Zw Z1 ?_
 refine Go.anyD hm ?_
 repeat' first | refine Ops.nil ?_ | refine Ops.val eF rfl rfl Zw (Hop.shr4 rfl rfl rfl) ?_ | refine Ops.val eF rfl rfl Zw (Hop.and15 rfl rfl rfl hc) ?_ | refine Ops.val eF rfl rfl Zw (Hop.sidx (s := hexS) eF rfl rfl rfl rfl rfl ⟨by omega, by show _ < (16 : Int); omega⟩) ?_ | refine Ops.val eF rfl rfl Zw (Hop.str (l := [_, _]) eF rfl rfl rfl rfl rfl rfl rfl rfl) ?_ | refine Ops.val eF rfl rfl Zw Z1 ?_ | refine Ops.data eF rfl rfl Zw rfl (Hop.bslice eF rfl rfl rfl rfl rfl rfl rfl rfl rfl rfl rfl) rfl rfl ?_ | refine Go.retF rfl ?_ rfl | refine Go.anyEnd rfl ?_ | refine Go.any1 rfl rfl ?_ | refine Go.any2 rfl rfl rfl ?_ ?_
 all_goals rfl
end Go.Px.Du
end
section
namespace Go.Proofs
open Go.Shelf
def Tryz.laysM173_ren : Go.Shelf.Ren := ⟨fun | 173 => 68 | 246 => 86 | 283 => 91 | 284 => 92 | 285 => 93 | 286 => 94 | 129 => 98 | 317 => 97 | 318 => 99 | 319 => 100 | 320 => 101 | 337 => 102 | 338 => 103 | n => n, fun | 2 => 2 | 3 => 3 | 9 => 9 | 4 => 4 | 171 => 133 | 0 => 0 | 53 => 134 | 37 => 42 | 5 => 5 | 173 => 137 | 212 => 141 | 51 => 142 | 20 => 20 | 213 => 143 | 46 => 131 | 232 => 146 | 233 => 147 | n => n, fun | 17 => 1 | 18 => 2 | 19 => 3 | n => n⟩
theorem Tryz.laysM173 : Go.Proofs.LaysM.n173 Tryz.prog Tryz.laysM173_ren := {
 mixed := by kernel_rfl
 f129 := Tryz.func98.trans (congrArg some (by kernel_rfl))
 f173 := Tryz.func68.trans (congrArg some (by kernel_rfl))
 f246 := Tryz.func86.trans (congrArg some (by kernel_rfl))
 f283 := Tryz.func91.trans (congrArg some (by kernel_rfl))
 f284 := Tryz.func92.trans (congrArg some (by kernel_rfl))
 f285 := Tryz.func93.trans (congrArg some (by kernel_rfl))
 f286 := Tryz.func94.trans (congrArg some (by kernel_rfl))
 f317 := Tryz.func97.trans (congrArg some (by kernel_rfl))
 f318 := Tryz.func99.trans (congrArg some (by kernel_rfl))
 f319 := Tryz.func100.trans (congrArg some (by kernel_rfl))
 f320 := Tryz.func101.trans (congrArg some (by kernel_rfl))
 f337 := Tryz.func102.trans (congrArg some (by kernel_rfl))
 f338 := Tryz.func103.trans (congrArg some (by kernel_rfl))
 t0 := Tryz.underlying0
 a0 := Tryz.isAgg0
 z0 := Tryz.sizeOf0
 v0 := Tryz.zeroValue0
 t2 := Tryz.underlying2
 a2 := Tryz.isAgg2
 z2 := Tryz.sizeOf2
 v2 := Tryz.zeroValue2
 t3 := Tryz.underlying3
 a3 := Tryz.isAgg3
 z3 := Tryz.sizeOf3
 v3 := Tryz.zeroValue3
 t4 := Tryz.underlying4
 a4 := Tryz.isAgg4
 z4 := Tryz.sizeOf4
 v4 := Tryz.zeroValue4
 t5 := Tryz.underlying5
 a5 := Tryz.isAgg5
 z5 := Tryz.sizeOf5
 v5 := Tryz.zeroValue5
 t9 := Tryz.underlying9
 a9 := Tryz.isAgg9
 z9 := Tryz.sizeOf9
 v9 := Tryz.zeroValue9
 t20 := Tryz.underlying20
 a20 := Tryz.isAgg20
 z20 := Tryz.sizeOf20
 v20 := Tryz.zeroValue20
 t37 := Tryz.underlying42
 a37 := Tryz.isAgg42
 z37 := Tryz.sizeOf42
 v37 := Tryz.zeroValue42
 t46 := Tryz.underlying131
 a46 := Tryz.isAgg131
 z46 := Tryz.sizeOf131
 v46 := Tryz.zeroValue131
 t51 := Tryz.underlying142
 a51 := Tryz.isAgg142
 z51 := Tryz.sizeOf142
 v51 := Tryz.zeroValue142
 t53 := Tryz.underlying134
 a53 := Tryz.isAgg134
 z53 := Tryz.sizeOf134
 v53 := Tryz.zeroValue134
 t171 := Tryz.underlying133
 a171 := Tryz.isAgg133
 z171 := Tryz.sizeOf133
 v171 := Tryz.zeroValue133
 t173 := Tryz.underlying137
 a173 := Tryz.isAgg137
 z173 := Tryz.sizeOf137
 v173 := Tryz.zeroValue137
 t212 := Tryz.underlying141
 a212 := Tryz.isAgg141
 z212 := Tryz.sizeOf141
 v212 := Tryz.zeroValue141
 t213 := Tryz.underlying143
 a213 := Tryz.isAgg143
 z213 := Tryz.sizeOf143
 t232 := Tryz.underlying146
 a232 := Tryz.isAgg146
 z232 := Tryz.sizeOf146
 v232 := Tryz.zeroValue146
 t233 := Tryz.underlying147
 a233 := Tryz.isAgg147
 z233 := Tryz.sizeOf147
 v233 := Tryz.zeroValue147
 g17 := by kernel_rfl
 g18 := by kernel_rfl
 g19 := by kernel_rfl
 i0 := by kernel_rfl
 i2 := by kernel_rfl
 i3 := by kernel_rfl
 i4 := by kernel_rfl
 i5 := by kernel_rfl
 i9 := by kernel_rfl
 i20 := by kernel_rfl
 i37 := by kernel_rfl
 i46 := by kernel_rfl
 i51 := by kernel_rfl
 i53 := by kernel_rfl
 i171 := by kernel_rfl
 i173 := by kernel_rfl
 i212 := by kernel_rfl
 i232 := by kernel_rfl
 i233 := by kernel_rfl
 m17 := by kernel_rfl
 m18 := by kernel_rfl
 m19 := by kernel_rfl }
open Go.RowKit Go.Sort Go.Lib in
theorem Tryz.strconv_FormatInt_10 (n : Int) (h0 : -9223372036854775808 ≤ n) (h1 : n ≤ 9223372036854775807) (w : World) (htab : Lib.TabIs Tryz.prog w "internal/strconv.uint64pow10" .u64 Lib.pow10Tab) :
  Calls Tryz.prog 68 #[.int .i64 n, .int .i64 10] w fun e w' => e = .returned (.string ⟨(Lib.itoa n).toArray⟩) ∧ ∃ k os, w' = grow (w.drewN k) os := Any.strconv_FormatInt_10 Tryz.laysM173 n h0 h1 w htab
end Go.Proofs
end
section
namespace Go.Px.Du
open Go.Proofs Go.Px.Ds Go.Px.De Go.Sort
def TabW (W : World) : Prop := Lib.TabIs Tryz.prog W "internal/strconv.uint64pow10" .u64 Lib.pow10Tab
theorem TabW.ext {W w : World} (h : TabW W) (x : ExtW W w) : TabW w := by
 unfold TabW Lib.TabIs World.var? at *
 cases hg : Tryz.prog.globalNamed "internal/strconv.uint64pow10" with
 | none => simp [hg] at h
 | some g =>
  simp only [hg, Option.bind_some] at h ⊢
  have hlt : g < W.heap.size := by
   rcases Nat.lt_or_ge g W.heap.size with h' | h'
   ·exact h'
   ·rw [Array.getElem?_eq_none h'] at h; simp at h
  rw [x.2 g hlt]
  exact h
theorem nm68 : (Tryz.f68.name == "runtime.NumGoroutine") = false := by kernel_rfl
theorem bd68 : Tryz.f68.body.isSome = true := by kernel_rfl
theorem k68 {W : World} (hT : TabW W) (n : Int) (h0 : -9223372036854775808 ≤ n) (h1 : n ≤ 9223372036854775807) : KOkW cF W 68 [.int .i64 n, .int .i64 10] (sA (Lib.itoa n)) := by
 intro F w A hE hF hA
 simp only [VRs, VR] at hA
 obtain ⟨_, _, rfl, ⟨_, _, rfl, rfl, rfl⟩, rfl⟩ := hA
 have hc := Tryz.strconv_FormatInt_10 n h0 h1 w (hT.ext hE)
 obtain ⟨body, hbody⟩ := Option.isSome_iff_exists.1 bd68
 refine ⟨.enter 68 _, w, by
  have hf : cF.P.funcs[68]? = some Tryz.f68 := Tryz.func68
  simp [callFunc, hf, nm68, hbody, Sem.run]; rfl, ?_⟩
 refine (callsIn_wide.2 hc).mono fun e w' ⟨hz, q, os, hw'⟩ => ?_
 subst hz; subst hw'
 have hd : (w.drewN q).heap = w.heap := rfl
 refine ⟨⟨⟨rfl, rfl, rfl, by rw [size_grow, hd]; omega⟩, fun b hb => heap_grow_old _ _ (by rw [hd]; exact hb)⟩, F, fun _ _ _ e => e, fun _ _ => rfl, fun b j x e => ?_, ?_⟩
 ·have := hF b j x e
  rw [cell?_grow _ _ _ (by rw [hd]; exact lt_of_cell this)]
  exact this
 ·have := read_str (fzm F) ⟨(Lib.itoa n).toArray⟩
  simpa using this
end Go.Px.Du
end
