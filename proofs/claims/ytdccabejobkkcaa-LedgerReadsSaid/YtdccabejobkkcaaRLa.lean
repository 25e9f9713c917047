/- Parts of the proof in YtdccabejobkkcaaRFin: LrA, LrB. -/
import Derived.Test.YtdccabejobkkcaaRK4
import Derived.Test.YtdccabejobkkcaaChecked
set_option linter.unusedVariables false
set_option linter.unusedSimpArgs false
section
namespace Go.Px.Lr
open Go.Proofs
noncomputable def cF : Ctx := ctxG Try.prog h0
theorem cF_ok : CtxOk cF := ctxG_ok (by kernel_rfl)
def tbF : List (Nat × TE) := [(1, ⟨.func, 1, 8, .nilfn⟩),
 (3, ⟨.int .i64, 1, 8, .int .i64 0⟩),
 (4, ⟨.bool, 1, 1, .bool false⟩),
 (5, ⟨.int .u8, 1, 1, .int .u8 0⟩),
 (9, ⟨.str, 1, 16, .str []⟩),
 (22, ⟨.slice 30, 1, 24, .nilsl⟩),
 (23, ⟨.ptr 56, 1, 8, .nilptr⟩),
 (24, ⟨.int .i64, 1, 8, .int .i64 0⟩),
 (27, ⟨.ptr 62, 1, 8, .nilptr⟩),
 (30, ⟨.slice 5, 1, 24, .nilsl⟩),
 (32, ⟨.ptr 82, 1, 8, .nilptr⟩),
 (35, ⟨.slice 22, 1, 24, .nilsl⟩),
 (37, ⟨.struct [(0, 35), (1, 3)], 2, 32, .agg [.nilsl, .int .i64 0]⟩),
 (41, ⟨.ptr 37, 1, 8, .nilptr⟩),
 (53, ⟨.slice 99, 1, 24, .nilsl⟩),
 (54, ⟨.slice 53, 1, 24, .nilsl⟩),
 (56, ⟨.struct [(0, 53), (1, 54), (2, 3), (3, 4), (4, 3)], 5, 72, .agg [.nilsl, .nilsl, .int .i64 0, .bool false, .int .i64 0]⟩),
 (57, ⟨.map 3 74, 1, 8, .nilmp⟩),
 (58, ⟨.map 3 30, 1, 8, .nilmp⟩),
 (59, ⟨.slice 3, 1, 24, .nilsl⟩),
 (60, ⟨.int .u64, 1, 8, .int .u64 0⟩),
 (62, ⟨.struct [(0, 23), (1, 58), (2, 57), (3, 59), (4, 3), (5, 60), (6, 24)], 7, 72, .agg [.nilptr, .nilmp, .nilmp, .nilsl, .int .i64 0, .int .u64 0, .int .i64 0]⟩),
 (65, ⟨.ptr 68, 1, 8, .nilptr⟩),
 (66, ⟨.map 3 3, 1, 8, .nilmp⟩),
 (68, ⟨.struct [(0, 23), (1, 66), (2, 24)], 3, 24, .agg [.nilptr, .nilmp, .int .i64 0]⟩),
 (70, ⟨.func, 1, 8, .nilfn⟩),
 (71, ⟨.func, 1, 8, .nilfn⟩),
 (74, ⟨.struct [(0, 30), (1, 59)], 2, 48, .agg [.nilsl, .nilsl]⟩),
 (82, ⟨.struct [(0, 27), (1, 3), (2, 3), (3, 35)], 4, 48, .agg [.nilptr, .int .i64 0, .int .i64 0, .nilsl]⟩),
 (94, ⟨.func, 1, 8, .nilfn⟩),
 (95, ⟨.func, 1, 8, .nilfn⟩),
 (99, ⟨.arr 128 5, 128, 128, .agg [.int .u8 0, .int .u8 0, .int .u8 0, .int .u8 0, .int .u8 0, .int .u8 0, .int .u8 0, .int .u8 0, .int .u8 0, .int .u8 0, .int .u8 0, .int .u8 0, .int .u8 0, .int .u8 0, .int .u8 0, .int .u8 0, .int .u8 0, .int .u8 0, .int .u8 0, .int .u8 0, .int .u8 0, .int .u8 0, .int .u8 0, .int .u8 0, .int .u8 0, .int .u8 0, .int .u8 0, .int .u8 0, .int .u8 0, .int .u8 0, .int .u8 0, .int .u8 0, .int .u8 0, .int .u8 0, .int .u8 0, .int .u8 0, .int .u8 0, .int .u8 0, .int .u8 0, .int .u8 0, .int .u8 0, .int .u8 0, .int .u8 0, .int .u8 0, .int .u8 0, .int .u8 0, .int .u8 0, .int .u8 0, .int .u8 0, .int .u8 0, .int .u8 0, .int .u8 0, .int .u8 0, .int .u8 0, .int .u8 0, .int .u8 0, .int .u8 0, .int .u8 0, .int .u8 0, .int .u8 0, .int .u8 0, .int .u8 0, .int .u8 0, .int .u8 0, .int .u8 0, .int .u8 0, .int .u8 0, .int .u8 0, .int .u8 0, .int .u8 0, .int .u8 0, .int .u8 0, .int .u8 0, .int .u8 0, .int .u8 0, .int .u8 0, .int .u8 0, .int .u8 0, .int .u8 0, .int .u8 0, .int .u8 0, .int .u8 0, .int .u8 0, .int .u8 0, .int .u8 0, .int .u8 0, .int .u8 0, .int .u8 0, .int .u8 0, .int .u8 0, .int .u8 0, .int .u8 0, .int .u8 0, .int .u8 0, .int .u8 0, .int .u8 0, .int .u8 0, .int .u8 0, .int .u8 0, .int .u8 0, .int .u8 0, .int .u8 0, .int .u8 0, .int .u8 0, .int .u8 0, .int .u8 0, .int .u8 0, .int .u8 0, .int .u8 0, .int .u8 0, .int .u8 0, .int .u8 0, .int .u8 0, .int .u8 0, .int .u8 0, .int .u8 0, .int .u8 0, .int .u8 0, .int .u8 0, .int .u8 0, .int .u8 0, .int .u8 0, .int .u8 0, .int .u8 0, .int .u8 0, .int .u8 0, .int .u8 0, .int .u8 0]⟩),
 (101, ⟨.func, 1, 8, .nilfn⟩)]
theorem eF : Env cF tbF := ⟨cF_ok, TbP.at_ (tb := tbF) ⟨⟨by kernel_rfl, by kernel_rfl, by kernel_rfl⟩, ⟨by kernel_rfl, by kernel_rfl, by kernel_rfl⟩, ⟨by kernel_rfl, by kernel_rfl, by kernel_rfl⟩, ⟨by kernel_rfl, by kernel_rfl, by kernel_rfl⟩, ⟨by kernel_rfl, by kernel_rfl, by kernel_rfl⟩, ⟨by kernel_rfl, by kernel_rfl, by kernel_rfl⟩, ⟨by kernel_rfl, by kernel_rfl, by kernel_rfl⟩, ⟨by kernel_rfl, by kernel_rfl, by kernel_rfl⟩, ⟨by kernel_rfl, by kernel_rfl, by kernel_rfl⟩, ⟨by kernel_rfl, by kernel_rfl, by kernel_rfl⟩, ⟨by kernel_rfl, by kernel_rfl, by kernel_rfl⟩, ⟨by kernel_rfl, by kernel_rfl, by kernel_rfl⟩, ⟨by kernel_rfl, by kernel_rfl, by kernel_rfl⟩, ⟨by kernel_rfl, by kernel_rfl, by kernel_rfl⟩, ⟨by kernel_rfl, by kernel_rfl, by kernel_rfl⟩, ⟨by kernel_rfl, by kernel_rfl, by kernel_rfl⟩, ⟨by kernel_rfl, by kernel_rfl, by kernel_rfl⟩, ⟨by kernel_rfl, by kernel_rfl, by kernel_rfl⟩, ⟨by kernel_rfl, by kernel_rfl, by kernel_rfl⟩, ⟨by kernel_rfl, by kernel_rfl, by kernel_rfl⟩, ⟨by kernel_rfl, by kernel_rfl, by kernel_rfl⟩, ⟨by kernel_rfl, by kernel_rfl, by kernel_rfl⟩, ⟨by kernel_rfl, by kernel_rfl, by kernel_rfl⟩, ⟨by kernel_rfl, by kernel_rfl, by kernel_rfl⟩, ⟨by kernel_rfl, by kernel_rfl, by kernel_rfl⟩, ⟨by kernel_rfl, by kernel_rfl, by kernel_rfl⟩, ⟨by kernel_rfl, by kernel_rfl, by kernel_rfl⟩, ⟨by kernel_rfl, by kernel_rfl, by kernel_rfl⟩, ⟨by kernel_rfl, by kernel_rfl, by kernel_rfl⟩, ⟨by kernel_rfl, by kernel_rfl, by kernel_rfl⟩, ⟨by kernel_rfl, by kernel_rfl, by kernel_rfl⟩, ⟨by kernel_rfl, by kernel_rfl, by kernel_rfl⟩, ⟨by kernel_rfl, by kernel_rfl, by kernel_rfl⟩, trivial⟩, fun i r q => by rw [show cF.g0.get i = .none from h0_get i] at q; cases q⟩
abbrev Str := List UInt8
def bysA (l : Str) : AV := dsl 1 byC l
def encL (b : Str) : List AV := [bysA b]
def lstA (l : List Str) : AV := dsl 1 encL l
def encS (s : List Str) : List AV := [lstA s]
def segA (s : List (List Str)) : AV := dsl 1 encS s
end Go.Px.Lr
end
section
namespace Go.Px.Lr
open Go.Proofs
theorem hm : cF.P.follows .mixedOrders = true := by kernel_rfl
noncomputable def appF : App := app cF drawA 100000 (extT []) 60
theorem appF_ok : AppOk cF appF := app_ok cF_ok (fun f => get_leaf none f) drawA_calm (drawA_sound cF_ok hm) (extT_ok (show XsOk Try.prog [] from trivial)) 60
noncomputable def a5 : Ans := appF (.f 5) [.int .i64 200] (hq 0 [])
noncomputable def h5 : Heap := match a5 with | .ok _ h => h | _ => hq 0 []
noncomputable def b5 : List AB := [h5.get 0, h5.get 1, h5.get 2]
noncomputable def a6 : Ans := appF (.f 6) [.ptr 2 0] (hq 3 b5)
noncomputable def h6 : Heap := match a6 with | .ok _ h => h | _ => hq 0 []
set_option maxRecDepth 1000000 in
theorem ran5 : a5 = .ok (.tup [.ptr 2 0, .int .i64 0]) h5 := by kernel_rfl
set_option maxRecDepth 1000000 in
theorem nxt5 : h5.nxt = 3 := by kernel_rfl
set_option maxRecDepth 1000000 in
theorem plain5 : plainBs b5 = true := by kernel_rfl
theorem blks5 : BlksW h5 b5 0 := ⟨.inr (.inl rfl), .inr (.inl rfl), .inr (.inl rfl), trivial⟩
set_option maxRecDepth 1000000 in
theorem ran6 : a6 = .ok (.tup [.ptr 4 0, .int .i64 0]) h6 := by kernel_rfl
set_option maxRecDepth 1000000 in
theorem nxt6 : h6.nxt = 28 := by kernel_rfl
noncomputable def r6 : Row := match h6.get 4 with | .row r => r | _ => ⟨0, 0, .leaf, [], none⟩
set_option maxRecDepth 1000000 in
theorem row6 : h6.get 4 = .row r6 := by kernel_rfl
set_option maxRecDepth 1000000 in
theorem r6t : r6.t = 62 := by kernel_rfl
set_option maxRecDepth 1000000 in
theorem r6n : r6.n = 7 := by kernel_rfl
set_option maxRecDepth 1000000 in
theorem r6r : r6.root = none := by kernel_rfl
set_option maxRecDepth 1000000 in
theorem r6c : r6.read 0 7 = [.ptr 2 0, .mp 26, .mp 3, .nilsl, .int .i64 0, .int .u64 0, .int .i64 0] := by kernel_rfl
set_option maxRecDepth 1000000 in
theorem map6 : h6.get 26 = .map [] 0 := by kernel_rfl
end Go.Px.Lr
end
