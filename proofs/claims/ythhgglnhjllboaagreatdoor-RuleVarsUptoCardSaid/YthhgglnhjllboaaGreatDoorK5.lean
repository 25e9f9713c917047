/- Parts of the proof in YthhgglnhjllboaaGreatDoorFin: FvW, PxVn, FvAl, FvAm, PxVl, PxVo, FvRow. -/
import Derived.Test.YthhgglnhjllboaaGreatDoorK4
import Derived.Lib.Bytealg
import Derived.Lib.IndexEntry
import Derived.Laws.Externs
import Derived.Test.YthhgglnhjllboaaGreatDoorBulk
import Derived.ProofKit
import Derived.OpenShut
import Derived.JoinedCond
import Derived.LaidMore
import Derived.Stop.LaidErr
import Derived.Shelf.Vars
import Derived.Deep.DeepWitnessRowRef
/- FvW -/
section
set_option linter.unusedVariables false
set_option linter.unusedSimpArgs false
set_option maxHeartbeats 4000000
set_option maxRecDepth 20000
namespace Go.Px.Fv
open Go.Proofs
attribute [local irreducible] Go.Px.KOk Go.Px.KOkW
theorem geS {X : Cx} {L : List (Nat × AV)} {h : Heap} {o : Oper} {t u : Nat} {x y : Operand} {a b : List UInt8} (ho : o.op = .binOp .geq t x y u) (hx : evL L x = some (sA a)) (hy : evL L y = some (sA b)) : Hop X L h o (.bool (bd (¬ a < b))) h := fun e' he => by
  rw [ho]; simp only [opA]; rw [he.ev hx, he.ev hy]
  have e : bd (¬ a < b) = !(bd (a < b)) := by
    by_cases h1 : a < b <;> simp [bd, h1]
  simp only [sA, oBinX, oBin, strOp, strLt_sA, strEq_sA, val, e]
theorem take_mem {l : List Str} {k : Nat} {x : Str} (h : k < l.length) : x ∈ l.take (k + 1) ↔ x ∈ l.take k ∨ l.getD k default = x := by
  rw [take_succ' h, List.mem_append, List.mem_singleton]
  exact or_congr Iff.rfl eq_comm
theorem bd_congr {p q : Prop} (h : p ↔ q) : bd p = bd q := by rw [propext h]
theorem both_eq (l m : List Cl) : AV.rsl (l.length + m.length) 5 (l.flatMap encF ++ m.flatMap encF) = dsl 5 encF (l ++ m) := by
  unfold dsl; rw [List.length_append, List.flatMap_append]
theorem KOk.mono {c : Ctx} {f : FuncId} {us vs : List AV} {v : AV} (h : KOk c f vs v) (H : ∀ F A, VRs (fzm F) us A → VRs (fzm F) vs A) : KOk c f us v := by
  unfold KOk at *
  exact fun F w A a b => h F w A a (H F A b)
theorem rsl_weak {n z : Nat} {us vs : List AV} (hlen : us.length = vs.length) (H : ∀ σ L, VRs σ us L → VRs σ vs L) (σ : Map) (x : Value) (q : VR σ (.rsl n z us) x) : VR σ (.rsl n z vs) x := by
  simp only [VR] at q ⊢
  obtain ⟨h1, h2⟩ := q
  refine ⟨by rw [← hlen]; exact h1, ?_⟩
  rcases h2 with h | ⟨B, o, C, L, e1, e2, e3, e4⟩
  · exact .inl h
  · exact .inr ⟨B, o, C, L, e1, e2, H _ _ e3, e4⟩
theorem k15not {l : List Cl} {v : AV} (h : KOk cF 6 [clsA [.mk 5 [] [] [] l]] v) : KOk cF 6 [.rsl 1 5 [.int .i64 5, .str [], .nilsl, .str [], dsl 5 encF l]] v := by
  rw [clsA_eq] at h
  refine KOk.mono h fun F A q => ?_
  rw [VRs] at q ⊢
  obtain ⟨x, r, q1, q2, e⟩ := q
  refine ⟨x, r, ?_, q2, e⟩
  refine rsl_weak (n := 1) (z := 5) (us := [.int .i64 5, .str [], .nilsl, .str [], dsl 5 encF l]) (vs := [.int .i64 5, sA [], argsA [], sA [], clsA l]) rfl (fun σ L z => ?_) _ _ q1
  simp only [VRs] at z ⊢
  obtain ⟨x0, r0, z0, ⟨x1, r1, z1, ⟨x2, r2, z2, ⟨x3, r3, z3, ⟨x4, r4, z4, e4, e5⟩, e3⟩, e2⟩, e1⟩, e0⟩ := z
  exact ⟨x0, r0, z0, ⟨x1, r1, z1, ⟨x2, r2, weak_nil 4 _ _ z2, ⟨x3, r3, z3, ⟨x4, r4, by rw [clsA_eq]; exact z4, e4, e5⟩, e3⟩, e2⟩, e1⟩, e0⟩
noncomputable def r3_0 : List Oper := ((drawn (Tryz.f3.body.getD .skip))[0]?).getD []
theorem dr3_0 : chkOrd cF r3_0 [0, 1, 2, 3, 4, 5, 6, 7, 8, 9, 10, 11, 12, 13, 14, 15, 16, 17, 18, 19, 20, 21] = true := by kernel_rfl
noncomputable def r3_1 : List Oper := ((drawn (Tryz.f3.body.getD .skip))[1]?).getD []
theorem dr3_1 : chkOrd cF r3_1 [0, 1, 2, 3, 4, 5, 6, 7, 8, 9, 10, 11, 12] = true := by kernel_rfl
noncomputable def r3_2 : List Oper := ((drawn (Tryz.f3.body.getD .skip))[2]?).getD []
theorem dr3_2 : chkOrd cF r3_2 [0, 1, 2, 3, 4, 5, 6, 7, 8, 9, 10, 11, 12] = true := by kernel_rfl
theorem k3 {W : World} (kal : KOkW cF W 4 [] (.bool true)) (l m : List Cl) (hb1 : cntL l ≤ 2000000) (hb2 : cntL m ≤ 2000000) : KOkW cF W 3 [clsA l, clsA m] (.bool true) := by
  have kn1 := k20 (cntL l + 1) l 0 (by omega) hb1 (by omega) (by omega)
  have kn2 := k20 (cntL m + 1) m 0 (by omega) hb2 (by omega) (by omega)
  have hn1 := mnL_all l 0 0 (by omega) (by omega)
  have hn2 := mnL_all m 0 0 (by omega) (by omega)
  rw [clsA_eq, clsA_eq]
  rw [clsA_eq] at kn1 kn2
  refine KOkW.of W cF_ok eF.g Tryz.func3 rfl (Nat.le_of_ble_eq_true rfl) fun w F hE => ?_
  repeat' first | refine Go.seq ?_ | refine Go.region rfl ?_ | refine Ops.nil ?_ | refine Ops.callW eF hE (fun b q => q) rfl rfl (by first | exact Want.no rfl | exact Want.tT rfl rfl rfl rfl | exact Want.fF rfl rfl rfl rfl) rfl rfl rfl rfl kal rfl ?_ | refine Ops.val eF rfl rfl (by first | exact Want.no rfl | exact Want.tT rfl rfl rfl rfl | exact Want.fF rfl rfl rfl rfl) (by first | exact Hop.move rfl rfl | exact Hop.assign rfl rfl | exact Hop.pickT rfl rfl rfl | exact Hop.pickF rfl rfl rfl | exact Hop.not rfl rfl | exact Hop.gtr rfl rfl rfl) ?_ | refine Ops.skip rfl rfl (by first | exact Want.fT rfl rfl rfl rfl | exact Want.tF rfl rfl rfl rfl | exact Want.und rfl rfl rfl rfl) ?_ | refine Ops.gP rfl rfl (fun _ => ?_) (fun _ => ?_) | refine Ops.call eF rfl rfl (by first | exact Want.no rfl | exact Want.tT rfl rfl rfl rfl | exact Want.fF rfl rfl rfl rfl) rfl rfl rfl rfl (kn1) rfl ?_ | refine Ops.call eF rfl rfl (by first | exact Want.no rfl | exact Want.tT rfl rfl rfl rfl | exact Want.fF rfl rfl rfl rfl) rfl rfl rfl rfl (kn2) rfl ?_ | refine Go.condT rfl ?_ | refine Go.condF rfl ?_ | refine Go.skip ?_ | refine Go.retF rfl ?_ rfl
  · rfl
  · rfl
  rename_i c1 c2
  have hb1 : cntL l ≤ 61500 := by have := (hn1.2.2 (by omega)).1; omega
  have hb2 : cntL m ≤ 61500 := by have := (hn2.2.2 (by omega)).1; omega
  have ho1 : okL l := (hn1.2.2 (by omega)).2
  have ho2 : okL m := (hn2.2.2 (by omega)).2
  clear hn1 hn2 kn1 kn2 c1 c2
  have hl1 := cntL_len l
  have hl2 := cntL_len m
  have hc := cntL_app' l m
  have hnc : cntL [.mk 5 [] [] [] (l ++ m)] ≤ 400000 := by simp only [cntL, Cl.cnt, List.length_nil]; omega
  have kv0 := k15 (l ++ m) (by omega) (okL_app ho1 ho2)
  have kv1 := k15 l (by omega) ho1
  have kv2 := k15 m (by omega) ho2
  have kv3 := k15 [.mk 5 [] [] [] (l ++ m)] hnc ⟨⟨by simp, fun i => by rw [show ([] : List Ag).getD i default = default by simp]; exact Nat.zero_le _, by simp, okL_app ho1 ho2⟩, trivial⟩
  rw [vars_not] at kv3
  replace kv3 := k15not kv3
  rw [clsA_eq] at kv0 kv1 kv2
  repeat' first | refine Go.seq ?_ | refine Go.region rfl ?_ | refine Ops.nil ?_ | refine Ops.frzMv eF 6 (both_eq l m) rfl rfl (by first | exact Want.no rfl | exact Want.tT rfl rfl rfl rfl | exact Want.fF rfl rfl rfl rfl) (by first | exact Hop.move rfl rfl | exact Hop.assign rfl rfl) rfl (by repeat' first | exact trivial | refine And.intro ?_ ?_ | exact .inr trivial | exact .inr (ind_row rfl rfl) | exact .inr rfl | exact .inl rfl | exact .inr (hindL _ _)) rfl rfl rfl rfl ?_ | refine Ops.val eF rfl rfl (by first | exact Want.no rfl | exact Want.tT rfl rfl rfl rfl | exact Want.fF rfl rfl rfl rfl) (by first | exact Hop.move rfl rfl | exact Hop.assign rfl rfl | exact Hop.lenD eF rfl rfl rfl rfl rfl rfl rfl) ?_ | refine Ops.call eF rfl rfl (by first | exact Want.no rfl | exact Want.tT rfl rfl rfl rfl | exact Want.fF rfl rfl rfl rfl) rfl rfl rfl rfl (kv0) rfl ?_ | refine Ops.call eF rfl rfl (by first | exact Want.no rfl | exact Want.tT rfl rfl rfl rfl | exact Want.fF rfl rfl rfl rfl) rfl rfl rfl rfl (kv1) rfl ?_ | refine Ops.call eF rfl rfl (by first | exact Want.no rfl | exact Want.tT rfl rfl rfl rfl | exact Want.fF rfl rfl rfl rfl) rfl rfl rfl rfl (kv2) rfl ?_ | refine Ops.appendE eF rfl rfl (by first | exact Want.no rfl | exact Want.tT rfl rfl rfl rfl | exact Want.fF rfl rfl rfl rfl) rfl rfl rfl rfl rfl rfl rfl rfl rfl rfl rfl rfl rfl rfl rfl rfl (by repeat' first | exact trivial | refine And.intro ?_ ?_ | exact .inr trivial | exact .inr (ind_row rfl rfl) | exact .inr rfl | exact .inl rfl | exact .inr (hindL _ _)) rfl rfl rfl rfl rfl (by first | rfl | exact ones_flat (fun _ => rfl) _) (by omega) ?_ | refine Ops.appendNAt eF 0 rfl rfl rfl (fun _ => by first | exact Want.no rfl | exact Want.tT rfl rfl rfl rfl | exact Want.fF rfl rfl rfl rfl) rfl rfl rfl rfl rfl rfl (fun _ => rfl) rfl rfl rfl rfl rfl rfl rfl rfl (by repeat' first | exact trivial | refine And.intro ?_ ?_ | exact .inr trivial | exact .inr (ind_row rfl rfl) | exact .inr rfl | exact .inl rfl | exact .inr (hindL _ _)) rfl rfl rfl rfl rfl (by first | rfl | exact ones_flat (fun _ => rfl) _) (by omega) ?_ | refine Go.block ?_
  have hsA := (varsG_spec (varsL (l ++ m))).1
  have hsa := (varsG_spec (varsL l)).1
  have hsb := (varsG_spec (varsL m)).1
  have hmem := varsG_two l m
  have hle1 := srt_le hsa hsA fun x hx => (hmem x).2 (.inl hx)
  have hle2 := srt_le hsb hsA fun x hx => (hmem x).2 (.inr hx)
  have hle3 := srt_add hsa hsb hsA fun x hx => (hmem x).1 hx
  have hvar : ∀ x ∈ VarsG (varsL (l ++ m)), VarP x ∧ x.length ≤ 2000000 := fun x hx => ⟨varsL_var _ x ((varsG_spec _).2 x |>.1 hx), Nat.le_trans (varsL_var _ x ((varsG_spec _).2 x |>.1 hx)).2.2.1.2.1 (by omega)⟩
  have hlenA : (VarsG (varsL (l ++ m))).length ≤ 2000000 := by
    have h1 := varsL_len (l ++ m)
    have h2 : (VarsG (varsL (l ++ m))).length ≤ (varsL (l ++ m)).length := by
      have := Lib.compact_length_le ((varsL (l ++ m)).mergeSort sLe)
      rw [List.length_mergeSort] at this
      exact this
    omega
  generalize VarsG (varsL (l ++ m)) = al at *
  generalize VarsG (varsL l) = a at *
  generalize VarsG (varsL m) = b at *
  have ks := k13 al al hlenA
  rw [bd_of rfl] at ks
  refine Go.toHQ (N := 0) (bs := []) (L' := [(5, .bool true), (6, dsl 5 encF (l ++ m)), (7, strsA al), (8, strsA a), (9, strsA b), (41, .int .i64 al.length), (42, .int .i64 0)]) ?_ rfl eF.g ⟨rfl, rfl, rfl, rfl, rfl, rfl, rfl, trivial⟩ rfl rfl trivial trivial rfl rfl
  refine Go.loop (fun i : Nat => [(5, .bool true), (6, dsl 5 encF (l ++ m)), (7, strsA al), (8, strsA a), (9, strsA b), (41, .int .i64 al.length), (42, .int .i64 i)]) (fun _ => hq 0 []) (fun i => i ≤ al.length) (fun i => al.length - i) 0 (Nat.zero_le _) ⟨rfl, rfl, rfl, rfl, rfl, rfl, rfl, trivial⟩ rfl (fun i hi ih => ?_)
  by_cases c0 : (i : Int) < (al.length : Int)
  · have hlt : i < al.length := by omega
    have hx := getD_mem hlt
    obtain ⟨hv, hvl⟩ := hvar _ hx
    have k7 := k33 (al.getD i default) hvl
    rw [bd_of hv] at k7
    have hin := (hmem _).1 hx
    have hsorted : 0 < i → al.getD (i - 1) default < al.getD i default := fun q => by
      rw [getD_eq hlt, getD_eq (by omega)]
      exact List.pairwise_iff_getElem.1 hsA (i - 1) i (by omega) hlt (by omega)
    let n7 : Ent cF := ⟨7, Unit, fun _ => [sA (al.getD i default)], fun _ => .bool true, fun _ => k7, fun _ => rfl, fun _ _ _ => rfl⟩
    repeat' first | refine Go.seq ?_ | refine Go.region rfl ?_ | refine Ops.nil ?_ | refine Ops.val eF rfl rfl (by first | exact Want.no rfl | exact Want.tT rfl rfl rfl rfl | exact Want.fF rfl rfl rfl rfl) (by first | exact Hop.move rfl rfl | exact Hop.assign rfl rfl | exact Hop.lss rfl rfl rfl) ?_ | refine Go.condTt rfl (by first | assumption | decide) ?_ | refine Go.block ?_ | refine Go.skip ?_
    refine Go.draw eF hm [n7] [0, 1, 2, 3, 4, 5, 6, 7, 8, 9, 10, 11, 12, 13, 14, 15, 16, 17, 18, 19, 20, 21] dr3_0 ?_
    repeat' first | refine Dr.nil ?_ | refine Dr.pure rfl rfl rfl rfl (by first | exact Want.no rfl | exact Want.tT rfl rfl rfl rfl | exact Want.fF rfl rfl rfl rfl) (geS rfl rfl rfl) ?_ | refine Dr.pure rfl rfl rfl rfl (by first | exact Want.no rfl | exact Want.tT rfl rfl rfl rfl | exact Want.fF rfl rfl rfl rfl) (by first | exact Hop.move rfl rfl | exact Hop.pickT rfl rfl rfl | exact Hop.pickF rfl rfl rfl | exact Hop.not rfl rfl | exact Hop.gtr rfl rfl rfl | exact Hop.sub rfl rfl rfl (by omega) | exact Hop.idx eF rfl rfl rfl rfl rfl rfl rfl (fun _ => rfl) (by omega) | exact Hop.ldR eF rfl rfl rfl rfl rfl) ?_ | refine Dr.light rfl rfl rfl rfl (by first | exact Want.no rfl | exact Want.tT rfl rfl rfl rfl | exact Want.fF rfl rfl rfl rfl) (by first | exact Hop.ldR eF rfl rfl rfl rfl rfl) ?_ | refine Dr.skip rfl rfl rfl (by first | exact Want.fT rfl rfl rfl rfl | exact Want.tF rfl rfl rfl rfl | exact Want.und rfl rfl rfl rfl) ?_ | refine Dr.gP rfl rfl (fun _ => ?_) (fun _ => ?_) | refine Dr.call rfl rfl rfl rfl (by first | exact Want.no rfl | exact Want.tT rfl rfl rfl rfl | exact Want.fF rfl rfl rfl rfl) rfl rfl rfl rfl (by first | exact pans_hd () rfl rfl) ?_
    repeat' first | refine Go.seq ?_ | refine Go.region rfl ?_ | refine Ops.nil ?_ | refine Ops.val eF rfl rfl (by first | exact Want.no rfl | exact Want.tT rfl rfl rfl rfl | exact Want.fF rfl rfl rfl rfl) (by first | exact Hop.move rfl rfl | exact Hop.assign rfl rfl | exact Hop.lenD eF rfl rfl rfl rfl rfl rfl rfl) ?_ | refine Go.condT rfl ?_ | refine Go.condF rfl ?_ | refine Go.block ?_ | refine Go.skip ?_ | refine Go.retF rfl ?_ rfl
    all_goals try simp only [Int.toNat_natCast] at *
    · exfalso
      rename_i q1 q2
      refine q2 ?_
      have := hsorted (by omega)
      rwa [show ((i : Int) - 1).toNat = i - 1 by omega]
    all_goals
      refine Go.to (M := [(5, .bool true), (6, dsl 5 encF (l ++ m)), (7, strsA al), (8, strsA a), (9, strsA b), (10, .int .i64 i), (11, .bool (bd (al.getD i default ∈ a.take 0))), (41, .int .i64 al.length), (42, .int .i64 i), (68, .int .i64 a.length), (69, .int .i64 0)]) ?_ ⟨rfl, rfl, rfl, rfl, rfl, rfl, ?_, rfl, rfl, rfl, rfl, trivial⟩
      rotate_left
      · rw [show bd (al.getD i default ∈ a.take 0) = false from bd_no (by rw [List.take_zero]; exact List.not_mem_nil)]; rfl
      refine Go.loop (fun k : Nat => [(5, .bool true), (6, dsl 5 encF (l ++ m)), (7, strsA al), (8, strsA a), (9, strsA b), (10, .int .i64 i), (11, .bool (bd (al.getD i default ∈ a.take k))), (41, .int .i64 al.length), (42, .int .i64 i), (68, .int .i64 a.length), (69, .int .i64 k)]) (fun _ => hq 0 []) (fun k => k ≤ a.length) (fun k => a.length - k) 0 (Nat.zero_le _) ⟨rfl, rfl, rfl, rfl, rfl, rfl, rfl, rfl, rfl, rfl, rfl, trivial⟩ rfl (fun k hk ih2 => ?_)
      by_cases c1 : (k : Int) < (a.length : Int)
      · have hka : k < a.length := by omega
        have hlt' : i < al.length := hlt
        have et := take_mem (x := al.getD i default) hka
        have g := ih2 (k + 1) (by omega) (by omega)
        repeat' first | refine Go.seq ?_ | refine Go.region rfl ?_ | refine Ops.nil ?_ | refine Ops.val eF rfl rfl (by first | exact Want.no rfl | exact Want.tT rfl rfl rfl rfl | exact Want.fF rfl rfl rfl rfl) (by first | exact Hop.move rfl rfl | exact Hop.assign rfl rfl | exact Hop.lss rfl rfl rfl) ?_ | refine Go.condTt rfl (by first | assumption | decide) ?_ | refine Go.block ?_ | refine Go.skip ?_
        refine Go.draw eF hm [] [0, 1, 2, 3, 4, 5, 6, 7, 8, 9, 10, 11, 12] dr3_1 ?_
        repeat' first | refine Dr.nil ?_ | refine Dr.pure rfl rfl rfl rfl (by first | exact Want.no rfl | exact Want.tT rfl rfl rfl rfl | exact Want.fF rfl rfl rfl rfl) (by first | exact Hop.move rfl rfl | exact Hop.assign rfl rfl | exact Hop.pickT rfl rfl rfl | exact Hop.pickF rfl rfl rfl | exact Hop.eqS rfl rfl rfl | exact Hop.idx eF rfl rfl rfl rfl rfl rfl rfl (fun _ => rfl) (by omega) | exact Hop.ldR eF rfl rfl rfl rfl rfl) ?_ | refine Dr.light rfl rfl rfl rfl (by first | exact Want.no rfl | exact Want.tT rfl rfl rfl rfl | exact Want.fF rfl rfl rfl rfl) (by first | exact Hop.ldR eF rfl rfl rfl rfl rfl) ?_ | refine Dr.skip rfl rfl rfl (by first | exact Want.fT rfl rfl rfl rfl | exact Want.tF rfl rfl rfl rfl | exact Want.und rfl rfl rfl rfl) ?_ | refine Dr.gP rfl rfl (fun _ => ?_) (fun _ => ?_)
        repeat' first | refine Go.region rfl ?_ | refine Ops.nil ?_ | refine Ops.val eF rfl rfl (by first | exact Want.no rfl | exact Want.tT rfl rfl rfl rfl | exact Want.fF rfl rfl rfl rfl) (by first | exact Hop.move rfl rfl | exact Hop.add rfl rfl rfl (by omega)) ?_ | refine Go.unblk ?_
        all_goals try simp only [Int.toNat_natCast] at *
        · rename_i q1
          rw [bd_of (et.2 (.inl q1))] at g
          exact Go.to g ⟨rfl, rfl, rfl, rfl, rfl, rfl, rfl, rfl, rfl, rfl, rfl, trivial⟩
        · rename_i q1
          rw [bd_congr (et.trans (or_iff_right q1))] at g
          exact Go.to g ⟨rfl, rfl, rfl, rfl, rfl, rfl, rfl, rfl, rfl, rfl, rfl, trivial⟩
      · have ek : k = a.length := by omega
        subst ek
        rw [List.take_length]
        repeat' first | refine Go.seq ?_ | refine Go.region rfl ?_ | refine Ops.nil ?_ | refine Ops.val eF rfl rfl (by first | exact Want.no rfl | exact Want.tT rfl rfl rfl rfl | exact Want.fF rfl rfl rfl rfl) (by first | exact Hop.move rfl rfl | exact Hop.lss rfl rfl rfl | exact Hop.lenD eF rfl rfl rfl rfl rfl rfl rfl) ?_ | refine Go.condFt rfl (by first | assumption | decide) ?_ | refine Go.block ?_ | refine Go.exit rfl ?_
        refine Go.to (M := [(5, .bool true), (6, dsl 5 encF (l ++ m)), (7, strsA al), (8, strsA a), (9, strsA b), (10, .int .i64 i), (11, .bool (bd (al.getD i default ∈ a ∨ al.getD i default ∈ b.take 0))), (41, .int .i64 al.length), (42, .int .i64 i), (86, .int .i64 b.length), (87, .int .i64 0)]) ?_ ⟨rfl, rfl, rfl, rfl, rfl, rfl, ?_, rfl, rfl, rfl, rfl, trivial⟩
        rotate_left
        · rw [bd_congr (or_iff_left (fun h => by rw [List.take_zero] at h; cases h))]; rfl
        refine Go.loop (fun k : Nat => [(5, .bool true), (6, dsl 5 encF (l ++ m)), (7, strsA al), (8, strsA a), (9, strsA b), (10, .int .i64 i), (11, .bool (bd (al.getD i default ∈ a ∨ al.getD i default ∈ b.take k))), (41, .int .i64 al.length), (42, .int .i64 i), (86, .int .i64 b.length), (87, .int .i64 k)]) (fun _ => hq 0 []) (fun k => k ≤ b.length) (fun k => b.length - k) 0 (Nat.zero_le _) ⟨rfl, rfl, rfl, rfl, rfl, rfl, rfl, rfl, rfl, rfl, rfl, trivial⟩ rfl (fun k hk ih3 => ?_)
        by_cases c2 : (k : Int) < (b.length : Int)
        · have hkb : k < b.length := by omega
          have et := take_mem (x := al.getD i default) hkb
          have g := ih3 (k + 1) (by omega) (by omega)
          repeat' first | refine Go.seq ?_ | refine Go.region rfl ?_ | refine Ops.nil ?_ | refine Ops.val eF rfl rfl (by first | exact Want.no rfl | exact Want.tT rfl rfl rfl rfl | exact Want.fF rfl rfl rfl rfl) (by first | exact Hop.move rfl rfl | exact Hop.assign rfl rfl | exact Hop.lss rfl rfl rfl) ?_ | refine Go.condTt rfl (by first | assumption | decide) ?_ | refine Go.block ?_ | refine Go.skip ?_
          refine Go.draw eF hm [] [0, 1, 2, 3, 4, 5, 6, 7, 8, 9, 10, 11, 12] dr3_2 ?_
          repeat' first | refine Dr.nil ?_ | refine Dr.pure rfl rfl rfl rfl (by first | exact Want.no rfl | exact Want.tT rfl rfl rfl rfl | exact Want.fF rfl rfl rfl rfl) (by first | exact Hop.move rfl rfl | exact Hop.assign rfl rfl | exact Hop.pickT rfl rfl rfl | exact Hop.pickF rfl rfl rfl | exact Hop.eqS rfl rfl rfl | exact Hop.idx eF rfl rfl rfl rfl rfl rfl rfl (fun _ => rfl) (by omega) | exact Hop.ldR eF rfl rfl rfl rfl rfl) ?_ | refine Dr.light rfl rfl rfl rfl (by first | exact Want.no rfl | exact Want.tT rfl rfl rfl rfl | exact Want.fF rfl rfl rfl rfl) (by first | exact Hop.ldR eF rfl rfl rfl rfl rfl) ?_ | refine Dr.skip rfl rfl rfl (by first | exact Want.fT rfl rfl rfl rfl | exact Want.tF rfl rfl rfl rfl | exact Want.und rfl rfl rfl rfl) ?_ | refine Dr.gP rfl rfl (fun _ => ?_) (fun _ => ?_)
          repeat' first | refine Go.region rfl ?_ | refine Ops.nil ?_ | refine Ops.val eF rfl rfl (by first | exact Want.no rfl | exact Want.tT rfl rfl rfl rfl | exact Want.fF rfl rfl rfl rfl) (by first | exact Hop.move rfl rfl | exact Hop.add rfl rfl rfl (by omega)) ?_ | refine Go.unblk ?_
          all_goals try simp only [Int.toNat_natCast] at *
          · rename_i q1
            rw [bd_of (q1.imp id fun z => et.2 (.inl z))] at g
            exact Go.to g ⟨rfl, rfl, rfl, rfl, rfl, rfl, rfl, rfl, rfl, rfl, rfl, trivial⟩
          · rename_i q1
            have e2 : (al.getD i default ∈ a ∨ al.getD i default ∈ b.take (k + 1)) ↔ b.getD k default = al.getD i default := by
              rw [et]
              exact ⟨fun z => by rcases z with z | z | z; exact absurd (.inl z) q1; exact absurd (.inr z) q1; exact z, fun z => .inr (.inr z)⟩
            rw [bd_congr e2] at g
            exact Go.to g ⟨rfl, rfl, rfl, rfl, rfl, rfl, rfl, rfl, rfl, rfl, rfl, trivial⟩
        · have ek : k = b.length := by omega
          subst ek
          rw [List.take_length, bd_of hin]
          repeat' first | refine Go.seq ?_ | refine Go.region rfl ?_ | refine Ops.nil ?_ | refine Ops.val eF rfl rfl (by first | exact Want.no rfl | exact Want.tT rfl rfl rfl rfl | exact Want.fF rfl rfl rfl rfl) (by first | exact Hop.move rfl rfl | exact Hop.not rfl rfl | exact Hop.lss rfl rfl rfl | exact Hop.add rfl rfl rfl (by omega)) ?_ | refine Go.condF rfl ?_ | refine Go.condFt rfl (by first | assumption | decide) ?_ | refine Go.unblk ?_ | refine Go.skip ?_ | refine Go.exit rfl ?_
          exact Go.to (ih (i + 1) (by omega) (by omega)) ⟨rfl, rfl, rfl, rfl, rfl, rfl, rfl, trivial⟩
  · have ei : i = al.length := by omega
    repeat' first | refine Go.seq ?_ | refine Go.region rfl ?_ | refine Ops.nil ?_ | refine Ops.val eF rfl rfl (by first | exact Want.no rfl | exact Want.tT rfl rfl rfl rfl | exact Want.fF rfl rfl rfl rfl) (by first | exact Hop.move rfl rfl | exact Hop.assign rfl rfl | exact Hop.pickT rfl rfl rfl | exact Hop.pickF rfl rfl rfl | exact Hop.lss rfl rfl rfl | exact Hop.leq rfl rfl rfl | exact Hop.add rfl rfl rfl (by omega) | exact Hop.lenD eF rfl rfl rfl rfl rfl rfl rfl | exact Hop.build eF rfl rfl rfl rfl rfl rfl rfl) ?_ | refine Ops.skip rfl rfl (by first | exact Want.fT rfl rfl rfl rfl | exact Want.tF rfl rfl rfl rfl | exact Want.und rfl rfl rfl rfl) ?_ | refine Ops.gP rfl rfl (fun _ => ?_) (fun _ => ?_) | refine Ops.call eF rfl rfl (by first | exact Want.no rfl | exact Want.tT rfl rfl rfl rfl | exact Want.fF rfl rfl rfl rfl) rfl rfl rfl rfl (kv3) rfl ?_ | refine Ops.call eF rfl rfl (by first | exact Want.no rfl | exact Want.tT rfl rfl rfl rfl | exact Want.fF rfl rfl rfl rfl) rfl rfl rfl rfl (ks) rfl ?_ | refine Ops.data eF rfl rfl (by first | exact Want.no rfl | exact Want.tT rfl rfl rfl rfl | exact Want.fF rfl rfl rfl rfl) rfl (Hop.bslice eF rfl rfl rfl rfl rfl rfl rfl rfl rfl rfl rfl) rfl rfl ?_ | refine Go.condFt rfl (by first | assumption | decide) ?_ | refine Go.exit rfl ?_ | refine Go.retF rfl ?_ rfl
    all_goals first
      | (exact congrArg AV.bool (bd_of (by omega)))
      | (exfalso; omega)
end Go.Px.Fv
end
/- PxVn -/
section
set_option linter.unusedVariables false
set_option linter.unusedSimpArgs false
namespace Go.Px
inductive XK where
  | cmp | idx | cnt | same | sub (g : Nat)

noncomputable section
/-- the bytes of a text, or of a slice -/
def bytesV (h : Heap) (v : AV) : Option (List Nat) :=
  match v with
  | .str l => some l
  | .nilsl => some []
  | .esl _ => some []
  | .sl id off len _ z => (match Nat.beq z 1 with
    | true => (match h.row id with
      | some r => (match Nat.ble (off + len) r.n with | true => bytesA (r.read off len) | false => none)
      | none => none)
    | false => none)
  | _ => none
def cmpN (a : List Nat) : List Nat → Int :=
  List.rec (motive := fun _ => List Nat → Int) (fun b => match b with | [] => .ofNat 0 | _ :: _ => .negSucc 0)
    (fun x _ ih b => match b with
      | [] => .ofNat 1
      | y :: b => (match Nat.ble (x % 256 + 1) (y % 256) with | true => .negSucc 0 | false => (match Nat.ble (y % 256 + 1) (x % 256) with | true => .ofNat 1 | false => ih b))) a
def idxN (c : Nat) (l : List Nat) : Nat → Int :=
  List.rec (motive := fun _ => Nat → Int) (fun _ => .negSucc 0) (fun x _ ih i => match Nat.beq (x % 256) (c % 256) with | true => .ofNat i | false => ih (i + 1)) l
def cntN (c : Nat) (l : List Nat) : Nat := List.rec (motive := fun _ => Nat) 0 (fun x _ r => match Nat.beq (x % 256) (c % 256) with | true => r + 1 | false => r) l
/-- does a text begin so -/
def pre (m : List Nat) : List Nat → Bool :=
  List.rec (motive := fun _ => List Nat → Bool) (fun _ => true)
    (fun x _ ih l => match l with | [] => false | y :: l => (match Nat.beq (x % 256) (y % 256) with | true => ih l | false => false)) m
def findAt (l m : List Nat) : Nat → Int :=
  List.rec (motive := fun _ => Nat → Int) (fun _ => .negSucc 0) (fun x t ih i => match pre m (x :: t) with | true => .ofNat i | false => ih (i + 1)) l
/-- is a length at most what the variable holds -/
def fitsG (h : Heap) (g n : Nat) : Bool :=
  match glRow h g with
  | some r => (match Nat.ble 1 r.n with
    | true => (match r.get 0 with
      | .int k x => (match k with | .i64 => (match ilt x (.ofNat n) with | true => false | false => true) | _ => false)
      | .big x => Nat.ble n x
      | _ => false)
    | false => false)
  | none => false
def xrun (k : XK) (h : Heap) (args : List AV) : Option AV :=
  match k with
  | .cmp => (match args with
    | [a, b] => (match bytesV h a with
      | some l => (match bytesV h b with | some m => some (.int .i64 (cmpN l m)) | none => none)
      | none => none)
    | _ => none)
  | .idx => (match args with
    | [a, b] => (match b with
      | .int k n => (match k with
        | .u8 => (match bytesV h a with | some l => some (.int .i64 (idxN n.toNat l 0)) | none => none)
        | _ => none)
      | _ => none)
    | _ => none)
  | .cnt => (match args with
    | [a, b] => (match b with
      | .int k n => (match k with
        | .u8 => (match bytesV h a with | some l => some (.int .i64 (.ofNat (cntN n.toNat l))) | none => none)
        | _ => none)
      | _ => none)
    | _ => none)
  | .same => (match args with | [a] => some a | _ => none)
  | .sub g => (match args with
    | [a, b] => (match a with
      | .str l => (match b with
        | .str m => (match Nat.ble 2 m.length with
          | true => (match Nat.ble l.length 1000000 with
            | true => (match fitsG h g m.length with | true => some (.int .i64 (findAt l m 0)) | false => none)
            | false => none)
          | false => none)
        | _ => none)
      | _ => none)
    | _ => none)
def tabOf (xs : List (FuncId × XK)) : T (Option XK) := List.rec (motive := fun _ => T (Option XK)) .leaf (fun p _ t => t.set none p.1 (some p.2)) xs
def extT (xs : List (FuncId × XK)) : Ext := fun _ f _ args h =>
  match (tabOf xs).get none f with
  | some k => (match xrun k h args with | some v => .ok v h | none => .bad ["extern"])
  | none => .bad ["extern"]
end

def rowOf : XK → Array Value → Sem Value
  | .cmp => Extern.BytealgCompare.compare
  | .idx => Extern.BytealgIndexByte.indexByte
  | .cnt => Extern.BytealgCount.count
  | .same => Extern.AbiNoEscape.same
  | .sub _ => Extern.BytealgIndex.index
/-- what else an extern asks of the program -/
def XkOk (P : Program) : XK → Prop
  | .sub g => P.globals.findIdx? (·.name == "internal/bytealg.MaxLen") = some g
  | _ => True
def XsOk (P : Program) : List (FuncId × XK) → Prop
  | [] => True
  | (f, k) :: xs => (∃ fn, P.funcs[f]? = some fn ∧ (fn.name == "runtime.NumGoroutine") = false ∧ fn.body.isNone = true ∧ Extern.findNext fn = none ∧ Extern.find fn = some (rowOf k) ∧ XkOk P k) ∧ XsOk P xs

theorem tabOf_mem : ∀ {xs : List (FuncId × XK)} {f : FuncId} {k : XK}, (tabOf xs).get none f = some k → (f, k) ∈ xs
  | [], f, k, h => by
    have : T.get none (.leaf : T (Option XK)) f = some k := h
    rw [get_leaf] at this; cases this
  | p :: xs, f, k, h => by
    have h' : T.get none ((tabOf xs).set none p.1 (some p.2)) f = some k := h
    rw [get_set] at h'
    by_cases e : f = p.1
    · rw [if_pos e] at h'
      cases h'
      rw [e]; exact List.mem_cons_self
    · rw [if_neg e] at h'
      exact List.mem_cons_of_mem _ (tabOf_mem h')
theorem XsOk.at {P : Program} : ∀ {xs : List (FuncId × XK)}, XsOk P xs → ∀ {f k}, (f, k) ∈ xs → ∃ fn, P.funcs[f]? = some fn ∧ (fn.name == "runtime.NumGoroutine") = false ∧ fn.body.isNone = true ∧ Extern.findNext fn = none ∧ Extern.find fn = some (rowOf k) ∧ XkOk P k
  | [], _, f, k, h => by cases h
  | p :: xs, hx, f, k, h => by
    rcases List.mem_cons.1 h with e | h
    · subst e; exact hx.1
    · exact XsOk.at hx.2 h

theorem loadBytes_ok {P : Program} {w : World} {B : Nat} : ∀ (ns : List Int) (off : Nat) (acc : ByteArray), (∀ (j : Nat) v, (ns.map (Value.int .u8))[j]? = some v → w.cell? ⟨B, off + j, none⟩ = some v) →
    (Extern.Bytes.loadBytes ⟨B, off, none⟩ ns.length acc).run P w = .ok ⟨acc.data ++ ((ns.map Int.toNat).map UInt8.ofNat).toArray⟩ w
  | [], off, acc, h => by simp [Extern.Bytes.loadBytes]
  | n :: ns, off, acc, h => by
    have h0 : w.cell? ⟨B, off, none⟩ = some (.int .u8 n) := by simpa using h 0 (.int .u8 n) rfl
    have ih := loadBytes_ok (P := P) ns (off + 1) (acc.push n.toNat.toUInt8) (fun j v hv => by
      have := h (j + 1) v (by simpa using hv)
      rw [show off + 1 + j = off + (j + 1) by omega]; exact this)
    simp only [List.length_cons, Extern.Bytes.loadBytes, Sem.run_bind, run_load, h0, Result.andThen_ok, add_off]
    rw [ih]
    simp [ByteArray.push, Nat.toUInt8]

theorem bytesOf_ok {P : Program} {ρ : Map} {h : Heap} {w : World} (hr : HR ρ h w) {v : AV} {X : Value} {l : List Nat} (e : bytesV h v = some l) (hx : VR ρ v X) : (Extern.Bytes.bytesOf X).run P w = .ok (bs l) w := by
  unfold bytesV at e
  split at e
  · cases e; simp only [VR] at hx; subst hx; simp [Extern.Bytes.bytesOf]
  · cases e; simp only [VR] at hx; subst hx; simp [Extern.Bytes.bytesOf]; rfl
  · cases e
    simp only [VR] at hx
    obtain ⟨B, N, o, C, hp, rfl⟩ := hx
    simp [Extern.Bytes.bytesOf, Extern.Bytes.loadBytes]; rfl
  · rename_i id off len cap z
    split at e
    · split at e
      · rename_i r hrow
        split at e
        · rename_i hb
          simp only [VR] at hx
          obtain ⟨B, N, C, hp, rfl, _⟩ := hx
          have ro := hr.rowAt hrow hp
          obtain ⟨L, l1, l2, l3⟩ := RowOk.reads ro len off (bleT hb)
          obtain ⟨ns, n1, n2⟩ := bytesA_ok _ L l e l1
          have hlen : ns.length = len := by rw [← l2, n1]; simp
          have := loadBytes_ok (P := P) (w := w) (B := B) ns off ByteArray.empty (fun j v hv => l3 j v (by rw [n1]; exact hv))
          rw [hlen, n2] at this
          simp only [Extern.Bytes.bytesOf]
          rw [this]
          have he0 : ByteArray.empty.data = #[] := rfl
          rw [he0]
          simp [bs]
        · cases e
      · cases e
    · cases e
  · cases e

theorem cmpN_eq : ∀ (a b : List Nat), cmpN a b = Lib.compareBytes (a.map UInt8.ofNat) (b.map UInt8.ofNat)
  | [], [] => rfl
  | [], _ :: _ => rfl
  | _ :: _, [] => rfl
  | x :: a, y :: b => by
    have e : cmpN (x :: a) (y :: b) = (match Nat.ble (x % 256 + 1) (y % 256) with | true => .negSucc 0 | false => (match Nat.ble (y % 256 + 1) (x % 256) with | true => .ofNat 1 | false => cmpN a b)) := rfl
    rw [e, cmpN_eq a b]
    simp only [List.map_cons, Lib.compareBytes]
    have hxy : (UInt8.ofNat x < UInt8.ofNat y) ↔ x % 256 < y % 256 := by rw [UInt8.lt_iff_toNat_lt]; simp
    have hyx : (UInt8.ofNat y < UInt8.ofNat x) ↔ y % 256 < x % 256 := by rw [UInt8.lt_iff_toNat_lt]; simp
    by_cases h1 : x % 256 < y % 256
    · rw [if_pos (hxy.2 h1), (ble_iff _ _).2 (show x % 256 + 1 ≤ y % 256 by omega)]; rfl
    · rw [if_neg (fun q => h1 (hxy.1 q)), ble_not (show ¬ x % 256 + 1 ≤ y % 256 by omega)]
      simp only []
      by_cases h2 : y % 256 < x % 256
      · rw [if_pos (hyx.2 h2), (ble_iff _ _).2 (show y % 256 + 1 ≤ x % 256 by omega)]; rfl
      · rw [if_neg (fun q => h2 (hyx.1 q)), ble_not (show ¬ y % 256 + 1 ≤ x % 256 by omega)]

theorem beq_u8 (x c : Nat) : Nat.beq (x % 256) (c % 256) = (UInt8.ofNat x == UInt8.ofNat c) := by
  by_cases h : x % 256 = c % 256
  · have : UInt8.ofNat x = UInt8.ofNat c := by apply UInt8.toNat_inj.1; simpa using h
    rw [this, h]; simp
  · have : UInt8.ofNat x ≠ UInt8.ofNat c := fun q => h (by have := congrArg UInt8.toNat q; simpa using this)
    rw [beqF h]; simp [this]
theorem idxN_eq (c : Nat) : ∀ (l : List Nat) (i : Nat), idxN c l i = (if Lib.indexByte (l.map UInt8.ofNat) (UInt8.ofNat c) = -1 then -1 else Lib.indexByte (l.map UInt8.ofNat) (UInt8.ofNat c) + (i : Int))
  | [], i => rfl
  | x :: l, i => by
    have e : idxN c (x :: l) i = (match Nat.beq (x % 256) (c % 256) with | true => .ofNat i | false => idxN c l (i + 1)) := rfl
    rw [e, idxN_eq c l (i + 1), beq_u8]
    have hge := Lib.indexByte_ge (l.map UInt8.ofNat) (UInt8.ofNat c)
    simp only [List.map_cons, Lib.indexByte]
    cases hb : (UInt8.ofNat x == UInt8.ofNat c) with
    | true => simp
    | false =>
      simp only [Bool.false_eq_true, if_false]
      by_cases h1 : Lib.indexByte (l.map UInt8.ofNat) (UInt8.ofNat c) = -1
      · simp [h1]
      · have h2 : (Lib.indexByte (l.map UInt8.ofNat) (UInt8.ofNat c) == -1) = false := by simpa using h1
        rw [if_neg h1, h2]
        simp only [Bool.false_eq_true, if_false]
        rw [if_neg (by omega)]
        push_cast
        omega
theorem cntN_eq (c : Nat) : ∀ (l : List Nat), cntN c l = Lib.countByte (l.map UInt8.ofNat) (UInt8.ofNat c)
  | [] => rfl
  | x :: l => by
    have e : cntN c (x :: l) = (match Nat.beq (x % 256) (c % 256) with | true => cntN c l + 1 | false => cntN c l) := rfl
    rw [e, cntN_eq c l, beq_u8]
    unfold Lib.countByte
    rw [List.map_cons, List.count_cons]
    cases hb : (UInt8.ofNat x == UInt8.ofNat c) <;> simp

theorem pre_eq : ∀ (m l : List Nat), pre m l = (m.map UInt8.ofNat).isPrefixOf (l.map UInt8.ofNat)
  | [], l => by cases l <;> rfl
  | x :: m, [] => rfl
  | x :: m, y :: l => by
    have e : pre (x :: m) (y :: l) = (match Nat.beq (x % 256) (y % 256) with | true => pre m l | false => false) := rfl
    rw [e, beq_u8, pre_eq m l]
    simp only [List.map_cons, List.isPrefixOf]
    cases (UInt8.ofNat x == UInt8.ofNat y) <;> simp
theorem findAt_eq (m : List Nat) (hm : m ≠ []) : ∀ (l : List Nat) (i : Nat), findAt l m i = (if Lib.index (l.map UInt8.ofNat) (m.map UInt8.ofNat) = -1 then -1 else Lib.index (l.map UInt8.ofNat) (m.map UInt8.ofNat) + (i : Int))
  | [], i => by
    have : Lib.index ([] : List UInt8) (m.map UInt8.ofNat) = -1 := by
      unfold Lib.index
      cases m with
      | nil => exact absurd rfl hm
      | cons x m => simp
    simp only [List.map_nil, this, if_true]
    rfl
  | x :: l, i => by
    have e : findAt (x :: l) m i = (match pre m (x :: l) with | true => .ofNat i | false => findAt l m (i + 1)) := rfl
    have hge := Lib.index_ge (l.map UInt8.ofNat) (m.map UInt8.ofNat)
    rw [e, findAt_eq m hm l (i + 1), pre_eq]
    simp only [List.map_cons, Lib.index]
    cases hb : (m.map UInt8.ofNat).isPrefixOf (UInt8.ofNat x :: l.map UInt8.ofNat) with
    | true => simp
    | false =>
      simp only [Bool.false_eq_true, if_false]
      by_cases h1 : Lib.index (l.map UInt8.ofNat) (m.map UInt8.ofNat) = -1
      · simp [h1]
      · have h2 : (Lib.index (l.map UInt8.ofNat) (m.map UInt8.ofNat) == -1) = false := by simpa using h1
        rw [if_neg h1, h2]
        simp only [Bool.false_eq_true, if_false]
        rw [if_neg (by omega)]
        push_cast
        omega
theorem fitsG_ok {ρ : Map} {h : Heap} {w : World} (hr : HR ρ h w) {g n : Nat} (e : fitsG h g n = true) : ∃ m : Int, w.cell? ⟨g, 0, none⟩ = some (.int .i64 m) ∧ (n : Int) ≤ m := by
  unfold fitsG at e
  split at e
  · rename_i r hg
    split at e
    · rename_i hn
      obtain ⟨v, v1, v2⟩ := hr.glAt hg 0 (by have := bleT hn; omega)
      split at e
      · rename_i k x hx
        split at e
        · split at e
          · cases e
          · rename_i hl
            rw [hx] at v2
            simp only [VR] at v2
            subst v2
            rw [ilt_eq] at hl
            exact ⟨x, v1, by simpa using hl⟩
        · cases e
      · rename_i x hx
        rw [hx] at v2
        simp only [VR] at v2
        obtain ⟨m, m1, rfl⟩ := v2
        have := bleT e
        exact ⟨m, v1, by omega⟩
      · cases e
    · cases e
  · cases e

theorem xrun_ok {P : Program} {ρ : Map} {h : Heap} {w : World} (hr : HR ρ h w) {k : XK} (hxk : XkOk P k) {args : List AV} {A : List Value} {v : AV} (e : xrun k h args = some v) (hA : VRs ρ args A) :
    ∃ z, (rowOf k A.toArray).run P w = .ok z w ∧ VR ρ v z := by
  unfold xrun at e
  split at e
  · split at e
    · rename_i a b
      simp only [VRs] at hA
      obtain ⟨X, _, hx, ⟨Y, _, hy, rfl, rfl⟩, rfl⟩ := hA
      split at e
      · rename_i l hl
        split at e
        · rename_i m hm
          cases e
          refine ⟨.int .i64 (cmpN l m), ?_, by simp only [VR]⟩
          show (do pure (goInt (Extern.BytealgCompare.cmp (← Extern.Bytes.bytesOf X) (← Extern.Bytes.bytesOf Y))) : Sem Value).run P w = _
          simp only [Sem.run_bind, bytesOf_ok hr hl hx, bytesOf_ok hr hm hy, Result.andThen_ok, Sem.run_pure, Lib.cmp_eq, cmpN_eq]
          simp [bs, goInt]
        · cases e
      · cases e
    · cases e
  · split at e
    · rename_i a b
      split at e
      · rename_i kk n
        split at e
        · split at e
          · rename_i l hl
            cases e
            simp only [VRs] at hA
            obtain ⟨X, _, hx, ⟨Y, _, hy, rfl, rfl⟩, rfl⟩ := hA
            simp only [VR] at hy; subst hy
            refine ⟨.int .i64 (idxN n.toNat l 0), ?_, by simp only [VR]⟩
            show (do
              let b ← Extern.Bytes.bytesOf X
              let c' ← Extern.Bytes.asByte (.int .u8 n)
              match (List.range b.size).find? fun i => b[i]! == c' with
              | some i => pure (goInt i)
              | none => pure (goInt (-1)) : Sem Value).run P w = _
            simp only [Sem.run_bind, bytesOf_ok hr hl hx, Result.andThen_ok, Extern.Bytes.asByte, Sem.run_pure]
            have h1 : firstIdx (bs l) n.toNat.toUInt8 = idxN n.toNat l 0 := by
              rw [Lib.firstIdx_eq, idxN_eq]
              have hb : (bs l).data.toList = l.map UInt8.ofNat := by simp [bs]
              rw [hb]
              have hc : n.toNat.toUInt8 = UInt8.ofNat n.toNat := rfl
              rw [hc]
              split
              · rename_i h2; rw [h2]
              · simp
            rw [← h1]
            unfold firstIdx
            generalize (List.range (bs l).size).find? (fun i => (bs l)[i]! == n.toNat.toUInt8) = q
            cases q <;> rfl
          · cases e
        · cases e
      · cases e
    · cases e
  · split at e
    · rename_i a b
      split at e
      · rename_i kk n
        split at e
        · split at e
          · rename_i l hl
            cases e
            simp only [VRs] at hA
            obtain ⟨X, _, hx, ⟨Y, _, hy, rfl, rfl⟩, rfl⟩ := hA
            simp only [VR] at hy; subst hy
            refine ⟨.int .i64 (.ofNat (cntN n.toNat l)), ?_, by simp only [VR]⟩
            have h0 := Lib.run_countString (P := P) (bs l) n w
            have hb : (bs l).data.toList = l.map UInt8.ofNat := by simp [bs]
            rw [hb, show n.toNat.toUInt8 = UInt8.ofNat n.toNat from rfl, ← cntN_eq] at h0
            rw [show (Value.int .i64 (.ofNat (cntN n.toNat l))) = .int .i64 (cntN n.toNat l : Nat) from rfl, ← h0]
            show (do
              let b ← Extern.Bytes.bytesOf X
              let c ← Extern.Bytes.asByte (.int .u8 n)
              pure (goInt (b.foldl (fun n x => if x == c then n + 1 else n) (0 : Nat))) : Sem Value).run P w = (do
              let b ← Extern.Bytes.bytesOf (.string (bs l))
              let c ← Extern.Bytes.asByte (.int .u8 n)
              pure (goInt (b.foldl (fun n x => if x == c then n + 1 else n) (0 : Nat))) : Sem Value).run P w
            have hstr : (Extern.Bytes.bytesOf (.string (bs l))).run P w = .ok (bs l) w := by simp [Extern.Bytes.bytesOf]
            simp only [Sem.run_bind, bytesOf_ok hr hl hx, hstr, Result.andThen_ok]
          · cases e
        · cases e
      · cases e
    · cases e
  · split at e
    · rename_i a
      cases e
      simp only [VRs] at hA
      obtain ⟨X, _, hx, rfl, rfl⟩ := hA
      exact ⟨X, rfl, hx⟩
    · cases e
  · rename_i g
    split at e
    · rename_i a b
      split at e
      · rename_i l
        split at e
        · rename_i m
          split at e
          · rename_i h2
            split at e
            · rename_i hl
              split at e
              · rename_i hf
                cases e
                simp only [VRs] at hA
                obtain ⟨X, _, hx, ⟨Y, _, hy, rfl, rfl⟩, rfl⟩ := hA
                simp only [VR] at hx hy
                subst hx; subst hy
                obtain ⟨mx, c1, c2⟩ := fitsG_ok hr hf
                have h2 := bleT h2
                have hl := bleT hl
                refine ⟨.int .i64 (findAt l m 0), ?_, by simp only [VR]⟩
                have h0 := Lib.run_indexString (P := P) (bs l) (bs m) w g mx hxk c1 (by rw [bs_size]; exact h2) (by rw [bs_size]; exact c2) (by rw [bs_size]; omega)
                have hm : m ≠ [] := fun q => by rw [q] at h2; simp at h2
                have e1 : findAt l m 0 = Lib.index (bs l).data.toList (bs m).data.toList := by
                  rw [findAt_eq m hm l 0]
                  have e2 : ∀ q : List Nat, (bs q).data.toList = q.map UInt8.ofNat := fun q => by simp [bs]
                  rw [e2, e2]
                  split
                  · rename_i h9; rw [h9]
                  · simp
                rw [e1]
                exact h0
              · cases e
            · cases e
          · cases e
        · cases e
      · cases e
    · cases e


theorem extT_ok {P : Program} {g0 : Heap} {xs : List (FuncId × XK)} (hxs : XsOk P xs) : ExtOk (ctxG P g0) (extT xs) := by
  intro app ha f fn args h v h' he hf hb ρ w A hr wf fr hA
  unfold extT at he
  split at he
  · rename_i k hk
    split at he
    · rename_i u hu
      cases he
      obtain ⟨fn', q1, q2, q3, q4, q5, q6⟩ := hxs.at (tabOf_mem hk)
      obtain ⟨z, z1, z2⟩ := xrun_ok (P := P) hr q6 hu hA
      refine ⟨.value z, w, ?_, ρ, Good.refl hr wf, z2⟩
      have := run_callFunc_extern q1 q2 q3 q4 q5 A.toArray w
      show (callFunc f A.toArray).run P w = _
      rw [this, z1]
      rfl
    · cases he
  · cases he

end Go.Px
end
/- FvAl -/
section
set_option linter.unusedVariables false
namespace Go.Px.Fv
open Go.Proofs
def xs : List (FuncId × XK) := [(92, .idx), (94, .sub 0), (110, .same), (130, .cnt)]
theorem xsOk : XsOk Tryz.prog xs := ⟨⟨Tryz.f92, Tryz.func92, by kernel_rfl, by kernel_rfl, by kernel_rfl, by kernel_rfl, trivial⟩, ⟨Tryz.f94, Tryz.func94, by kernel_rfl, by kernel_rfl, by kernel_rfl, by kernel_rfl, (show Tryz.prog.globals.findIdx? (·.name == "internal/bytealg.MaxLen") = some 0 by kernel_rfl)⟩, ⟨Tryz.f110, Tryz.func110, by kernel_rfl, by kernel_rfl, by kernel_rfl, by kernel_rfl, trivial⟩, ⟨Tryz.f130, Tryz.func130, by kernel_rfl, by kernel_rfl, by kernel_rfl, by kernel_rfl, trivial⟩, trivial⟩
def gRest : List (Nat × List AV) := [(1, [.ifc 227 .bad])]
def gBig : List (Nat × List AV) := (0, [.big (1 + 1)]) :: gRest
def gLow : List (Nat × List AV) := (0, [.low 1]) :: gRest
noncomputable def cBig : Ctx := ctxG Tryz.prog (glHeap 8 gBig)
noncomputable def cLow : Ctx := ctxG Tryz.prog (glHeap 8 gLow)
set_option maxRecDepth 1000000 in
theorem ranBig : answers (app cBig drawA 100000 (extT xs) 80 (.f 4) [] (glHeap 8 gBig)) true = true := by kernel_rfl
set_option maxRecDepth 1000000 in
theorem ranLow : answers (app cLow drawA 100000 (extT xs) 80 (.f 4) [] (glHeap 8 gLow)) true = true := by kernel_rfl
end Go.Px.Fv
end
/- FvAm -/
section
set_option linter.unusedVariables false
namespace Go.Px.Fv
open Go.Proofs
theorem names : namesOk Tryz.prog = true := by kernel_rfl
theorem kAl {W : World} {m : Int} {a : Addr} (h0 : W.cell? ⟨0, 0, none⟩ = some (.int .i64 m)) (h1 : W.cell? ⟨1, 0, none⟩ = some (.iface 227 (.pointer (some a)))) : KOkW cF W 4 [] (.bool true) := by
  have hr : ∀ p, p ∈ gRest → p.1 < W.heap.size ∧ ∀ j, j < p.2.length → ∃ v, W.cell? ⟨p.1, j, none⟩ = some v ∧ VR (fzm fun _ => []) ((rowG p.2).get j) v := fun p hp => by
    simp only [gRest, List.mem_cons, List.not_mem_nil, or_false] at hp
    subst hp
    exact glob_cell h1 (by simp only [VR]; exact ⟨_, trivial, rfl⟩)
  by_cases hm2 : 2 ≤ m
  · have hW : GlobP cBig.g0 W := glob_intro fun p hp => by
      rcases List.mem_cons.1 hp with rfl | hp
      · exact glob_cell h0 (by simp only [VR]; exact ⟨m, by omega, rfl⟩)
      · exact hr p hp
    exact KOkW.run (cG := cBig) rfl (ctxG_ok names) (fun f => get_leaf none f) hm (show BaseOk cBig.g0 from glHeap_base (G := 8) (l := gBig) (by simp [gBig, gRest])) hW (extT_ok xsOk) (answers_ok ranBig)
  · have hW : GlobP cLow.g0 W := glob_intro fun p hp => by
      rcases List.mem_cons.1 hp with rfl | hp
      · exact glob_cell h0 (by simp only [VR]; exact ⟨m, by omega, rfl⟩)
      · exact hr p hp
    exact KOkW.run (cG := cLow) rfl (ctxG_ok names) (fun f => get_leaf none f) hm (show BaseOk cLow.g0 from glHeap_base (G := 8) (l := gLow) (by simp [gLow, gRest])) hW (extT_ok xsOk) (answers_ok ranLow)
end Go.Px.Fv
end
/- PxVl -/
section
set_option linter.unusedVariables false
namespace Go.Px
open Go.Deep Go.ChangeShapes Go.WideShapes
theorem read_sliceB {H : Type} {enc : TypeId × Value → H} {P : Program} {W : World} {α : Type} [Inhabited α] {en : α → List AV} {z : Nat} (hz : 0 < z) (hen : ∀ a, (en a).length = z) {t e : TypeId} (ht : P.underlying t = some (.slice e)) (hc : P.cellsOf e = z) {Q : α → DataW H → Prop} {B : DataW H → Prop}
    (hel : ∀ n cs y, B y.1 → DataW.trod enc P W 0 (fun _ => true) true n e cs = some y → ∃ x, VRs (fzm (held0 W)) (en x) cs ∧ Q x y.1)
    {n : Nat} {v : Value} {y : DataW H × List MemPlace} (hB : ∀ els sp, y.1 = .slice els sp → ∀ d ∈ els, B d) (h : DataW.trod enc P W 0 (fun _ => true) true n t [v] = some y) :
    ∃ l : List α, VR (fzm (held0 W)) (dsl z en l) v ∧ ((l = [] ∧ y.1 = .nil) ∨ ∃ els sp, y.1 = .slice els sp ∧ els.length = l.length ∧ ∀ i, i < l.length → ∃ d, els[i]? = some d ∧ Q (l.getD i default) d) := by
  rcases open_slice ht h with ⟨hv, rfl⟩ | ⟨a, len, cap, m, k, D, Pl, hv, hb, hl, hm, hmm, rfl, hx⟩
  · have hv : v = .slice none 0 0 := by simpa using hv
    subst hv
    exact ⟨[], by simp [dsl, VR], .inl ⟨rfl, rfl⟩⟩
  · have hv : v = .slice (some a) len cap := by simpa using hv
    subst hv
    rw [hc] at hx
    have hlm : len ≤ m := by rw [hmm]; split <;> omega
    obtain ⟨f, hf⟩ := choose_lt (α := α) (n := len) (p := fun i x => ∃ cs, W.cells? 0 (a.add (i * z)) z = some cs ∧ VRs (fzm (held0 W)) (en x) cs ∧ Q x (D i)) (fun i hi => by
      obtain ⟨cs', h1, h2⟩ := hx i (by omega)
      obtain ⟨x, x1, x2⟩ := hel _ _ _ (hB _ _ rfl _ (List.mem_map.2 ⟨i, List.mem_range.2 hi, rfl⟩)) h2
      exact ⟨x, cs', h1, x1, x2⟩)
    have hlen : ((List.range len).map f).length = len := by simp
    refine ⟨(List.range len).map f, ?_, .inr ⟨_, _, rfl, by simp, fun i hi => ?_⟩⟩
    · unfold dsl
      rw [hlen]
      simp only [VR]
      refine ⟨by rw [flat_len hen, hlen], ?_⟩
      by_cases h0 : len = 0
      · exact .inl ⟨h0, .inr ⟨a, cap, by rw [h0]⟩⟩
      · right
        obtain ⟨B, o, spot⟩ := a
        have hspot : spot = none := by
          obtain ⟨cs, c1, c2, _⟩ := hf 0 (by omega)
          obtain ⟨_, q2, q3⟩ := World.cells?_some c1
          have q4 := q3 0 hz
          rw [List.getElem?_eq_getElem (by omega)] at q4
          simpa [Addr.add] using World.cell?_spot q4
        subst hspot
        refine ⟨B, o, cap, ((held0 W B).drop o).take (len * z), rfl, hl, ?_, fun j x hj => ?_⟩
        · have key : ∀ k, k ≤ len → VRs (fzm (held0 W)) (((List.range k).map f).flatMap en) (((held0 W B).drop o).take (k * z)) := by
            intro k
            induction k with
            | zero => intro _; simp [VRs]
            | succ k ih =>
              intro hk
              have h1 := ih (by omega)
              obtain ⟨cs, c1, c2, _⟩ := hf k (by omega)
              obtain ⟨_, q2, q3⟩ := World.cells?_some c1
              have e : ((held0 W B).drop o).take ((k + 1) * z) = ((held0 W B).drop o).take (k * z) ++ cs := by
                rw [Nat.succ_mul, List.take_add]
                congr 1
                apply List.ext_getElem?
                intro r
                rw [List.drop_drop, List.getElem?_take]
                by_cases hr : r < z
                · rw [if_pos hr, List.getElem?_drop]
                  have q4 := q3 r hr
                  rw [List.getElem?_eq_getElem (show r < cs.length by omega)] at q4 ⊢
                  rw [add_plain, add_plain] at q4
                  have := held0_at.2 q4
                  rw [← this]
                · rw [if_neg hr, List.getElem?_eq_none (by omega)]
              rw [List.range_succ, List.map_append, List.flatMap_append, e]
              refine h1.append ?_
              simpa using c2
          exact key len (Nat.le_refl _)
        · rw [List.getElem?_take] at hj
          split at hj
          · rw [List.getElem?_drop] at hj
            exact hj
          · cases hj
    · have hi' : i < len := by omega
      obtain ⟨cs, _, _, q⟩ := hf i hi'
      refine ⟨D i, by simp [hi'], ?_⟩
      rw [List.getD_eq_getElem?_getD]
      simpa [hi'] using q
end Go.Px
end
/- PxVo -/
section
set_option linter.unusedVariables false
namespace Go.Px
open Go.Deep Go.ChangeShapes Go.WideShapes
theorem KOkW.calls {c : Ctx} (k : CtxOk c) {f : FuncId} {fn : Func} (hf : c.P.funcs[f]? = some fn) (hb : fn.body.isSome = true) {args : List AV} {v : AV} {W : World} (hk : KOkW c W f args v) {A : List Value} (hA : VRs (fzm (held0 W)) args A) : Calls c.P f A.toArray W fun e W' => ∃ z, e = .returned z ∧ ExtW W W' ∧ ∃ ρ, VR ρ v z := by
  obtain ⟨nx, w1, q1, q2⟩ := hk (held0 W) W A ⟨Same.refl W, fun _ _ => rfl⟩ (held0_fz W) hA
  obtain ⟨bd, hbd⟩ := Option.isSome_iff_exists.1 hb
  have hnm : fn.name ≠ "runtime.NumGoroutine" := by simpa using k.names f fn hf
  have hcall : (callFunc f A.toArray).run c.P W = .ok (.enter f A.toArray) W := by simp [callFunc, hf, hnm, hbd]
  rw [hcall] at q1
  cases q1
  have q3 : CallsIn Fence.wide 0 c.P f A.toArray W (EndR _) := q2
  refine (callsIn_wide.1 q3).mono fun e w' r => ?_
  cases e with
  | returned z =>
    obtain ⟨g, F', _, _, _, hv⟩ := r
    exact ⟨z, rfl, g, fzm F', hv⟩
  | panicked ch => exact r.elim
  | outgrown => exact r.elim
end Go.Px
end
/- FvRow -/
section
namespace Go.Proofs.YthhgglnhjllboaaGreatDoor.ruleVars
open Go.ChangeShapes Go.WideShapes Go.ChangeAt Go.RowKit
set_option linter.unusedVariables false
set_option maxRecDepth 100000

theorem own : ownKnob Tryz.prog.godebug = none := by kernel_rfl
theorem laid : laidOutB Tryz.prog = true := by kernel_rfl
theorem kids : Kids Tryz.prog (· < Tryz.prog.types.size) := kids_rows laid (by kernel_rfl)
theorem full : ∀ t e, t < Tryz.prog.types.size → Tryz.prog.underlying t = some (.slice e) → 0 < Tryz.prog.cellsOf e := slices_full_of Tryz.prog (by kernel_rfl)
theorem c2 : Tryz.prog.cellsOf 2 = 1 := by kernel_rfl
theorem c3 : Tryz.prog.cellsOf 3 = 1 := by kernel_rfl
theorem c9 : Tryz.prog.cellsOf 9 = 1 := by kernel_rfl
theorem c28 : Tryz.prog.cellsOf 28 = 1 := by kernel_rfl
theorem c45 : Tryz.prog.cellsOf 45 = 3 := by kernel_rfl
theorem c22 : Tryz.prog.cellsOf 22 = 1 := by kernel_rfl
theorem c30 : Tryz.prog.cellsOf 30 = 5 := by kernel_rfl
theorem c47 : Tryz.prog.cellsOf 47 = 4 := by kernel_rfl
section
variable {H : Type} {enc : TypeId × Value → H} {W : World}
theorem sum_le {α : Type} [Inhabited α] {f : α → Nat} : ∀ {l : List α} {els : List (DataW H)}, els.length = l.length → (∀ i, i < l.length → ∃ d, els[i]? = some d ∧ f (l.getD i default) ≤ Rows.uptoBulk d) → (l.map f).sum ≤ Rows.uptoBulkAll els
  | [], _, _, _ => by simp
  | a :: l, [], h, _ => by simp at h
  | a :: l, d :: els, h, H => by
    obtain ⟨d0, e0, q0⟩ := H 0 (by simp)
    simp only [List.getElem?_cons_zero, Option.some.injEq] at e0
    subst e0
    have := sum_le (l := l) (els := els) (by simpa using h) (fun i hi => by
      obtain ⟨d, e, q⟩ := H (i + 1) (by simpa using hi)
      exact ⟨d, by simpa using e, by simpa using q⟩)
    simp only [List.map_cons, List.sum_cons, Rows.uptoBulkAll]
    have q0 : f a ≤ _ := q0
    omega
theorem cntL_sum : ∀ l : List Px.Fv.Cl, Px.Fv.cntL l = (l.map Px.Fv.Cl.cnt).sum
  | [] => rfl
  | c :: r => by simp only [Px.Fv.cntL, List.map_cons, List.sum_cons, cntL_sum r]
theorem el45 (n : Nat) (cs : List Value) (y : DataW H × List MemPlace) (h : DataW.trod enc Tryz.prog W 0 (fun _ => true) true n 45 cs = some y) : ∃ x : Px.Fv.Va, Px.VRs (Px.fzm (Px.held0 W)) (Px.Fv.encVa x) cs := by
  obtain ⟨xs, k, rfl, rfl, hlen, hxl, hf⟩ := DataW.trod_struct Tryz.underlying45 h
  rw [c45] at hlen
  match cs, hlen with
  | [p0, p1, p2], _ =>
    match xs, hxl with
    | [x0, x1, x2], _ =>
      have g0 : DataW.trod enc Tryz.prog W 0 (fun _ => true) true k 3 [p0] = some x0 := by have := hf 0 _ rfl; simpa [c3] using this
      have g1 : DataW.trod enc Tryz.prog W 0 (fun _ => true) true k 2 [p1] = some x1 := by have := hf 1 _ rfl; simpa [c2] using this
      have g2 : DataW.trod enc Tryz.prog W 0 (fun _ => true) true k 9 [p2] = some x2 := by have := hf 2 _ rfl; simpa [c9] using this
      obtain ⟨vk, hk, _, _⟩ := DataW.trod_int Tryz.underlying3 g0
      obtain ⟨vn, hn, _, _⟩ := DataW.trod_int Tryz.underlying2 g1
      obtain ⟨vs, hs, hz2, _⟩ := DataW.trod_string Tryz.underlying9 g2
      simp only [List.cons.injEq, and_true] at hk hn hs
      subst hk; subst hn; subst hs
      refine ⟨⟨vk, vn, vs.data.toList⟩, ?_⟩
      have h1 := Px.read_str (Px.fzm (Px.held0 W)) vs
      simp only [Px.Fv.encVa, Px.VRs, Px.VR]
      exact ⟨_, _, rfl, ⟨_, _, rfl, ⟨_, _, h1, rfl, rfl⟩, rfl⟩, rfl⟩
theorem el47 (n : Nat) (cs : List Value) (y : DataW H × List MemPlace) (_ : True) (h : DataW.trod enc Tryz.prog W 0 (fun _ => true) true n 47 cs = some y) : ∃ x : Px.Fv.Ag, Px.VRs (Px.fzm (Px.held0 W)) (Px.Fv.encAg x) cs ∧ True := by
  obtain ⟨xs, k, rfl, rfl, hlen, hxl, hf⟩ := DataW.trod_struct Tryz.underlying47 h
  rw [c47] at hlen
  match cs, hlen with
  | [p0, p1, p2, p3], _ =>
    match xs, hxl with
    | [x0, x1], _ =>
      have g0 : DataW.trod enc Tryz.prog W 0 (fun _ => true) true k 9 [p0] = some x0 := by have := hf 0 _ rfl; simpa [c9] using this
      have g1 : DataW.trod enc Tryz.prog W 0 (fun _ => true) true k 45 [p1, p2, p3] = some x1 := by have := hf 1 _ rfl; simpa [c45] using this
      obtain ⟨vs, hs, hz2, _⟩ := DataW.trod_string Tryz.underlying9 g0
      obtain ⟨v, hv⟩ := el45 k _ _ g1
      simp only [List.cons.injEq, and_true] at hs
      subst hs
      refine ⟨⟨vs.data.toList, v⟩, ?_, trivial⟩
      have h1 := Px.read_str (Px.fzm (Px.held0 W)) vs
      simp only [Px.Fv.encVa, Px.VRs, Px.VR] at hv
      simp only [Px.Fv.encAg, Px.VRs, Px.VR]
      exact ⟨_, _, h1, hv, rfl⟩
/-- a slice's length is at most its bulk -/
theorem len_bulk {α : Type} {l : List α} {y : DataW H} {R : List (DataW H) → Prop} (hq : (l = [] ∧ y = .nil) ∨ ∃ els sp, y = .slice els sp ∧ els.length = l.length ∧ R els) : l.length ≤ Rows.uptoBulk y := by
  rcases hq with ⟨rfl, _⟩ | ⟨els, sp, h1, h2, _⟩
  · exact Nat.zero_le _
  · have := bulks.slice_le els sp
    rw [h1]; omega
theorem cls_bulk {l : List Px.Fv.Cl} {y : DataW H} (hq : (l = [] ∧ y = .nil) ∨ ∃ els sp, y = .slice els sp ∧ els.length = l.length ∧ ∀ i, i < l.length → ∃ d, els[i]? = some d ∧ Px.Fv.Cl.cnt (l.getD i default) ≤ Rows.uptoBulk d) : Px.Fv.cntL l ≤ Rows.uptoBulk y := by
  rcases hq with ⟨rfl, _⟩ | ⟨els, sp, h1, h2, h3⟩
  · exact Nat.zero_le _
  · have h4 := bulks.slice_elems els sp
    have h5 := sum_le (f := Px.Fv.Cl.cnt) h2 h3
    rw [cntL_sum, h1]; omega
/-- a clause that came in -/
theorem el30 : ∀ (N n : Nat) (cs : List Value) (y : DataW H × List MemPlace), Rows.uptoBulk y.1 < N → DataW.trod enc Tryz.prog W 0 (fun _ => true) true n 30 cs = some y → ∃ x : Px.Fv.Cl, Px.VRs (Px.fzm (Px.held0 W)) (Px.Fv.encF x) cs ∧ x.cnt ≤ Rows.uptoBulk y.1 := by
  intro N
  induction N with
  | zero => intro n cs y hN; omega
  | succ N IH =>
  intro n cs y hN h
  obtain ⟨xs, k, rfl, rfl, hlen, hxl, hf⟩ := DataW.trod_struct Tryz.underlying30 h
  rw [c30] at hlen
  match cs, hlen with
  | [p0, p1, p2, p3, p4], _ =>
    match xs, hxl with
    | [x0, x1, x2, x3, x4], _ =>
      have g0 : DataW.trod enc Tryz.prog W 0 (fun _ => true) true k 3 [p0] = some x0 := by have := hf 0 _ rfl; simpa [c3] using this
      have g1 : DataW.trod enc Tryz.prog W 0 (fun _ => true) true k 9 [p1] = some x1 := by have := hf 1 _ rfl; simpa [c9] using this
      have g2 : DataW.trod enc Tryz.prog W 0 (fun _ => true) true k 28 [p2] = some x2 := by have := hf 2 _ rfl; simpa [c28] using this
      have g3 : DataW.trod enc Tryz.prog W 0 (fun _ => true) true k 9 [p3] = some x3 := by have := hf 3 _ rfl; simpa [c9] using this
      have g4 : DataW.trod enc Tryz.prog W 0 (fun _ => true) true k 22 [p4] = some x4 := by have := hf 4 _ rfl; simpa [c22] using this
      simp only [List.map_cons, List.map_nil, Rows.uptoBulk, Rows.uptoBulkAll] at hN
      obtain ⟨vk, hk, _, _⟩ := DataW.trod_int Tryz.underlying3 g0
      obtain ⟨vn, hn, _, _⟩ := DataW.trod_string Tryz.underlying9 g1
      obtain ⟨vo, ho, _, _⟩ := DataW.trod_string Tryz.underlying9 g3
      obtain ⟨a, ha, qa⟩ := Px.read_sliceB (en := Px.Fv.encAg) (z := 4) (by omega) (fun _ => rfl) Tryz.underlying28 c47 (Q := fun _ _ => True) (B := fun _ => True) el47 (fun _ _ _ _ _ => trivial) g2
      obtain ⟨l, hl, ql⟩ := Px.read_sliceB (en := Px.Fv.encF) (z := 5) (by omega) (fun _ => rfl) Tryz.underlying22 c30 (Q := fun x d => x.cnt ≤ Rows.uptoBulk d) (B := fun d => Rows.uptoBulk d < N) (fun n cs y hB h => IH n cs y hB h) (fun els sp e d hd => by
        have h1 := bulks.part_le hd
        have h2 := bulks.slice_elems els sp
        rw [← e] at h2
        omega) g4
      have la := len_bulk qa
      have ll := cls_bulk ql
      simp only [List.cons.injEq, and_true] at hk hn ho
      subst hk; subst hn; subst ho
      refine ⟨.mk vk vn.data.toList a vo.data.toList l, ?_, ?_⟩
      · have h1 := Px.read_str (Px.fzm (Px.held0 W)) vn
        have h3 := Px.read_str (Px.fzm (Px.held0 W)) vo
        rw [← Px.Fv.clsA_eq] at hl
        simp only [Px.Fv.encF, Px.VRs, Px.Fv.Cl.k, Px.Fv.Cl.n, Px.Fv.Cl.a, Px.Fv.Cl.o, Px.Fv.Cl.kids]
        exact ⟨_, _, by simp only [Px.VR], ⟨_, _, h1, ⟨_, _, ha, ⟨_, _, h3, ⟨_, _, hl, rfl, rfl⟩, rfl⟩, rfl⟩, rfl⟩, rfl⟩
      · simp only [Px.Fv.Cl.cnt, List.map_cons, List.map_nil, Rows.uptoBulk, Rows.uptoBulkAll]
        have := bulks.one_le x0.1
        omega
/-- clauses that came in -/
theorem read22 {n : Nat} {v : Value} {y : DataW H × List MemPlace} (h : DataW.trod enc Tryz.prog W 0 (fun _ => true) true n 22 [v] = some y) (hb : Rows.uptoBulk y.1 ≤ 1048576) : ∃ l : List Px.Fv.Cl, Px.VR (Px.fzm (Px.held0 W)) (Px.Fv.clsA l) v ∧ Px.Fv.cntL l ≤ 2000000 := by
  obtain ⟨l, hl, ql⟩ := Px.read_sliceB (en := Px.Fv.encF) (z := 5) (by omega) (fun _ => rfl) Tryz.underlying22 c30 (Q := fun x d => x.cnt ≤ Rows.uptoBulk d) (B := fun d => Rows.uptoBulk d < 2000000) (fun n cs y hB h => el30 2000000 n cs y hB h) (fun els sp e d hd => by
    have h1 := bulks.part_le hd
    have h2 := bulks.slice_elems els sp
    rw [← e] at h2
    omega) h
  have ll := cls_bulk ql
  rw [← Px.Fv.clsA_eq] at hl
  exact ⟨l, hl, by omega⟩
end

theorem star : "*" ++ "errors.errorString" = "*errors.errorString" := by decide
theorem onlyErr (u : TypeId) (h : Tryz.prog.typeName? 3 u = some "*errors.errorString") : u = 227 :=
  typeName_ptr_named (nm := "errors.errorString") (by rw [star]; kernel_rfl) (by kernel_rfl) (by decide) u (by rw [star]; exact h)
/-- WHAT THE ROW GIVES: the two variables that the run reads. -/
theorem glob {W : World} (hsh : W.ShapedOpen Tryz.prog) (hL0 : laidMetH Tryz.prog Rows.ruleVarsUptoRow.laid W) : ∃ m a, W.cell? ⟨0, 0, none⟩ = some (.int .i64 m) ∧ W.cell? ⟨1, 0, none⟩ = some (.iface 227 (.pointer (some a))) := by
  have hL : laidMet Tryz.prog Rows.ruleVarsUptoRow.laid W := hL0
  obtain ⟨m, hm⟩ := cell_of_shapedOpen_int (g := 0) (k := .i64) hsh (of_decide_eq_true (by kernel_rfl)) (t := 3) (zero := #[.int .i64 0]) (by kernel_rfl) rfl (by kernel_rfl) (by kernel_rfl) (by kernel_rfl)
  obtain ⟨a, s, hv, _⟩ := laid_sentinel (P := Tryz.prog) (W := W) (g := 1) (ti := 102) (tp := 227) (te := 229) (ts := 9) (((((hL).tail).tail).tail).tail).tail (by kernel_rfl) (by kernel_rfl) Tryz.underlying102 onlyErr Tryz.underlying227 Tryz.underlying229 rfl rfl Tryz.underlying9 (by kernel_rfl) (by kernel_rfl)
  have hc : W.cell? ⟨1, 0, none⟩ = some (.iface 227 (.pointer (some a))) := by
    have := World.var?_cell (show Tryz.prog.globalNamed "strconv.ErrSyntax" = some 1 by kernel_rfl) hv 0
    simpa using this
  exact ⟨m, a, hm, hc⟩

theorem contract (H : Type) (enc : TypeId × Value → H) (W : World) (base : Nat) (args : Array Value) (ds gs : List (DataW H)) (before : List MemPlace)
    (hval : ∀ (j : Nat) t v, Tryz.f3.params[j]? = some t → args[j]? = some v → Value.okWide Tryz.prog W .any base t v)
    (hW : DataW.Whole enc Tryz.prog Tryz.f3.params.toList Rows.ruleVarsSpec.vars false W args.toList ds gs before) (hk : Rows.uptoSmall H (ds ++ gs) = true) (hL : laidMetH Tryz.prog Rows.ruleVarsUptoRow.laid W) (hsh : W.ShapedOpen Tryz.prog) :
    Calls Tryz.prog 3 args W fun e W' => ∃ v, e = .returned v ∧ Rows.ruleVarsSpec.post enc Tryz.prog Tryz.f3 false true false false W args v W' := by
  have hW' := hW
  have hold := hW.lt
  obtain ⟨p, q, hA0, hV, rfl, hfz, hnd⟩ := hW
  have hA : DataW.TrodAll enc Tryz.prog W 0 (fun _ => true) true Tryz.f3.params.toList args.toList ds p := hA0
  have hAk := hA
  rw [Tryz.params3] at hA hval
  obtain ⟨v0, vs0, d0, ds0, p0, q0, hargs, rfl, rfl, h0, r0⟩ := trodAll_cons hA
  obtain ⟨v1, vs1, d1, ds1, p1, q1, rfl, rfl, rfl, h1, r1⟩ := trodAll_cons r0
  obtain ⟨rfl, rfl, rfl⟩ := trodAll_nil r1
  obtain rfl : args = #[v0, v1] := by cases args; simp_all
  obtain ⟨rfl, rfl⟩ := trodVars_none hV
  have hbulk := bulks.bound hk
  simp only [List.append_nil, Rows.uptoBulkAll] at hbulk
  obtain ⟨n0, h0⟩ := h0
  obtain ⟨n1, h1⟩ := h1
  obtain ⟨a0, l0, k0, rfl⟩ := okWide_slice Tryz.underlying22 (hval 0 22 v0 rfl rfl)
  obtain ⟨a1, l1, k1, rfl⟩ := okWide_slice Tryz.underlying22 (hval 1 22 v1 rfl rfl)
  obtain ⟨a, ha, hca⟩ := read22 (n := n0) (y := (d0, p0)) h0 (by show Rows.uptoBulk d0 ≤ _; omega)
  obtain ⟨b, hb, hcb⟩ := read22 (n := n1) (y := (d1, p1)) h1 (by show Rows.uptoBulk d1 ≤ _; omega)
  have hA2 : Px.VRs (Px.fzm (Px.held0 W)) [Px.Fv.clsA a, Px.Fv.clsA b] [.slice a0 l0 k0, .slice a1 l1 k1] := by
    simp only [Px.VRs]
    exact ⟨_, _, ha, ⟨_, _, hb, rfl, rfl⟩, rfl⟩
  obtain ⟨m, ae, g0, g1⟩ := glob hsh hL
  have kk : Px.KOkW Px.Fv.cF W 3 [Px.Fv.clsA a, Px.Fv.clsA b] (.bool true) := Px.Fv.k3 (Px.Fv.kAl g0 g1) a b hca hcb
  refine (show Calls Tryz.prog 3 #[.slice a0 l0 k0, .slice a1 l1 k1] W _ from Px.KOkW.calls Px.Fv.cF_ok Tryz.func3 rfl kk hA2).mono fun e W' ⟨z, he, hx, ρ, hz⟩ => ?_
  simp only [Px.VR] at hz
  subst hz; subst he
  exact ⟨_, rfl, _, _, _, [], _, [], hW', trodAll_mk1 (shut_bool Tryz.underlying4 _),
    DataW.TrodAll.respare kids full (by rw [Tryz.params3]; exact of_decide_eq_true (by kernel_rfl)) (Px.trodAll_carry hAk fun x hq => Px.ext_same hx (hold x (List.mem_append_left _ hq))) (fun x hq => by simpa using hold x (List.mem_append_left _ hq)),
    rfl, Px.ext_kept hx _, fun h => by cases h⟩

/-- A WORLD FOR THE WITNESS: what the program's own initialisers lay, and Go's own table. -/
noncomputable def laidWorld (os : Os) : World :=
  { World.doorLaid Tryz.prog 72 os with heap := (World.doorLaid Tryz.prog 72 os).heap.modify 4 fun
      | .cells _ t frozen => .cells (Pinned.utf8FirstZ.map fun n => Value.int .u8 (Int.ofNat n)).toArray t frozen
      | o => o }
theorem laid_met (os : Os) : laidMetH Tryz.prog Rows.ruleVarsUptoRow.laid ((laidWorld os).forCall (fun _ _ => 0) ⟨#[], #[.slice none 0 0, .slice none 0 0], []⟩).memory :=
  laidMetH_of_parts3 (fuel := 8) (laidMet_of_run' 8 (by kernel_rfl) (by kernel_rfl)) (by kernel_rfl) (by kernel_rfl)
theorem reads (os : Os) {H : Type} (enc : TypeId × Value → H) : ∃ places, DataW.whole enc Tryz.prog ((laidWorld os).forCall (fun _ _ => 0) ⟨#[], #[.slice none 0 0, .slice none 0 0], []⟩).memory Tryz.f3.params.toList Rows.ruleVarsSpec.vars false (#[.slice none 0 0, .slice none 0 0] : Array Value).toList 8 = some ([.nil, .nil], [], places) :=
  ⟨[], by kernel_rfl⟩

set_option maxRecDepth 100000 in
theorem lifted (os : Os) (started : os.Started) (H : Type) (enc : TypeId × Value → H) (F : Stop.Interp) :
    ReturnsInHanded {} Tryz.checked os 3 .any ((Rows.OpenSpec.upto Rows.ruleVarsSpec).preRow enc Tryz.prog Tryz.f3 Rows.ruleVarsUptoRow.domain false Rows.ruleVarsUptoRow.laid) (((Rows.OpenSpec.upto Rows.ruleVarsSpec).at F).post enc Tryz.prog Tryz.f3 false true false false) := by
  obtain ⟨places, hx⟩ := reads os enc
  refine returnsInHanded_of_row (C := Tryz.checked) (s := Rows.OpenSpec.upto Rows.ruleVarsSpec) own started (by kernel_rfl) Tryz.func3
    (witness_row_atRef (enc := enc) (C := Tryz.checked) false (laidWorld os) #[.slice none 0 0, .slice none 0 0] rfl (by kernel_rfl) (by kernel_rfl) (by kernel_rfl)
      (OpenSpec.preRow_of_cond 8 hx (by kernel_rfl) (fun k hk => by cases hk; kernel_rfl) (by kernel_rfl) (laid_met os))) ?_
  intro W base args ds gs before hval hW _ hcond _ hL hsh _
  exact contract H enc W base args ds gs before hval hW (hcond _ rfl) hL hsh

theorem said : Rows.RuleVarsUptoSaid :=
  OpenClaim.holds_of_cond 3 Tryz.f3 rfl rfl rfl rfl rfl rfl rfl ⟨rfl, rfl, rfl, rfl, rfl⟩ rfl rfl rfl rfl rfl (by kernel_rfl) Tryz.func3 (by kernel_rfl)
    (of_decide_eq_true (by kernel_rfl)) (by unfold Func.isWrapper; first | (rw [if_pos (by decide +kernel)]; kernel_rfl) | (rw [if_neg (by decide +kernel)]; exact ⟨rfl, rfl⟩))
    (fun os started H enc _ F => by rw [OpenClaim.pre_eq_preRow]; exact lifted os started H enc F)
end Go.Proofs.YthhgglnhjllboaaGreatDoor.ruleVars
end
