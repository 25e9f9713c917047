/- Parts of the proof in YthhgglnhjllboaaGreatDoorFin: PxTk, PxTl, PxTm, PxTn, PxTo, PxTp, PxTq, PxTr, PxTs, PxTt, PxTu, PxTv, FvA, PxTw, FvC, FvD, FvE, PxTx, PxTy, PxTz, PxVa, PxVb, PxVc, PxVd, FvP, FvO, FvB, PxVe, FvQ, FvS, FvL, PxVf, FvR, FvT, PxVg, PxVh, PxVi, PxVj, PxVm. -/
import Derived.Test.YthhgglnhjllboaaGreatDoorK3
import Derived.Lib.Bytealg
import Derived.Laws.Externs
import Derived.Deep.Slices
import Derived.ReadAgain
import Derived.Test.YthhgglnhjllboaaGreatDoorChecked
import Derived.Sort.Grow
import Derived.Sort.EncStr
import Derived.Lib.SlicesCompact
import Derived.Shelf.Small.Bits
import Derived.Shelf.Small.Strs
import Derived.Shelf.Small.Wraps
import Derived.Shelf.Strconv.Itoa0
import Derived.Shelf.Strings.Search1
import Derived.Shelf.Sort.Plain
import Derived.Shelf.Slices.Turned
import Derived.Ground.Names2Prog
import Derived.Shelf.Slices.Clone
import Derived.Shelf.Slices.CompactS
import Derived.Shelf.Slices.SearchI
import Derived.Shelf.Slices.Cells
import Derived.Shelf.Slices.In.SortNone
import Derived.Ground.SlgnProg
import Derived.Shelf.SlicesG.SearchI
import Derived.Shelf.SlicesE.Clone
import Derived.Test.YthhgglnhjllboaaGreatDoorProg
/- PxTk -/
section
set_option linter.unusedVariables false
set_option linter.unusedSimpArgs false
namespace Go.Px

/-- a parameter's slots, set -/
def setL : List Tmp → List AV → List (Nat × AV) → List (Nat × AV)
  | p :: ps, a :: avs, L => setL ps avs ((p, a) :: L)
  | _, _, L => L
theorem setPs_has : ∀ {ps : List Tmp} {avs : List AV} {e e' : T AV} {sz : Nat} {L : List (Nat × AV)}, setPs e ps avs sz = some e' → Has e L → Has e' (setL ps avs L)
  | [], [], e, e', sz, L, q, h => by
    have q' : some e = some e' := q
    cases q'; exact h
  | [], a :: avs, e, e', sz, L, q, h => by
    have q' : (none : Option (T AV)) = some e' := q
    cases q'
  | p :: ps, [], e, e', sz, L, q, h => by
    have q' : (none : Option (T AV)) = some e' := q
    cases q'
  | p :: ps, a :: avs, e, e', sz, L, q, h => by
    have q' : (match Nat.ble (p + 1) sz with | true => setPs (e.set und p a) ps avs sz | false => none) = some e' := q
    split at q'
    · exact setPs_has (L := (p, a) :: L) q' (h.set p a)
    · cases q'
theorem setPs_some : ∀ {ps : List Tmp} {avs : List AV} {sz : Nat} (e : T AV), Nat.beq ps.length avs.length = true → (ps.all fun p => Nat.ble (p + 1) sz) = true → ∃ e', setPs e ps avs sz = some e'
  | [], [], sz, e, _, _ => ⟨e, rfl⟩
  | [], a :: avs, sz, e, h, _ => by cases h
  | p :: ps, [], sz, e, h, _ => by cases h
  | p :: ps, a :: avs, sz, e, h, k => by
    simp only [List.all_cons, Bool.and_eq_true] at k
    obtain ⟨e', q⟩ := setPs_some (ps := ps) (avs := avs) (e.set und p a) h k.2
    refine ⟨e', ?_⟩
    show (match Nat.ble (p + 1) sz with | true => setPs (e.set und p a) ps avs sz | false => none) = some e'
    rw [k.1]; exact q

section
variable {X : Cx} {tb : List (Nat × TE)} (E : Env X.c tb) {sz : Nat} {all : Array Oper} {o : Oper} {rest : List Oper} {k : List It} {L : List (Nat × AV)} {h : Heap} {m : List Nat} {Q : Post}
include E


/-- behind a round -/
def AfterB (X : Cx) (sz : Nat) (rd : Option Nat) (all : Array Oper) (rest : List Oper) (k : List It) (L : List (Nat × AV)) (d l : Nat) (m : List Nat) (Q : Post) : Post := fun x s =>
  ∃ r, s.h.get l = .loop r ∧ (match x with
    | .normal => Ops X sz rd all rest k ((d, .bool true) :: L) (s.h.put l (.loop { r with state := .ready, pending := none })) m Q
    | x => Ops X sz rd all rest k ((d, .bool false) :: L) (s.h.put l (.loop { r with state := .done, pending := some x })) m Q)
/-- behind the parameters' assigning -/
def AfterA (X : Cx) (sz l : Nat) (body : Code) (Q : Post) : Post := fun x s => x = .normal ∧ ∃ r, s.h.get l = .loop r ∧ r.state = .ready ∧ RunK X sz (some l) [.code body] Q .normal ⟨s.e, s.h.put l (.loop { r with state := .busy }), s.m⟩
omit E in
theorem Go.body {X' : Cx} {sz' l : Nat} {L' : List (Nat × AV)} {body : Code} {r : ALoop} (hl : h.get l = .loop r) (hs : r.state = .ready) (n : Go X' sz' (some l) [.code body] L' (h.put l (.loop { r with state := .busy })) m Q) : Go X' sz' (some l) [] L' h m (AfterA X' sz' l body Q) :=
  Go.nil fun e he => ⟨rfl, r, hl, hs, n.run e he⟩
omit E in
theorem Go.roundN {X' X : Cx} {sz' sz l d : Nat} {rd : Option Nat} {L' : List (Nat × AV)} {m' : List Nat} {r : ALoop} (hl : h.get l = .loop r) (n : Ops X sz rd all rest k ((d, .bool true) :: L) (h.put l (.loop { r with state := .ready, pending := none })) m Q) : Go X' sz' (some l) [] L' h m' (AfterB X sz rd all rest k L d l m Q) :=
  Go.nil fun e he => ⟨r, hl, n⟩
omit E in
theorem Go.roundX {X' X : Cx} {sz' sz l d id : Nat} {rd : Option Nat} {L' : List (Nat × AV)} {m' : List Nat} {r : ALoop} {k' : List It} (hx : xit id k' = none) (hl : h.get l = .loop r) (n : Ops X sz rd all rest k ((d, .bool false) :: L) (h.put l (.loop { r with state := .done, pending := some (.exit id) })) m Q) : Go X' sz' (some l) (.code (.exit id) :: k') L' h m' (AfterB X sz rd all rest k L d l m Q) := ⟨fun e he => Tri.exit (by
  have key : ∀ {k' : List It}, xit id k' = none → RunK X' sz' (some l) k' (AfterB X sz rd all rest k L d l m Q) (.exit id) ⟨e, h, m'⟩ := by
    intro k'
    induction k' with
    | nil => intro _; exact ⟨r, hl, n⟩
    | cons x k' ih =>
      intro q
      cases x with
      | code c => exact ih q
      | lp c => exact ih q
      | blk i =>
        unfold xit at q
        rw [show RunK X' sz' (some l) (.blk i :: k') (AfterB X sz rd all rest k L d l m Q) (.exit id) ⟨e, h, m'⟩ = (match Nat.beq id i with | true => RunK X' sz' (some l) k' (AfterB X sz rd all rest k L d l m Q) .normal ⟨e, h, m'⟩ | false => RunK X' sz' (some l) k' (AfterB X sz rd all rest k L d l m Q) (.exit id) ⟨e, h, m'⟩) from rfl]
        cases hi : Nat.beq id i with
        | true => rw [hi] at q; cases q
        | false => rw [hi] at q; exact ih q
  exact key hx)⟩
omit E in
theorem Go.roundR {X' X : Cx} {sz' sz l d : Nat} {rd : Option Nat} {L' : List (Nat × AV)} {m' : List Nat} {r : ALoop} {k' : List It} (hl : h.get l = .loop r) (n : Ops X sz rd all rest k ((d, .bool false) :: L) (h.put l (.loop { r with state := .done, pending := some .ret })) m Q) : Go X' sz' (some l) (.code .ret :: k') L' h m' (AfterB X sz rd all rest k L d l m Q) :=
  Go.ret fun e he => ⟨r, hl, n⟩

omit E in
/-- A ROUND: the iterator hands on what it has. -/
theorem Ops.round {rd : Option Nat} {d l : Nat} {cl : Call} {f : Operand} {vs lst : List AV} {r : ALoop} (hd : o.dst = some d) (hs : Nat.ble (d + 1) sz = true) (hw : Want all L o true) (ho : o.op = .call cl) (hc : cl.callee = .value f) (hfv : evL L f = some (.fn (.yield l) [] [])) (hv : evsL L cl.args.toList = some vs)
    (hl : h.get l = .loop r) (hrs : r.state = .ready) (hre : r.e = T.put und lst .leaf 0) (hps : Nat.beq r.params.length vs.length = true) (hps2 : (r.params.all fun p => Nat.ble (p + 1) r.sz) = true) (hon : onceB L = true)
    (H : ∀ gx, Go ⟨X.c, X.w0, X.F0, X.opn, X.g, none, [], (held L m rd ++ [AV.ptr l 0]) ++ X.gv, gx ++ X.gx⟩ r.sz (some l) [.code r.assign] (setL r.params vs (argsL lst 0)) h [] (AfterA ⟨X.c, X.w0, X.F0, X.opn, X.g, none, [], (held L m rd ++ [AV.ptr l 0]) ++ X.gv, gx ++ X.gx⟩ r.sz l r.body (AfterB X sz rd all rest k L d l m Q))) : Ops X sz rd all (o :: rest) k L h m Q := ⟨fun e0 he => by
  refine TriOps.cons (hw e0 he) (K := fun s' => RunK X sz rd k Q .normal s') ?_
  intro ro ρ w a next Q' h1 p h3 h4 h5
  refine ⟨fun _ _ => trivial, ?_⟩
  rw [show (wideR ro).round = ro from rfl, Oper.semAt_eq ro a.eval o (by rw [ho]; intro d q; cases q)]
  have hfv' := ev_ok h3 f
  rw [he.ev hfv] at hfv'
  simp only [VR, VRs, FR] at hfv'
  obtain ⟨f', F, C, ⟨B, N, hB, rfl⟩, rfl, rfl, e4⟩ := hfv'
  have hargs := evs_ok h3 cl.args.toList
  rw [he.evs hv] at hargs
  obtain ⟨gx0, b1, b2⟩ := held_in h1 h3 he hon h4
  have b3 : VRs ρ (held L m rd ++ [AV.ptr l 0]) (gx0 ++ [.pointer (some ⟨B, 0, none⟩)]) := b1.append (by simp only [VRs, VR]; exact ⟨_, _, ⟨B, N, hB, rfl⟩, rfl, rfl⟩)
  obtain ⟨fn0, tm, D, M, p1, p2, p3⟩ := ALoop.get p.hr hB hl
  obtain ⟨e, hpe⟩ := setPs_some (sz := r.sz) r.e hps hps2
  obtain ⟨hlen, her⟩ := setPs_ok hpe hargs p2
  have hhas : Has e (setL r.params vs (argsL lst 0)) := setPs_has hpe (by rw [hre]; exact argsL_has lst .leaf 0)
  have hy := run_yield (P := X.c.P) (args := (cl.args.toList.map a.eval).toArray) p1 (by simpa using hlen)
  have hrun : (execOp a.eval o).run X.c.P w = (Instr.yield B (cl.args.toList.map a.eval).toArray).run X.c.P w := by
    simp only [execOp, ho, resolve, hc, e4, Deferred.ofValue, Sem.run_bind, Sem.run_pure, Result.andThen_ok, invoke]
    congr 2
    apply Array.ext'; simp
  rw [hrun, hy]
  refine uponIn_of_next (R := fun z w' => next (a.put o.dst z) w') ?_ fun z w' r => r
  refine roundIn_of_wpIn trivial ?_
  have hz : (r.params.toArray.zip (cl.args.toList.map a.eval).toArray).foldl (fun tmps (p : Tmp × Value) => tmps.setIfInBounds p.1 p.2) tm = (r.params.zip (cl.args.toList.map a.eval)).foldl (fun tmps (p : Tmp × Value) => tmps.setIfInBounds p.1 p.2) tm := by
    simp
  have hA := (H (gx0 ++ [.pointer (some ⟨B, 0, none⟩)])).run e hhas
  have htA : Tri ⟨X.c, X.w0, X.F0, X.opn, X.g, none, [], (held L m rd ++ [AV.ptr l 0]) ++ X.gv, (gx0 ++ [.pointer (some ⟨B, 0, none⟩)]) ++ X.gx⟩ r.sz (some l) r.assign ⟨e, h, []⟩ (AfterA ⟨X.c, X.w0, X.F0, X.opn, X.g, none, [], (held L m rd ++ [AV.ptr l 0]) ++ X.gv, (gx0 ++ [.pointer (some ⟨B, 0, none⟩)]) ++ X.gx⟩ r.sz l r.body (AfterB X sz rd all rest k L d l m Q)) := hA
  refine htA (some B) ρ w _ _ ⟨B, N, hB, rfl⟩ (p.more b3) (by rw [hz]; exact her) ⟨[], rfl, rfl⟩ fun x s' a1 w1 ρ1 ⟨hx, r1, hg1, hst, hrunB⟩ g1 g2 g3 g4 => ?_
  subst hx
  obtain ⟨B1, N1, hB1, hB1'⟩ := g1
  cases hB1'
  obtain ⟨fn1, tm1, D1, M1, q1, q2, q3⟩ := ALoop.get g2.hr hB1 hg1
  have g5 := Good.putBlock g2.hr g2.wf hB1 (.loop r1) (.loop { r1 with state := .busy })
    (.loop { state := .busy, pending := pendOf r1.pending, fn := fn1, tmps := tm1, params := r1.params.toArray, assign := r1.assign, body := r1.body, defers := D1 }) hg1 rfl (by simp) rfl
    (by simp only [ABR]; exact ⟨fn1, tm1, D1, M1, World.putObj_heap_same (g2.hr.lt l _ N1 hB1), q2, q3⟩)
  have g6 := g2.good g5 (ArrKeep.put rfl)
  refine ⟨_, run_beginRound q1 hst, ?_⟩
  have htB : Tri ⟨X.c, X.w0, X.F0, X.opn, X.g, none, [], (held L m rd ++ [AV.ptr l 0]) ++ X.gv, (gx0 ++ [.pointer (some ⟨B, 0, none⟩)]) ++ X.gx⟩ r.sz (some l) r.body ⟨s'.e, s'.h.put l (.loop { r1 with state := .busy }), s'.m⟩ (AfterB X sz rd all rest k L d l m Q) := hrunB
  refine htB (some B) ρ1 _ a1 _ ⟨B, N1, hB1, rfl⟩ g6 g3 g4 fun x s2 a2 w2 ρ2 ⟨r2, hg2, hK⟩ k1 k2 k3 k4 => ?_
  obtain ⟨B2, N2, hB2, hB2'⟩ := k1
  cases hB2'
  obtain ⟨fn2, tm2, D2, M2, t1, t2, t3⟩ := ALoop.get k2.hr hB2 hg2
  have hlt := k2.hr.lt l _ N2 hB2
  have g7 := fun (st : LoopState) (pd : Option Ex) => Good.putBlock k2.hr k2.wf hB2 (.loop r2) (.loop { r2 with state := st, pending := pd })
    (.loop { state := st, pending := pendOf pd, fn := fn2, tmps := tm2, params := r2.params.toArray, assign := r2.assign, body := r2.body, defers := D2 }) hg2 rfl (by simp) rfl
    (by simp only [ABR]; exact ⟨fn2, tm2, D2, M2, World.putObj_heap_same hlt, t2, t3⟩)
  have fin := fun (st : LoopState) (pd : Option Ex) (b : Bool) (hops : Ops X sz rd all rest k ((d, .bool b) :: L) (s2.h.put l (.loop { r2 with state := st, pending := pd })) m Q) => show next (a.put o.dst (.bool b)) (w2.putObj B (.loop { state := st, pending := pendOf pd, fn := fn2, tmps := tm2, params := r2.params.toArray, assign := r2.assign, body := r2.body, defers := D2 })) from by
    have k5 := k2.good (g7 st pd) (ArrKeep.put rfl)
    obtain ⟨k6, k7⟩ := k5.less b3.length
    obtain ⟨v1, v2⟩ := VRs.split b1.length k7
    obtain ⟨u1, u2, u3⟩ := b2 ρ2 v1
    obtain ⟨e', he', er'⟩ := known_env (σ := ρ2) (L := L) (tm := a.tmps) (sz := sz) h3.1 u3
    exact h5 (.bool b) ⟨e', _, m⟩ (.bool b) _ ρ2 ⟨e'.set und d (.bool b), by rw [hd]; exact setD_some hs, hops.run _ (he'.set d _)⟩ u1 k6 er' u2 (by simp only [VR])
  cases x with
  | normal => exact ⟨_, _, run_endRound none t1, fin .ready none true hK⟩
  | exit id => exact ⟨_, _, run_endRound (some (.exit id)) t1, fin .done (some (.exit id)) false hK⟩
  | ret => exact ⟨_, _, run_endRound (some .ret) t1, fin .done (some .ret) false hK⟩⟩
end
end Go.Px
end
/- PxTl -/
section
set_option linter.unusedVariables false
set_option linter.unusedSimpArgs false
namespace Go.Px

theorem weak_nil (z : Nat) : ∀ ρ x, VR ρ .nilsl x → VR ρ (.rsl 0 z []) x := fun ρ x q => by
  simp only [VR] at q
  subst q
  simp [VR]

section
variable {X : Cx} {tb : List (Nat × TE)} (E : Env X.c tb) {sz : Nat} {rd : Option Nat} {all : Array Oper} {o : Oper} {rest : List Oper} {k : List It} {L : List (Nat × AV)} {h : Heap} {m : List Nat} {Q : Post}
include E

omit E in
theorem dats_flat {α : Type} {enc : α → List AV} (he : ∀ a, datsB (enc a) = true) : ∀ l : List α, datsB (l.flatMap enc) = true
  | [] => rfl
  | a :: l => by
    have happ : ∀ x y : List AV, datsB x = true → datsB y = true → datsB (x ++ y) = true := by
      intro x y hx hy
      induction x with
      | nil => exact hy
      | cons v x ih =>
        have hx' : (match datB v with | true => datsB x | false => false) = true := hx
        show (match datB v with | true => datsB (x ++ y) | false => false) = true
        split at hx'
        · exact ih hx'
        · cases hx'
    rw [List.flatMap_cons]
    exact happ _ _ (he a) (dats_flat he l)
/-- a text's bytes -/
def encU (c : UInt8) : List AV := [.int .u8 (c.toNat : Int)]
omit E in
theorem encU_map : ∀ b : List UInt8, ((b.map UInt8.toNat).map fun n => AV.int .u8 (.ofNat (n % 256))) = b.flatMap encU
  | [] => rfl
  | c :: b => by
    have h : c.toNat % 256 = c.toNat := Nat.mod_eq_of_lt c.toNat_lt
    rw [List.flatMap_cons, ← encU_map b]
    simp only [List.map_cons, encU, h]
    rfl
omit E in
theorem TOk.it {c : Ctx} {t : Nat} {e : TE} {kk : IntKind} (h : TOk c t e) (k : e.k = .int kk) : c.under t = some (.int kk) := by
  obtain ⟨d, h1, h2⟩ := h.kd
  rw [k] at h2
  cases d <;> simp only [tkOf] at h2 <;> first | (cases h2; done) | (cases h2; exact h1)
end

end Go.Px
end
/- PxTm -/
section
set_option linter.unusedVariables false
set_option linter.unusedSimpArgs false
namespace Go.Px

/-- the same memory -/
theorem PI.same {X : Cx} {ρ : Map} {h h' : Heap} {w : World} (p : PI X ρ h w) (hg : ∀ i, h'.get i = h.get i) (hn : h'.nxt = h.nxt) (ht : ∀ q, h'.tip q = h.tip q) : PI X ρ h' w := by
  have ho : ∀ j, h'.ok j ↔ h.ok j := fun j => Heap.ok_same (hg j) (fun _ q _ _ => by rw [ht q])
  refine ⟨⟨p.hr.lt, fun i B N e q => by rw [hg i]; exact p.hr.ok i B N e ((ho i).1 q), fun i j B N M hij e1 e2 k1 k2 => ?_, fun i r q => p.hr.gl i r (by rw [← hg i]; exact q), p.hr.fz, fun i B N e q => by rw [hg i]; exact p.hr.sep i B N e ((ho i).1 q), fun i t z n l q => p.hr.av i t z n l (by rw [← hg i]; exact q)⟩,
    ⟨fun i hi => by rw [hg i]; exact p.wf.fresh i (by omega), fun i r q a b => by rw [hn]; exact p.wf.root i r q (by rw [← hg i]; exact a) b, fun i r q t a b c => by rw [hg t]; exact p.wf.tip i r q t (by rw [← hg i]; exact a) b (by rw [← ht q]; exact c), fun q hq => by rw [ht q]; exact p.wf.tipr q (by omega)⟩,
    ⟨fun i hi => p.fr.1 i (by omega), fun i r q => by rw [hg i]; exact p.fr.2 i r q⟩, fun i hi n => p.vf i (by omega) n, fun i t z n l q => p.vu i t z n l (by rw [← hg i]; exact q), p.ext, p.mine, p.sub, p.old, p.keep, p.gh.go (fun t z n l q => ⟨_, _, _, by rw [← hg 0]; exact q⟩) (Same.refl w) (fun _ _ _ => rfl) (fun i B N e q => .inr ⟨i, N, e, (ho i).1 q⟩) (fun _ _ _ => rfl) (fun B N e => .inl ⟨N, e⟩) (fun _ _ => rfl) (fun _ _ _ e => e) (fun _ e => e)⟩
  obtain ⟨r, s, q, a, b, c⟩ := p.hr.inj i j B N M hij e1 e2 ((ho i).1 k1) ((ho j).1 k2)
  exact ⟨r, s, q, by rw [hg i]; exact a, by rw [hg j]; exact b, c⟩

section
variable {X : Cx} {tb : List (Nat × TE)} (E : Env X.c tb) {sz : Nat} {rd : Option Nat} {all : Array Oper} {o : Oper} {rest : List Oper} {k : List It} {L : List (Nat × AV)} {h : Heap} {m : List Nat} {Q : Post}
include E
/-- NOTHING APPENDED to an array of one's own -/
theorem Ops.append0 {d : Nat} {cl : Call} {x y : Operand} {t t1 el id n z q : Nat} {l cs : List AV} {e e1 ee : TE} (hd : o.dst = some d) (hs : Nat.ble (d + 1) sz = true) (hw : Want all L o true) (ho : o.op = .call cl) (hc : cl.callee = .builtin .append) (ha : cl.args.toList = [x, y])
    (hts0 : nth1 cl.argTypes.toList 0 = some t) (hts1 : nth1 cl.argTypes.toList 1 = some t1) (hx : evL L x = some (.own id n z)) (hy : evL L y = some (.rsl q z cs)) (ht : lkT tb t = some e) (hk : e.k = .slice el) (hel : lkT tb el = some ee) (hz : Nat.beq ee.s z = true) 
    (ht1 : lkT tb t1 = some e1) (hk1 : (match e1.k with | .slice _ => true | .str => true | _ => false) = true) (hg : h.get id = .arr el z n l)
    (hq : q = 0) (nx : Ops X sz rd all rest k ((d, .own id (n + q) z) :: L) (h.put id (.arr el z (n + q) (l ++ cs))) m Q) : Ops X sz rd all (o :: rest) k L h m Q := ⟨fun e0 he => by
  refine TriOps.cons (hw e0 he) (K := fun s' => RunK X sz rd k Q .normal s') ?_
  intro ro ρ w a next Q' h1 p h3 h4 h5
  refine ⟨fun _ _ => trivial, ?_⟩
  rw [show (wideR ro).round = ro from rfl, Oper.semAt_eq ro a.eval o (by rw [ho]; intro d q; cases q)]
  have hz := beqT hz
  have hS : VR ρ (.own id n z) (a.eval x) := by rw [← he.ev hx]; exact ev_ok h3 x
  have hY : VR ρ (.rsl q z cs) (a.eval y) := by rw [← he.ev hy]; exact ev_ok h3 y
  subst hq
  have hcs : cs = [] := by
    simp only [VR] at hY
    exact List.length_eq_zero_iff.1 (by rw [hY.1]; omega)
  subst hcs
  obtain ⟨ie, i1, i2, i3⟩ := (E.t el ee hel).si
  have hsz : ie.size = z := i2.trans hz
  obtain ⟨s1, news, s2, s3, s4⟩ := src_ok (P := X.c.P) (h := h) (z := z) (m := 0) (cs := []) p.hr hY rfl (by simp [srcCells])
  have hnn : news = [] := List.length_eq_zero_iff.1 (by rw [s3]; omega)
  subst hnn
  have hu := under_eq E.k ((E.t t e ht).sl hk)
  obtain ⟨d1, u1, u2⟩ := (E.t t1 e1 ht1).kd
  have hu1 := under_eq E.k u1
  have hni : ∀ kk, d1 ≠ .int kk := fun kk qq => by
    subst qq
    rw [← u2] at hk1
    cases hk1
  rw [nth1_eq] at hts0 hts1
  have hS' := hS
  simp only [VR] at hS'
  have key : (Builtin.append_ cl.argTypes o.type #[a.eval x, a.eval y]).run X.c.P w = .ok (a.eval x) w := by
    have hf : (Builtin.firstCells ie.size 0 (a.eval y)).run X.c.P w = .ok ([] : List Value).toArray w := by
      have := s4 w rfl 0 (Nat.le_refl _)
      rw [hsz]; simpa using this
    obtain ⟨hv, ⟨hn0, a0, he0⟩ | ⟨B, C, he0, hC⟩⟩ := hS'
    · rw [he0]
      have := append_room (P := X.c.P) w cl.argTypes o.type t t1 el d1 ie (by simpa using hts0) (by simpa using hts1) hu1 hni hu (E.k.tys _ _ i1) a0 0 0 0 (a.eval y) [] [] (s1 w) hf (Nat.le_refl _) (w' := w) (by cases a0 <;> simp [storeCells])
      simpa using this
    · rw [he0]
      have := append_room (P := X.c.P) w cl.argTypes o.type t t1 el d1 ie (by simpa using hts0) (by simpa using hts1) hu1 hni hu (E.k.tys _ _ i1) (some ⟨B, 0, none⟩) n C 0 (a.eval y) [] [] (s1 w) hf (by omega) (w' := w) (by simp [storeCells])
      simpa using this
  have hrun : (execOp a.eval o).run X.c.P w = .ok (.value (a.eval x)) w := by
    obtain ⟨CS, hCS⟩ : ∃ CS, (execOp a.eval o).run X.c.P w = (builtin .append cl.argTypes o.type CS (cl.args.map a.eval)).run X.c.P w :=
      ⟨_, by simp only [execOp, ho, resolve, hc, Sem.run_bind, Sem.run_pure, Result.andThen_ok, invoke]; rfl⟩
    have hargs : cl.args.map a.eval = #[a.eval x, a.eval y] := by apply Array.ext'; simp [ha]
    rw [hCS, hargs]
    simp [builtin, key]
  rw [hrun]
  rw [List.append_nil, Nat.add_zero] at nx
  have hpi : PI X ρ (h.put id (.arr el z n l)) w := p.same (fun i => by
    rw [Heap.get_put]
    by_cases hi : i = id
    · subst hi; rw [if_pos rfl, hg]
    · rw [if_neg hi]) rfl (fun q => rfl)
  exact h5 (.own id n z) ⟨e0, h.put id (.arr el z n l), m⟩ (a.eval x) w ρ ⟨e0.set und d (.own id n z), by rw [hd]; exact setD_some hs, nx.run _ (he.set d _)⟩ h1 hpi h3 h4 hS⟩

/-- APPENDED, be it nothing -/
theorem Ops.appendE {d : Nat} {cl : Call} {x y : Operand} {t t1 el id n z q : Nat} {l cs : List AV} {e e1 ee : TE} (hd : o.dst = some d) (hs : Nat.ble (d + 1) sz = true) (hw : Want all L o true) (ho : o.op = .call cl) (hc : cl.callee = .builtin .append) (ha : cl.args.toList = [x, y])
    (hts0 : nth1 cl.argTypes.toList 0 = some t) (hts1 : nth1 cl.argTypes.toList 1 = some t1) (hx : evL L x = some (.own id n z)) (hy : evL L y = some (.rsl q z cs)) (ht : lkT tb t = some e) (hk : e.k = .slice el) (hel : lkT tb el = some ee) (hz : Nat.beq ee.s z = true) (hz0 : Nat.beq z 0 = false) (hb : Nat.ble ee.b 1000 = true)
    (ht1 : lkT tb t1 = some e1) (hk1 : (match e1.k with | .slice _ => true | .str => true | _ => false) = true) (hg : h.get id = .arr el z n l) (hi : HInd id h) (hL : indL id L = true) (hm : (m.all fun i => !Nat.beq i id) = true) (hrd : rdNot id rd = true) (hG : indsB id X.gv = true)
    (hzz : (match ee.z with | .bad => false | v => Nat.beq v.cells.length ee.s) = true) (hones : ones cs = true) (hsm : n + q ≤ 1000000) (nx : Ops X sz rd all rest k ((d, .own id (n + q) z) :: L) (h.put id (.arr el z (n + q) (l ++ cs))) m Q) : Ops X sz rd all (o :: rest) k L h m Q := by
  by_cases hq : q = 0
  · exact Ops.append0 E hd hs hw ho hc ha hts0 hts1 hx hy ht hk hel hz ht1 hk1 hg hq nx
  · exact Ops.append E hd hs hw ho hc ha hts0 hts1 hx hy ht hk hel hz hz0 hb ht1 hk1 hg hi hL hm hrd hG hzz hones hq hsm nx
end


/-! ## places in one's own arrays -/

section
variable {X : Cx} {tb : List (Nat × TE)} (E : Env X.c tb) {L : List (Nat × AV)} {h : Heap} {o : Oper}
include E
end

/-! ## halves -/
section
variable {X : Cx} {tb : List (Nat × TE)} (E : Env X.c tb) {L : List (Nat × AV)} {h : Heap} {o : Oper}
include E in
theorem Hop.conv {s t : Nat} {x : Operand} {k1 k2 : IntKind} {a : Int} {es e : TE} (ho : o.op = .convert s t x) (hx : evL L x = some (.int k1 a)) (hs : lkT tb s = some es) (ht : lkT tb t = some e) (hk : e.k = .int k2) (hr : wr k2 a = a) : Hop X L h o (.int k2 a) h := fun e' he => by
  obtain ⟨d, h1, _⟩ := (E.t s es hs).kd
  have h2 := (E.t t e ht).it hk
  rw [ho]; simp only [opA]; rw [he.ev hx]
  simp only [oConvert, h1, h2, hr, valH]
end
section
variable {X : Cx} {tb : List (Nat × TE)} (E : Env X.c tb) {sz : Nat} {rd : Option Nat} {all : Array Oper} {o : Oper} {rest : List Oper} {k : List It} {L : List (Nat × AV)} {h : Heap} {m : List Nat} {Q : Post}
include E
/-- APPENDED to nil, be it nothing: an array of one's own -/
theorem Ops.appendN {d tx : Nat} {cl : Call} {y : Operand} {t t1 el z q : Nat} {cs : List AV} {e e1 ee : TE} (hd : o.dst = some d) (hs : Nat.ble (d + 1) sz = true) (hw : ∀ v, Want all ((tx, v) :: L) o true) (ho : o.op = .call cl) (hc : cl.callee = .builtin .append) (ha : cl.args.toList = [.tmp tx, y])
    (hts0 : nth1 cl.argTypes.toList 0 = some t) (hts1 : nth1 cl.argTypes.toList 1 = some t1) (hx : lkO L tx = some .nilsl) (hy : ∀ v, evL ((tx, v) :: L) y = some (.rsl q z cs)) (ht : lkT tb t = some e) (hk : e.k = .slice el) (hel : lkT tb el = some ee) (hz : Nat.beq ee.s z = true) (hz0 : Nat.beq z 0 = false) (hb : Nat.ble ee.b 1000 = true)
    (ht1 : lkT tb t1 = some e1) (hk1 : (match e1.k with | .slice _ => true | .str => true | _ => false) = true) (hi : HInd h.nxt (h.new (.arr el z 0 []))) (hL : indL h.nxt L = true) (hm : (m.all fun i => !Nat.beq i h.nxt) = true) (hrd : rdNot h.nxt rd = true) (hG : indsB h.nxt X.gv = true)
    (hzz : (match ee.z with | .bad => false | v => Nat.beq v.cells.length ee.s) = true) (hones : ones cs = true) (hsm : q ≤ 1000000) (nx : Ops X sz rd all rest k ((d, .own h.nxt q z) :: (tx, .own h.nxt 0 z) :: L) ((h.new (.arr el z 0 [])).put h.nxt (.arr el z q cs)) m Q) (hgz : X.g = none ∨ Nat.ble 1 h.nxt = true := by first | exact .inl rfl | exact .inr rfl) : Ops X sz rd all (o :: rest) k L h m Q := by
  refine Ops.change (Chg.tok tx el z hx hgz) (Ops.appendE E (id := h.nxt) (n := 0) (l := []) (q := q) hd hs (hw _) ho hc ha hts0 hts1 (by simp [evL, lkO]) (hy _) ht hk hel hz hz0 hb ht1 hk1 (by rw [Heap.get_new, if_pos rfl]) hi hL hm hrd hG hzz hones (by omega) ?_)
  rw [Nat.zero_add, List.nil_append]
  exact nx
end
end Go.Px
end
/- PxTn -/
section
set_option linter.unusedVariables false
set_option linter.unusedSimpArgs false
namespace Go.Px

noncomputable def newAt (n : Nat) (h : Heap) (b : AB) : Heap := ⟨n + 1, h.blk.set .none n b, h.tips, n :: h.log⟩
theorem new_at {n : Nat} {h : Heap} (hn : h.nxt = n) (b : AB) : h.new b = newAt n h b := by subst hn; rfl
noncomputable def rowAt (n : Nat) (h : Heap) (t : TypeId) (k : Nat) (cs : List AV) : Heap := newAt n h (.row ⟨t, k, .leaf, cs, none⟩)
theorem row_at {n : Nat} {h : Heap} (hn : h.nxt = n) (t : TypeId) (k : Nat) (cs : List AV) : newRow h t k .leaf cs = rowAt n h t k cs := new_at hn _
/-- a value's cells, in a box -/
def boxC (v : AV) : Option (List AV) := match v with | .agg l => some l | .bad => none | v => some [v]

section
variable {X : Cx} {tb : List (Nat × TE)} (E : Env X.c tb) {sz : Nat} {rd : Option Nat} {all : Array Oper} {o : Oper} {rest : List Oper} {k : List It} {L : List (Nat × AV)} {h : Heap} {m : List Nat} {Q : Post}

theorem oBox_C {h : Heap} {t : Nat} {v : AV} {cs : List AV} (hb : boxC v = some cs) : oBox h t v = some (.ptr h.nxt 0, newRow h t cs.length .leaf cs) := by
  cases v <;> first | (cases hb; rfl) | cases hb
theorem Hop.boxC {t : Nat} {x : Operand} {v : AV} {cs : List AV} (ho : o.op = .box t x) (hx : evL L x = some v) (hb : Px.boxC v = some cs) : Hop X L h o (.ptr h.nxt 0) (newRow h t cs.length .leaf cs) := Hop.box ho hx (oBox_C hb)
include E
/-- A BOX that nobody writes -/
theorem Ops.boxR {d t : Nat} {x : Operand} {v : AV} {cs : List AV} (hd : o.dst = some d) (hs : Nat.ble (d + 1) sz = true) (hw : Want all L o true) (ho : o.op = .box t x) (hx : evL L x = some v) (hb : Px.boxC v = some cs) (hdt : datsB cs = true)
    (nx : Ops X sz rd all rest k ((d, .rptr cs) :: L) h m Q) : Ops X sz rd all (o :: rest) k L h m Q := ⟨fun e0 he => by
  refine TriOps.cons (hw e0 he) (K := fun s' => RunK X sz rd k Q .normal s') ?_
  intro ro ρ w a next Q' h1 p h3 h4 h5
  refine ⟨fun _ _ => trivial, ?_⟩
  have hopA : opA X.c e0 (bare h.nxt) o.op = some (.v (.ptr h.nxt 0) ((bare h.nxt).new (.row ⟨t, cs.length, .leaf, cs, none⟩))) := Hop.boxC (X := X) (h := bare h.nxt) ho hx hb e0 he
  rw [show (wideR ro).round = ro from rfl, Oper.semAt_eq ro a.eval o (opA_defer hopA)]
  have hbr : HR ρ (bare h.nxt) w := bare_hr h.nxt p.hr.lt p.hr.fz
  obtain ⟨nx', w', ρ1, q1, q2, q3⟩ := opA_ok E.k hbr (bare_wf _) (fun i a b => p.fr.1 i a) h3 hopA
  have hblk : ∀ B, B < w.heap.size → w'.heap[B]? = w.heap[B]? := fun B hB => q2.frame B hB (fun i N _ => bare_no _ i)
  have hFo : ∀ B, B < w.heap.size → ρ1.F B = ρ.F B := fun B hB => q2.fold B hB (fun i N _ => bare_no _ i)
  have hgetn : ((bare h.nxt).new (.row ⟨t, cs.length, .leaf, cs, none⟩)).get h.nxt = .row ⟨t, cs.length, .leaf, cs, none⟩ := by
    have := Heap.get_new (bare h.nxt) h.nxt (.row ⟨t, cs.length, .leaf, cs, none⟩)
    rw [this]; exact if_pos rfl
  have hokn : ((bare h.nxt).new (.row ⟨t, cs.length, .leaf, cs, none⟩)).ok h.nxt := by
    unfold Heap.ok; rw [hgetn]; simp only []; rw [Heap.row_of hgetn]; rfl
  -- its value
  rcases q3 with ⟨S, rfl, q3⟩ | ⟨_, q3⟩
  · simp only [VR] at q3
    obtain ⟨B, N, e1, rfl⟩ := q3
    have hro := q2.hr.ok h.nxt B N e1 hokn
    rw [hgetn] at hro
    have hro : RowOk ρ1 ⟨t, cs.length, .leaf, cs, none⟩ B N w' := hro
    obtain ⟨L0, l1, l2, l3⟩ := RowOk.reads hro cs.length 0 (by simp)
    rw [read_whole t cs cs.length rfl] at l1
    have hFB : ρ1.F B = [] := q2.hr.F_row e1 hokn (fun r => by rw [hgetn]; exact fun q => by cases q)
    have hBge : w.heap.size ≤ B := by
      rcases q2.newb h.nxt B N e1 (p.fr.1 _ (Nat.le_refl _)) with r | ⟨j, M, _, r⟩
      · exact r
      · exact absurd r (bare_no _ j)
    have g1 : ∀ b, b ≠ B → (fun b => if b = B then L0 else ρ1.F b) b = ρ1.F b := fun b q => if_neg q
    have g2 : (fun b => if b = B then L0 else ρ1.F b) B = L0 := if_pos rfl
    have f1 : ∀ (b j : Nat) (x : Value), (ρ1.F b)[j]? = some x → ((fun b => if b = B then L0 else ρ1.F b) b)[j]? = some x := fun b j x q => by
      by_cases hb : b = B
      · subst hb; rw [hFB] at q; simp at q
      · rw [g1 b hb]; exact q
    have f0 : ∀ (b j : Nat) (x : Value), (ρ.F b)[j]? = some x → ((fun b => if b = B then L0 else ρ1.F b) b)[j]? = some x := fun b j x q => f1 b j x (q2.sub.F b j x q)
    have f3 : FzW (fun b => if b = B then L0 else ρ1.F b) w' := fun b j x q => by
      by_cases hb : b = B
      · subst hb; rw [g2] at q
        have := l3 j x q; rwa [Nat.zero_add] at this
      · rw [g1 b hb] at q; exact q2.hr.fz b j x q
    have hsub : Sub ρ ⟨ρ.m, fun b => if b = B then L0 else ρ1.F b, ρ.V⟩ := ⟨fun _ _ e => e, f0, fun _ _ _ e => e⟩
    have hpi := p.frz ⟨q2.same, hblk⟩ f0 (fun b hb => (g1 b (by omega)).trans (hFo b hb)) f3
    rw [q1]
    refine h5 (.rptr cs) ⟨e0, h, m⟩ _ w' _ ⟨e0.set und d (.rptr cs), by rw [hd]; exact setD_some hs, nx.run _ (he.set d _)⟩ (h1.mono hsub) hpi (h3.mono hsub) (h4.mono hsub) ?_
    simp only [VR]
    refine ⟨B, 0, L0, rfl, ?_, fun j x q => ?_⟩
    · exact VRs.mono (ρ := ρ1.d) (σ := (⟨ρ.m, fun b => if b = B then L0 else ρ1.F b, ρ.V⟩ : Map).d) ⟨(fun _ _ e => by cases e), f1, (fun _ _ _ e => by cases e)⟩ cs (dats_ok cs hdt l1)
    · show ((fun b => if b = B then L0 else ρ1.F b) B)[0 + j]? = some x
      rw [g2, Nat.zero_add]; exact q
  · simp only [VR] at q3
    obtain ⟨B, N, e1, e2⟩ := q3
    cases e2⟩

/-! ## numbers written out -/
theorem Ops.rowAt (n : Nat) {d ty N : Nat} {cs : List AV} (hd : o.dst = some d) (hs : Nat.ble (d + 1) sz = true) (hw : Want all L o true) (hn : h.nxt = n) (hop : Hop X L h o (.ptr h.nxt 0) (newRow h ty N .leaf cs)) (nx : Ops X sz rd all rest k ((d, .ptr n 0) :: L) (Px.rowAt n h ty N cs) m Q) : Ops X sz rd all (o :: rest) k L h m Q := by
  rw [hn, row_at hn] at hop
  exact Ops.mem E hd hs hw hop (by rw [← row_at hn]; exact ArrKeep.new rfl) nx
theorem Ops.appendNAt (n : Nat) {d tx : Nat} {cl : Call} {y : Operand} {t t1 el z q : Nat} {cs : List AV} {e e1 ee : TE} (hd : o.dst = some d) (hs : Nat.ble (d + 1) sz = true) (hn : h.nxt = n) (hw : ∀ v, Want all ((tx, v) :: L) o true) (ho : o.op = .call cl) (hc : cl.callee = .builtin .append) (ha : cl.args.toList = [.tmp tx, y])
    (hts0 : nth1 cl.argTypes.toList 0 = some t) (hts1 : nth1 cl.argTypes.toList 1 = some t1) (hx : lkO L tx = some .nilsl) (hy : ∀ v, evL ((tx, v) :: L) y = some (.rsl q z cs)) (ht : lkT tb t = some e) (hk : e.k = .slice el) (hel : lkT tb el = some ee) (hz : Nat.beq ee.s z = true) (hz0 : Nat.beq z 0 = false) (hb : Nat.ble ee.b 1000 = true)
    (ht1 : lkT tb t1 = some e1) (hk1 : (match e1.k with | .slice _ => true | .str => true | _ => false) = true) (hi : HInd n (newAt n h (.arr el z 0 []))) (hL : indL n L = true) (hm : (m.all fun i => !Nat.beq i n) = true) (hrd : rdNot n rd = true) (hG : indsB n X.gv = true)
    (hzz : (match ee.z with | .bad => false | v => Nat.beq v.cells.length ee.s) = true) (hones : ones cs = true) (hsm : q ≤ 1000000) (nx : Ops X sz rd all rest k ((d, .own n q z) :: (tx, .own n 0 z) :: L) ((newAt n h (.arr el z 0 [])).put n (.arr el z q cs)) m Q) (hgz : X.g = none ∨ Nat.ble 1 n = true := by first | exact .inl rfl | exact .inr rfl) : Ops X sz rd all (o :: rest) k L h m Q := by
  subst hn
  exact Ops.appendN E hd hs hw ho hc ha hts0 hts1 hx hy ht hk hel hz hz0 hb ht1 hk1 hi hL hm hrd hG hzz hones hsm nx hgz
omit E in
theorem Dr.rowAt {tb : List (Ent X.c)} {ord : List Nat} {hb : Option Heap} {i : Nat} (n : Nat) {d ty N : Nat} {cs : List AV} (ho : nth1 all.toList i = some o) (hc : cls X.c o.op = .alloc) (hd : o.dst = some d) (hs : Nat.ble (d + 1) sz = true) (hw : Want all L o true) (hn : h.nxt = n) (hop : Hop X L h o (.ptr h.nxt 0) (newRow h ty N .leaf cs)) (nx : Dr X sz rd tb all ord k ((d, .ptr n 0) :: L) (Px.rowAt n h ty N cs) hb m Q) : Dr X sz rd tb all (i :: ord) k L h hb m Q := by
  rw [hn, row_at hn] at hop
  exact Dr.alloc ho hc hd hs hw hop (by rw [← row_at hn]; exact ArrKeep.new rfl) nx
omit E in
theorem Dr.slAt {tb : List (Ent X.c)} {ord : List Nat} {hb : Option Heap} {i : Nat} (n : Nat) {d ty len z : Nat} {cap : Option Nat} {cs : List AV} (ho : nth1 all.toList i = some o) (hc : cls X.c o.op = .alloc) (hd : o.dst = some d) (hs : Nat.ble (d + 1) sz = true) (hw : Want all L o true) (hn : h.nxt = n) (hop : Hop X L h o (.sl h.nxt 0 len cap z) (newRow h ty cs.length .leaf cs)) (nx : Dr X sz rd tb all ord k ((d, .sl n 0 len cap z) :: L) (Px.rowAt n h ty cs.length cs) hb m Q) : Dr X sz rd tb all (i :: ord) k L h hb m Q := by
  rw [hn, row_at hn] at hop
  exact Dr.alloc ho hc hd hs hw hop (by rw [← row_at hn]; exact ArrKeep.new rfl) nx
end
section
variable {X : Cx} {sz : Nat} {rd : Option Nat} {k : List It} {L : List (Nat × AV)} {h : Heap} {m : List Nat} {Q : Post}
/-- both ways of a condition: the slot is known behind it -/
theorem Go.condPt {t : Nat} {c d : Code} {p : Prop} (hb : lkO L t = some (.bool (bd p))) (g1 : p → Go X sz rd (.code c :: k) ((t, .bool true) :: L) h m Q) (g2 : ¬ p → Go X sz rd (.code d :: k) ((t, .bool false) :: L) h m Q) : Go X sz rd (.code (.cond (.tmp t) c d) :: k) L h m Q := ⟨fun e he => by
  have hk : ∀ {b : Bool}, bd p = b → Has e ((t, .bool b) :: L) := fun {b} hb' s u q => by
    unfold lkO at q
    split at q
    · rename_i ht; cases q; have ht := beqT ht; subst ht; rw [← hb']; exact he s _ hb
    · exact he s u q
  have he' : evL L (.tmp t) = some (.bool (bd p)) := hb
  exact Tri.cond (he.ev he') (fun q => (g1 (bd_iff.1 q)).run e (hk q)) (fun q => (g2 (bd_not.1 q)).run e (hk q))⟩
theorem Go.condNt {t : Nat} {c d : Code} {p : Prop} (hb : lkO L t = some (.bool (!bd p))) (g1 : ¬ p → Go X sz rd (.code c :: k) ((t, .bool true) :: L) h m Q) (g2 : p → Go X sz rd (.code d :: k) ((t, .bool false) :: L) h m Q) : Go X sz rd (.code (.cond (.tmp t) c d) :: k) L h m Q := by
  have e : (!bd p) = bd (¬ p) := by by_cases h : p <;> simp [bd, h]
  rw [e] at hb
  exact Go.condPt hb g1 fun q => g2 (Classical.not_not.1 q)
end
/-! ## what is left at the end -/
theorem out_t {p : Prop} (h : p) : one [AV.bool true] = .bool (bd p) := by rw [bd_of h]; rfl
theorem out_f {p : Prop} (h : ¬ p) : one [AV.bool false] = .bool (bd p) := by rw [bd_no h]; rfl
theorem out_e {p q : Prop} (h : p ↔ q) : one [AV.bool (bd p)] = .bool (bd q) := by rw [propext h]; rfl
theorem out_n {p q : Prop} (h : ¬ p ↔ q) : one [AV.bool (!bd p)] = .bool (bd q) := by
  have e : (!bd p) = bd (¬ p) := by by_cases h : p <;> simp [bd, h]
  rw [e, propext h]; rfl
end Go.Px
end
/- PxTo -/
section
set_option linter.unusedVariables false
namespace Go.Px
section
variable {X : Cx} {sz : Nat} {rd : Option Nat} {all : Array Oper} {rest : List Oper} {k : List It} {L : List (Nat × AV)} {h : Heap} {m : List Nat} {Q : Post}
theorem Go.condTt {t : Nat} {c d : Code} {p : Prop} (hb : lkO L t = some (.bool (bd p))) (hp : p) (g1 : Go X sz rd (.code c :: k) ((t, .bool true) :: L) h m Q) : Go X sz rd (.code (.cond (.tmp t) c d) :: k) L h m Q := Go.condPt hb (fun _ => g1) fun q => absurd hp q
theorem Go.condFt {t : Nat} {c d : Code} {p : Prop} (hb : lkO L t = some (.bool (bd p))) (hp : ¬ p) (g1 : Go X sz rd (.code d :: k) ((t, .bool false) :: L) h m Q) : Go X sz rd (.code (.cond (.tmp t) c d) :: k) L h m Q := Go.condPt hb (fun q => absurd q hp) fun _ => g1
end
end Go.Px
end
/- PxTp -/
section
set_option linter.unusedVariables false
namespace Go.Px
section
variable {X : Cx} {tb : List (Nat × TE)} {sz : Nat} {rd : Option Nat} {all : Array Oper} {o : Oper} {rest : List Oper} {k : List It} {L : List (Nat × AV)} {h : Heap} {m : List Nat} {Q : Post}
/-- A MOVE of an own array that nobody writes from now on -/
theorem Ops.frzMv (E : Env X.c tb) (d : Nat) {v : AV} {id ty z n : Nat} {l : List AV} (e0 : AV.rsl n z l = v) (hd : o.dst = some d) (hs : Nat.ble (d + 1) sz = true) (hw : Want all L o true) (hop : Hop X L h o (.own id n z) h) (hg0 : h.get id = .arr ty z n l) (hi : HInd id h) (hL : indL id L = true)
    (hm : (m.all fun i => !Nat.beq i id) = true) (hrd : rdNot id rd = true) (hG : indsB id X.gv = true) (nx : Ops X sz rd all rest k ((d, v) :: (d, .own id n z) :: L) (h.put id .none) m Q) : Ops X sz rd all (o :: rest) k L h m Q := by
  subst e0
  refine Ops.val E hd hs hw hop (Ops.change (Chg.frz d (by unfold lkO; rw [Nat.beq_refl]) hg0 hi (by simp only [indL, indB]; exact hL) hm (fun q => ?_) hG) nx)
  subst q
  simp [rdNot, Nat.beq_refl] at hrd
end
end Go.Px
end
/- PxTq -/
section
set_option linter.unusedVariables false
namespace Go.Px
section
variable {X : Cx} {tb : List (Nat × TE)} {sz : Nat} {rd : Option Nat} {all : Array Oper} {o : Oper} {rest : List Oper} {k : List It} {L : List (Nat × AV)} {h : Heap} {m : List Nat} {Q : Post}
theorem PI.cellV {ρ : Map} {w : World} {id : Nat} {r r' : Row} (p : PI X ρ h w) (hg0 : h.get id = .row r) (h1 : r'.t = r.t) (h2 : r'.n = r.n) (h3 : r.root = none) (h4 : r'.root = none) (H : ∀ B N, ρ id = some (B, N) → ∀ j v, j < r.n → w.cell? ⟨B, j, none⟩ = some v → VR ρ (r.get j) v → VR ρ (r'.get j) v) : PI X ρ (h.put id (.row r')) w := by
  have hg : ∀ j, j ≠ id → (h.put id (.row r')).get j = h.get j := fun j q => by rw [Heap.get_put, if_neg q]
  have hn : (h.put id (.row r')).get id = .row r' := by rw [Heap.get_put, if_pos rfl]
  have hokn : h.ok id := by unfold Heap.ok; rw [hg0]; simp only []; rw [Heap.row_of hg0, h3]; rfl
  have ho : ∀ j, (h.put id (.row r')).ok j → h.ok j := fun j q => by
    by_cases hj : j = id
    · subst hj; exact hokn
    · exact (Heap.ok_same (hg j hj) (fun _ _ _ _ => rfl)).1 q
  have hk1 : ∀ j, ¬ Kin h id j := fun j hk => by
    obtain ⟨a, b, q, a1, a2, a3, a4⟩ := hk
    rw [hg0] at a1; cases a1; rw [h3] at a3; cases a3
  have hk2 : ∀ j, ¬ Kin h j id := fun j hk => by
    obtain ⟨a, b, q, a1, a2, a3, a4⟩ := hk
    rw [hg0] at a2; cases a2; rw [h3] at a4; cases a4
  refine ⟨⟨p.hr.lt, fun i B N e q => ?_, fun i j B N M hij e1 e2 k1 k2 => ?_, fun i s q => ?_, p.hr.fz, fun i B N e q => ?_, fun i t z n l q => ?_⟩,
    ⟨fun i hi => ?_, fun i s q a b => ?_, fun i s q t a b c => ?_, fun q hq => p.wf.tipr q hq⟩, ⟨fun i hi => p.fr.1 i hi, fun i s q => ?_⟩, fun i hi n => p.vf i hi n, fun i t z n l q => ?_, p.ext, p.mine, p.sub, p.old, p.keep, p.gh.go (fun t z n l q => ?_) (Same.refl w) (fun _ _ _ => rfl) (fun i B N e q => .inr ⟨i, N, e, ho i q⟩) (fun _ _ _ => rfl) (fun B N e => .inl ⟨N, e⟩) (fun _ _ => rfl) (fun _ _ _ e => e) (fun _ e => e)⟩
  · by_cases hi : i = id
    · subst hi
      rw [hn]
      have := p.hr.ok i B N e hokn
      rw [hg0] at this
      have this : RowOk ρ r B N w := this
      obtain ⟨q1, q2, q3, q4⟩ := this
      refine ⟨by rw [h1]; exact q1, by rw [h2]; exact q2, q3, fun j hj => ?_⟩
      rw [h2] at hj
      obtain ⟨v, v1, v2⟩ := q4 j hj
      exact ⟨v, v1, H B N e j v hj v1 v2⟩
    · rw [hg i hi]; exact p.hr.ok i B N e (ho i q)
  · have kk := p.hr.inj i j B N M hij e1 e2 (ho i k1) (ho j k2)
    by_cases hi : i = id
    · subst hi; exact absurd kk (hk1 j)
    · by_cases hj : j = id
      · subst hj; exact absurd kk (hk2 i)
      · obtain ⟨r, s, q, a, b, c⟩ := kk
        exact ⟨r, s, q, by rw [hg i hi]; exact a, by rw [hg j hj]; exact b, c⟩
  · by_cases hi : i = id
    · subst hi; rw [hn] at q; cases q
    · rw [hg i hi] at q; exact p.hr.gl i s q
  · by_cases hi : i = id
    · subst hi
      rcases p.hr.sep i B N e hokn with a | ⟨s, a⟩
      · exact .inl a
      · rw [hg0] at a; cases a
    · rw [hg i hi]; exact p.hr.sep i B N e (ho i q)
  · by_cases hi : i = id
    · subst hi; rw [hn] at q; cases q
    · rw [hg i hi] at q; exact p.hr.av i t z n l q
  · by_cases hi' : i = id
    · subst hi'
      have : h.get i = .none := p.wf.fresh i hi
      rw [hg0] at this; cases this
    · rw [hg i hi']; exact p.wf.fresh i hi
  · by_cases hi : i = id
    · subst hi; rw [hn] at a; cases a; rw [h4] at b; cases b
    · rw [hg i hi] at a; exact p.wf.root i s q a b
  · by_cases hi : i = id
    · subst hi; rw [hn] at a; cases a; rw [h4] at b; cases b
    · rw [hg i hi] at a
      obtain ⟨u, u1, u2, u3⟩ := p.wf.tip i s q t a b c
      by_cases ht : t = id
      · subst ht; rw [hg0] at u1; cases u1; rw [h3] at u2; cases u2
      · exact ⟨u, by rw [hg t ht]; exact u1, u2, u3⟩
  · by_cases hi : i = id
    · subst hi
      have := p.fr.2 i s q
      rw [hg0] at this; cases this
    · rw [hg i hi]; exact p.fr.2 i s q
  · by_cases hi : i = id
    · subst hi; rw [hn] at q; cases q
    · rw [hg i hi] at q; exact p.vu i t z n l q
  · by_cases hi : 0 = id
    · subst hi; rw [hn] at q; cases q
    · rw [hg 0 hi] at q; exact ⟨_, _, _, q⟩
theorem row1 (t : TypeId) (v : AV) : Row.get ⟨t, 1, .leaf, [v], none⟩ 0 = v := by
  unfold Row.get
  rw [show (T.leaf : T (Option AV)).get none 0 = none from get_leaf none 0]
  simp only [Nat.zero_mod]
  rfl
/-- a slice without room in a box, as an array of one's own in which nothing stands -/
theorem Chg.tokCell (n0 id : Nat) (ty z : Nat) {t : TypeId} {u : AV} (hn0 : h.nxt = n0) (hu : noRoom u = true) (hg : h.get id = .row ⟨t, 1, .leaf, [u], none⟩) (hz : X.g = none ∨ Nat.ble 1 n0 = true := by first | exact .inl rfl | exact .inr rfl) : Chg X sz rd L h L ((newAt n0 h (.arr ty z 0 [])).put id (.row ⟨t, 1, .leaf, [.own n0 0 z], none⟩)) m := fun ro ρ w e a h1 p h3 he h4 => by
  rw [← new_at hn0]
  subst hn0
  -- what stands there is such a slice
  have hlt : id < h.nxt := by
    rcases Nat.lt_or_ge id h.nxt with q | q
    · exact q
    · rw [p.wf.fresh id q] at hg; cases hg
  have hcell : ∀ B N, ρ id = some (B, N) → ∃ x, w.cell? ⟨B, 0, none⟩ = some x ∧ VR ρ u x := fun B N e => by
    have := p.hr.ok id B N e (by unfold Heap.ok; rw [hg]; simp only []; rw [Heap.row_of hg]; rfl)
    rw [hg] at this
    have ro : RowOk ρ ⟨t, 1, .leaf, [u], none⟩ B N w := this
    obtain ⟨x, x1, x2⟩ := ro.2.2.2 0 (by show 0 < 1; omega)
    rw [row1] at x2
    exact ⟨x, x1, x2⟩
  obtain ⟨v0, a0, hv0, hall⟩ : ∃ v0 a0, v0 = Value.slice a0 0 0 ∧ ∀ B N, ρ id = some (B, N) → w.cell? ⟨B, 0, none⟩ = some v0 := by
    cases hid : ρ id with
    | none => exact ⟨_, none, rfl, fun B N e => by cases e⟩
    | some y =>
      obtain ⟨B, N⟩ := y
      obtain ⟨x, x1, x2⟩ := hcell B N hid
      obtain ⟨a, ha⟩ := noRoom_at hu x2
      exact ⟨x, a, ha, fun B' N' e => by cases e; exact x1⟩
  obtain ⟨ρ', p', hs, v1, hm, _⟩ := p.tokV ty z hv0 hz
  have hne : id ≠ h.nxt := by omega
  have hg' : (h.new (.arr ty z 0 [])).get id = .row ⟨t, 1, .leaf, [u], none⟩ := by rw [Heap.get_new, if_neg hne]; exact hg
  refine ⟨ρ', e, h1.mono hs, p'.cellV hg' rfl rfl rfl rfl (fun B N e1 j v hj hc q => ?_), h3.mono hs, he, h4.mono hs⟩
  have hj : j = 0 := by have hj : j < 1 := hj; omega
  subst hj
  rw [row1]
  have e2 : ρ id = some (B, N) := by
    have : ρ'.m id = some (B, N) := e1
    rw [hm] at this; exact this
  rw [hall B N e2] at hc
  cases hc
  simp only [VR]
  exact ⟨v1, .inl ⟨trivial, _, hv0⟩⟩
end
/-- a heap of so many blocks, the number written out -/
noncomputable def hq (N : Nat) (bs : List AB) : Heap := ⟨N, T.put .none bs .leaf 0, .leaf, []⟩
theorem row_at_i {t : TypeId} {cs : List AV} {j : Nat} (hj : j < cs.length) : Row.get ⟨t, cs.length, .leaf, cs, none⟩ j = cs.getD j .bad := by
  unfold Row.get
  rw [show (T.leaf : T (Option AV)).get none j = none from get_leaf none j]
  simp only [Nat.mod_eq_of_lt hj, nth_eq, List.getD_eq_getElem?_getD, List.getElem?_eq_getElem hj]
  rfl
theorem lows_at {n : Nat} : ∀ {cs : List AV} {j : Nat}, lowsB n cs = true → j < cs.length → lowB n (cs.getD j .bad) = true
  | [], _, _, h => by simp at h
  | c :: cs, j, h, hj => by
    simp only [lowsB] at h
    split at h
    · rename_i hc
      cases j with
      | zero => exact hc
      | succ j => exact lows_at (cs := cs) h (by simpa using hj)
    · cases h
theorem inds_at {n : Nat} : ∀ {cs : List AV} {j : Nat}, indsB n cs = true → j < cs.length → indB n (cs.getD j .bad) = true
  | [], _, _, h => by simp at h
  | c :: cs, j, h, hj => by
    simp only [indsB] at h
    split at h
    · rename_i hc
      cases j with
      | zero => exact hc
      | succ j => exact inds_at (cs := cs) h (by simpa using hj)
    · cases h
theorem low_row {n N : Nat} {t : TypeId} {cs : List AV} (hN : cs.length = N) (h : lowsB n cs = true) : ABLow n (.row ⟨t, N, .leaf, cs, none⟩) := by
  subst hN
  refine ⟨rfl, ?_⟩
  rw [List.all_eq_true]
  intro j hj
  have hj : j < cs.length := by simpa using hj
  rw [row_at_i hj]; exact lows_at h hj
theorem ind_row {n N : Nat} {t : TypeId} {cs : List AV} (hN : cs.length = N) (h : indsB n cs = true) : ABInd n (.row ⟨t, N, .leaf, cs, none⟩) := by
  subst hN
  show ((List.range cs.length).all fun j => indB n (Row.get ⟨t, cs.length, .leaf, cs, none⟩ j)) = true
  rw [List.all_eq_true]
  intro j hj
  have hj : j < cs.length := by simpa using hj
  rw [row_at_i hj]; exact inds_at h hj
end Go.Px
end
/- PxTr -/
section
set_option linter.unusedVariables false
namespace Go.Px
section
variable {X : Cx} {tb : List (Nat × TE)} (E : Env X.c tb) {sz : Nat} {rd : Option Nat} {all : Array Oper} {o : Oper} {rest : List Oper} {k : List It} {L : List (Nat × AV)} {h : Heap} {m : List Nat} {Q : Post}
include E
omit E
theorem Go.toQ {L' : List (Nat × AV)} {c : Code} {bs : List AB} {N : Nat} (g : Go X sz rd (.lp c :: k) L' (hq N bs) m Q) (hN : bs.length = N) (hg : ∀ i r, X.c.g0.get i ≠ .gl r) (hs : SubL L L') (hlow : lowL N L' = true) (hn : Nat.ble N h.nxt = true) (hb : getsP h bs 0) (hbl : lowsP N bs)
    (hm : (m.all fun i => Nat.ble (i + 1) N) = true) (hrd : rdLow N rd = true) (hG : lowsB N X.gv = true := by rfl) (hz : X.g = none ∨ Nat.ble 2 N = true := by first | exact .inl rfl | exact .inr rfl) : Go X sz rd (.lp c :: k) L h m Q := by
  subst hN
  exact Go.toC g hg hs hlow hn hb hbl hm hrd hG hz
theorem Go.toHQ {L' : List (Nat × AV)} {c : Code} {bs : List AB} {N : Nat} (g : Go X sz rd (.code c :: k) L' (hq N bs) m Q) (hN : bs.length = N) (hg : ∀ i r, X.c.g0.get i ≠ .gl r) (hs : SubL L L') (hlow : lowL N L' = true) (hn : Nat.ble N h.nxt = true) (hb : getsP h bs 0) (hbl : lowsP N bs)
    (hm : (m.all fun i => Nat.ble (i + 1) N) = true) (hrd : rdLow N rd = true) (hG : lowsB N X.gv = true := by rfl) (hz : X.g = none ∨ Nat.ble 2 N = true := by first | exact .inl rfl | exact .inr rfl) : Go X sz rd (.code c :: k) L h m Q := by
  subst hN
  exact Go.toH g hg hs hlow hn hb hbl hm hrd hG hz
theorem Go.retFm {c : Ctx} {res : List ResultVar} {vs : List AV} {v : AV} {h' : Heap} (hl : leave h m = some h') (hr : resL L res = some vs) (hv : one vs = v) (hd : datB v = true) : Go X sz rd (.code .ret :: k) L h m (Fin c res v) :=
  Go.ret fun e he => ⟨.inr rfl, h', vs, hl, resL_ok he hr, hv, hd⟩
end
end Go.Px
end
/- PxTs -/
section
set_option linter.unusedVariables false
namespace Go.Px
section
variable {X : Cx} {tb : List (Nat × TE)} (E : Env X.c tb) {sz : Nat} {rd : Option Nat} {all : Array Oper} {o : Oper} {rest : List Oper} {k : List It} {L : List (Nat × AV)} {h : Heap} {m : List Nat} {Q : Post}
include E
end
end Go.Px
end
/- PxTt -/
section
set_option linter.unusedVariables false
namespace Go.Px
open Go.Deep Go.ChangeShapes Go.WideShapes
/-- a world's blocks, as they are -/
def held0 (W : World) (B : Nat) : List Value := match W.heap[B]? with
  | some (.cells c _ _) => c.toList
  | _ => []
theorem held0_at {W : World} {B j : Nat} {x : Value} : (held0 W B)[j]? = some x ↔ W.cell? ⟨B, j, none⟩ = some x := by
  unfold held0 World.cell?
  split
  · rename_i c t f e
    simp [e]
  · rename_i e
    constructor
    · intro h; simp at h
    · intro h
      split at h
      · rename_i c t f e2; exact absurd e2 (e c t f)
      · cases h
theorem held0_fz (W : World) : FzW (held0 W) W := fun B j x h => held0_at.1 h
/-- a text that came in -/
theorem read_str (ρ : Map) (s : ByteArray) : VR ρ (sA s.data.toList) (.string s) := by
  unfold sA
  simp only [VR, bs]
  congr 1
  obtain ⟨⟨l⟩⟩ := s
  simp [List.map_map, Function.comp_def]
/-! ## it reads as before -/
theorem trodAll_carry {H : Type} {enc : TypeId × Value → H} {P : Program} {w w' : World} {base : Nat} {sp : Nat → Bool} {hd : Bool} : ∀ {ts : List TypeId} {vs : List Value} {ds : List (DataW H)} {ps : List MemPlace}, DataW.TrodAll enc P w base sp hd ts vs ds ps → (∀ p ∈ ps, w.sameAt w' p) → DataW.TrodAll enc P w' base sp hd ts vs ds ps
  | [], [], [], _, h, _ => h
  | _ :: _, _ :: _, _ :: _, _, ⟨p, q, ⟨n, h1⟩, h2, e⟩, hs => ⟨p, q, ⟨n, DataW.trod_carry n _ _ _ h1 fun x hx => hs x (by rw [e]; exact List.mem_append_left _ hx)⟩, trodAll_carry h2 (fun x hx => hs x (by rw [e]; exact List.mem_append_right _ hx)), e⟩
theorem ext_same {w w' : World} (h : ExtW w w') {p : MemPlace} (hp : p.block < w.heap.size) : w.sameAt w' p := by
  cases p with
  | cell b off =>
    show w'.cell? ⟨b, off, none⟩ = w.cell? ⟨b, off, none⟩
    unfold World.cell?
    rw [h.2 b hp]
  | map b => exact h.2 b hp
theorem ext_kept {w w' : World} (h : ExtW w w') (may : MemPlace → Prop) : w.keptBut w' may := by
  refine ⟨h.1.os, h.1.output, fun i hi => ?_⟩
  rw [h.2 i hi]
  cases w.heap[i]? with
  | none => rfl
  | some b => cases b <;> first | rfl | exact ⟨rfl, rfl, rfl, fun _ _ => rfl⟩ | exact .inr ⟨rfl, rfl⟩
end Go.Px
end
/- PxTu -/
section
set_option linter.unusedVariables false
namespace Go.Px
section
variable {c : Ctx} (k : CtxOk c) (kn : ∀ f, c.kn.get none f = none) {draw : DrawOk} (dc : DrawCalm draw) (dr : DrawSound c draw) {ext : Ext} (hx : ExtOk c ext) {lim : Nat}
include k kn dc dr hx
theorem app_ok : ∀ n, AppOk c (app c draw lim ext n) := by
  intro n
  induction n with
  | zero => intro t args h v h' he; cases he
  | succ n ih =>
    intro t args h v h' he ρ w A hr wf fr hA
    cases t with
    | f f =>
      have he' : (match known c f args with | some v => Ans.ok v h | none => callA c draw (app c draw lim ext n) lim ext f args h) = .ok v h' := he
      have hkn : known c f args = none := by unfold known; rw [kn f]
      rw [hkn] at he'
      exact callA_ok k dc dr hx ih he' hr wf fr hA
    | y l => exact fun B N hl => yieldA_ok k dc dr ih he hr wf fr hA hl
end
/-- does a run answer so -/
def answers (r : Ans) (b : Bool) : Bool := match r with | .ok v _ => (match v with | .bool x => (match x, b with | true, true => true | false, false => true | _, _ => false) | _ => false) | .bad _ => false
theorem answers_ok {r : Ans} {b : Bool} (h : answers r b = true) : ∃ h', r = .ok (.bool b) h' := by
  unfold answers at h
  split at h
  · split at h
    · rename_i x
      cases x <;> cases b <;> first | exact ⟨_, rfl⟩ | cases h
    · cases h
  · cases h
end Go.Px
end
/- PxTv -/
section
set_option linter.unusedVariables false
namespace Go.Px
def inL (xs : List Nat) (f : Nat) : Bool := match xs with | [] => false | x :: r => (match Nat.beq x f with | true => true | false => inL r f)
end Go.Px
end
/- FvA -/
section
set_option linter.unusedVariables false
namespace Go.Px.Fv
open Go.Proofs
noncomputable def cF : Ctx := ctxG Tryz.prog h0
theorem cF_ok : CtxOk cF := ctxG_ok (by kernel_rfl)
def tbF : List (Nat × TE) := [(1, ⟨.func, 1, 8, .nilfn⟩),
  (2, ⟨.int .i64, 1, 8, .int .i64 0⟩),
  (3, ⟨.int .i64, 1, 8, .int .i64 0⟩),
  (4, ⟨.bool, 1, 1, .bool false⟩),
  (5, ⟨.int .u8, 1, 1, .int .u8 0⟩),
  (9, ⟨.str, 1, 16, .str []⟩),
  (22, ⟨.slice 30, 1, 24, .nilsl⟩),
  (25, ⟨.slice 9, 1, 24, .nilsl⟩),
  (28, ⟨.slice 47, 1, 24, .nilsl⟩),
  (30, ⟨.struct [(0, 3), (1, 9), (2, 28), (3, 9), (4, 22)], 5, 88, .agg [.int .i64 0, .str [], .nilsl, .str [], .nilsl]⟩),
  (45, ⟨.struct [(0, 3), (1, 2), (2, 9)], 3, 32, .agg [.int .i64 0, .int .i64 0, .str []]⟩),
  (47, ⟨.struct [(0, 9), (1, 45)], 4, 48, .agg [.str [], .int .i64 0, .int .i64 0, .str []]⟩),
  (48, ⟨.func, 1, 8, .nilfn⟩),
  (49, ⟨.func, 1, 8, .nilfn⟩),
  (65, ⟨.func, 1, 8, .nilfn⟩),
  (68, ⟨.int .u64, 1, 8, .int .u64 0⟩),
  (69, ⟨.func, 1, 8, .nilfn⟩)]
theorem eF : Env cF tbF := ⟨cF_ok, TbP.at_ (tb := tbF) ⟨⟨by kernel_rfl, by kernel_rfl, by kernel_rfl⟩, ⟨by kernel_rfl, by kernel_rfl, by kernel_rfl⟩, ⟨by kernel_rfl, by kernel_rfl, by kernel_rfl⟩, ⟨by kernel_rfl, by kernel_rfl, by kernel_rfl⟩, ⟨by kernel_rfl, by kernel_rfl, by kernel_rfl⟩, ⟨by kernel_rfl, by kernel_rfl, by kernel_rfl⟩, ⟨by kernel_rfl, by kernel_rfl, by kernel_rfl⟩, ⟨by kernel_rfl, by kernel_rfl, by kernel_rfl⟩, ⟨by kernel_rfl, by kernel_rfl, by kernel_rfl⟩, ⟨by kernel_rfl, by kernel_rfl, by kernel_rfl⟩, ⟨by kernel_rfl, by kernel_rfl, by kernel_rfl⟩, ⟨by kernel_rfl, by kernel_rfl, by kernel_rfl⟩, ⟨by kernel_rfl, by kernel_rfl, by kernel_rfl⟩, ⟨by kernel_rfl, by kernel_rfl, by kernel_rfl⟩, ⟨by kernel_rfl, by kernel_rfl, by kernel_rfl⟩, ⟨by kernel_rfl, by kernel_rfl, by kernel_rfl⟩, ⟨by kernel_rfl, by kernel_rfl, by kernel_rfl⟩, trivial⟩, fun i r q => by rw [show cF.g0.get i = .none from h0_get i] at q; cases q⟩
theorem _root_.Go.Px.Go.to {X : Cx} {sz : Nat} {rd : Option Nat} {k : List It} {L M : List (Nat × AV)} {h : Heap} {m : List Nat} {Q : Post} (g : Go X sz rd k M h m Q) (hs : SubL L M) : Go X sz rd k L h m Q := Go.sub hs g
theorem lt_succ_cases {j i : Nat} (h : j < i + 1) : j < i ∨ j = i := by omega
theorem hm : cF.P.follows .mixedOrders = true := by kernel_rfl
/-! ## data -/
structure Va where
  k : Int
  n : Int
  s : List UInt8
instance : Inhabited Va := ⟨⟨0, 0, []⟩⟩
/-- an argument: a variable, or a value -/
structure Ag where
  x : List UInt8
  v : Va
instance : Inhabited Ag := ⟨⟨[], default⟩⟩
def encS (s : List UInt8) : List AV := [sA s]
def encVa (v : Va) : List AV := [.int .i64 v.k, .int .i64 v.n, sA v.s]
def encAg (a : Ag) : List AV := [sA a.x, .int .i64 a.v.k, .int .i64 a.v.n, sA a.v.s]
/-- texts -/
def strsA (l : List (List UInt8)) : AV := dsl 1 encS l
def argsA (l : List Ag) : AV := dsl 4 encAg l
end Go.Px.Fv
end
/- PxTw -/
section
set_option linter.unusedVariables false
set_option linter.unusedSimpArgs false
namespace Go.Px
section
variable {X : Cx} {sz : Nat} {rd : Option Nat} {s : St}
theorem OpT.callC (k : CtxOk X.c) {o : Oper} {cl : Call} {f : Operand} {g : FuncId} {first cap vs : List AV} {v : AV} {K : AV → St → Prop} (ho : o.op = .call cl) (hc : cl.callee = .value f) (hf : ev s.e f = .fn (.func g) first cap)
    (hv : cl.args.toList.map (ev s.e) = vs) (hd : datsB (first ++ vs ++ cap) = true) (hk : KOk X.c g (first ++ vs ++ cap) v) (hK : K v s) : OpT X sz rd o s K := fun ro ρ w a next Q' h1 h2 h3 h4 h5 => by
  refine ⟨fun _ _ => trivial, ?_⟩
  rw [show (wideR ro).round = ro from rfl, Oper.semAt_eq ro a.eval o (by rw [ho]; intro d q; cases q)]
  have hfv := ev_ok h3 f
  rw [hf] at hfv
  simp only [VR, FR] at hfv
  obtain ⟨f', F, C, e1, e2, e3, e4⟩ := hfv
  subst e1
  have hargs := evs_ok h3 cl.args.toList
  rw [hv] at hargs
  have hA := VRs.append (VRs.append e2 hargs) e3
  obtain ⟨nx, w1, q1, q2⟩ := hk ρ.F w (F ++ cl.args.toList.map a.eval ++ C) h2.hr.fz (dats_ok _ hd hA)
  have hrun : (execOp a.eval o).run X.c.P w = .ok nx w1 := by
    rw [← q1]
    simp only [execOp, ho, resolve, hc, e4, Deferred.ofValue, Sem.run_bind, Sem.run_pure, Result.andThen_ok, invoke]
    congr 2
    apply Array.ext'; simp
  rw [hrun]
  refine uponIn_of_next q2 fun z w' ⟨x, F', f1, f2, f3, f4⟩ => ?_
  have hs : Sub ρ ⟨ρ.m, F', ρ.V⟩ := ⟨fun _ _ e => e, f1, fun _ _ _ e => e⟩
  refine h5 v s z w' ⟨ρ.m, F', ρ.V⟩ hK (h1.mono hs) (h2.frz x f1 f2 f3) (h3.mono hs) (h4.mono hs) ?_
  exact VR.mono (ρ := fzm F') (σ := ⟨ρ.m, F', ρ.V⟩) ⟨(fun _ _ e => by cases e), fun _ _ _ e => e, (fun _ _ _ e => by cases e)⟩ v f4
end
/-- A CALL OF A FUNCTION VALUE that holds data, by a contract -/
theorem Ops.callC {X : Cx} {tb : List (Nat × TE)} (E : Env X.c tb) {sz : Nat} {rd : Option Nat} {all : Array Oper} {o : Oper} {rest : List Oper} {k : List It} {L : List (Nat × AV)} {h : Heap} {m : List Nat} {Q : Post}
    {d : Nat} {v : AV} {cl : Call} {f : Operand} {g : FuncId} {first cap vs : List AV} (hd : o.dst = some d) (hs : Nat.ble (d + 1) sz = true) (hw : Want all L o true) (ho : o.op = .call cl) (hc : cl.callee = .value f) (hf : evL L f = some (.fn (.func g) first cap))
    (hv : evsL L cl.args.toList = some vs) (hk : KOk X.c g (first ++ vs ++ cap) v) (hdt : datsB (first ++ vs ++ cap) = true) (n : Ops X sz rd all rest k ((d, v) :: L) h m Q) : Ops X sz rd all (o :: rest) k L h m Q := ⟨fun e he =>
  TriOps.cons (hw e he) (OpT.callC E.k ho hc (he.ev hf) (he.evs hv) hdt hk ⟨e.set und d v, by rw [hd]; exact setD_some hs, n.run _ (he.set d v)⟩)⟩

/-- A BYTE LOOKED FOR, by what stands below the program. -/
theorem KOk.idx {c : Ctx} {f : FuncId} {fn : Func} (hf : c.P.funcs[f]? = some fn) (h1 : (fn.name == "runtime.NumGoroutine") = false) (hb : fn.body.isNone = true) (hn : Extern.findNext fn = none) (he : Extern.find fn = some Extern.BytealgIndexByte.indexByte) (s : List UInt8) (b : Int) : KOk c f [sA s, .int .u8 b] (.int .i64 (Lib.indexByte s (UInt8.ofNat b.toNat))) := fun F w A hF hA => by
  simp only [sA, VRs, VR] at hA
  obtain ⟨_, _, rfl, ⟨_, _, rfl, rfl, rfl⟩, rfl⟩ := hA
  have hbs : ∀ l : List UInt8, (bs (l.map UInt8.toNat)).data.toList = l := fun l => by
    simp only [bs]
    rw [List.map_map]
    have : (UInt8.ofNat ∘ UInt8.toNat) = id := by funext x; simp
    rw [this, List.map_id]
  refine ⟨_, w, by rw [run_callFunc_extern hf h1 hb hn he, Lib.run_indexByteString, hbs]; rfl, ?_⟩
  exact ⟨ExtW.refl w, F, fun _ _ _ e => e, fun _ _ => rfl, hF, by simp only [VR]⟩
end Go.Px
end
/- FvC -/
section
set_option linter.unusedVariables false
set_option linter.unusedSimpArgs false
set_option maxHeartbeats 4000000
set_option maxRecDepth 20000
namespace Go.Px.Fv
open Go.Proofs
attribute [local irreducible] Go.Px.KOk
def byt (s : List UInt8) (i : Nat) : Int := ((s.getD i 0).toNat : Int)
def tru : List UInt8 := [116, 114, 117, 101]
def fls : List UInt8 := [102, 97, 108, 115, 101]
def syms : List UInt8 := [63, 95, 43, 45, 42, 47, 60, 62, 61, 33, 46, 37, 38]
def sgns : List UInt8 := [43, 45, 33]
def DigAt (s : List UInt8) (i : Nat) : Prop := i < s.length ∧ 48 ≤ byt s i ∧ byt s i ≤ 57
def OkC (s : List UInt8) (i : Nat) : Prop := (97 ≤ byt s i ∧ byt s i ≤ 122) ∨ DigAt s i ∨ 0 ≤ Lib.indexByte syms (s.getD i 0)
/-- is it a name -/
def NamedP (s : List UInt8) : Prop := (1 ≤ s.length ∧ s.length ≤ 64 ∧ s ≠ tru ∧ s ≠ fls) ∧ (∀ i, i < s.length → OkC s i) ∧ ¬ DigAt s 0 ∧ (Lib.indexByte sgns (s.getD 0 0) < 0 ∨ ¬ DigAt s 1)
theorem f80 : Extern.find Tryz.f92 = some Extern.BytealgIndexByte.indexByte := by kernel_rfl
theorem k80 (s : List UInt8) (b : Int) : KOk cF 92 [sA s, .int .u8 b] (.int .i64 (Lib.indexByte s (UInt8.ofNat b.toNat))) :=
  KOk.idx (fn := Tryz.f92) Tryz.func92 (by kernel_rfl) (by kernel_rfl) (by kernel_rfl) f80 s b
theorem k73 (s : List UInt8) (b : Int) : KOk cF 63 [sA s, .int .u8 b] (.int .i64 (Lib.indexByte s (UInt8.ofNat b.toNat))) := by
  refine KOk.of cF_ok eF.g Tryz.func63 rfl (Nat.le_of_ble_eq_true rfl) fun w F => ?_
  repeat' first | refine Go.seq ?_ | refine Go.region rfl ?_ | refine Ops.nil ?_ | refine Ops.val eF rfl rfl (by first | exact Want.no rfl | exact Want.tT rfl rfl rfl rfl | exact Want.fF rfl rfl rfl rfl) (by first | exact Hop.move rfl rfl | exact Hop.assign rfl rfl) ?_ | refine Ops.call eF rfl rfl (by first | exact Want.no rfl | exact Want.tT rfl rfl rfl rfl | exact Want.fF rfl rfl rfl rfl) rfl rfl rfl rfl (k80 _ _) rfl ?_ | refine Go.retF rfl ?_ rfl
  all_goals rfl
theorem k60 (s : List UInt8) (b : Int) : KOk cF 25 [sA s, .int .u8 b] (.int .i64 (Lib.indexByte s (UInt8.ofNat b.toNat))) := by
  refine KOk.of cF_ok eF.g Tryz.func25 rfl (Nat.le_of_ble_eq_true rfl) fun w F => ?_
  repeat' first | refine Go.seq ?_ | refine Go.region rfl ?_ | refine Ops.nil ?_ | refine Ops.val eF rfl rfl (by first | exact Want.no rfl | exact Want.tT rfl rfl rfl rfl | exact Want.fF rfl rfl rfl rfl) (by first | exact Hop.move rfl rfl | exact Hop.assign rfl rfl) ?_ | refine Ops.call eF rfl rfl (by first | exact Want.no rfl | exact Want.tT rfl rfl rfl rfl | exact Want.fF rfl rfl rfl rfl) rfl rfl rfl rfl (k73 _ _) rfl ?_ | refine Go.retF rfl ?_ rfl
  all_goals rfl
theorem k59 (s : List UInt8) (i : Nat) (hs : s.length ≤ 2000000) (hi : i ≤ 2000000) : KOk cF 24 [.int .i64 i, .rptr [sA s]] (.bool (bd (DigAt s i))) := by
  refine KOk.of cF_ok eF.g Tryz.func24 rfl (Nat.le_of_ble_eq_true rfl) fun w F => ?_
  repeat' first | refine Go.seq ?_ | refine Go.region rfl ?_ | refine Ops.nil ?_ | refine Ops.val eF rfl rfl (by first | exact Want.no rfl | exact Want.tT rfl rfl rfl rfl | exact Want.fF rfl rfl rfl rfl) (by first | exact Hop.move rfl rfl | exact Hop.assign rfl rfl | exact Hop.pickT rfl rfl rfl | exact Hop.pickF rfl rfl rfl | exact Hop.lss rfl rfl rfl | exact Hop.leq rfl rfl rfl | exact Hop.geq rfl rfl rfl | exact Hop.sidx eF rfl rfl rfl rfl rfl (by omega) | exact Hop.ldR eF rfl rfl rfl rfl rfl | exact Hop.lenS eF rfl rfl rfl rfl rfl rfl rfl) ?_ | refine Ops.skip rfl rfl (by first | exact Want.fT rfl rfl rfl rfl | exact Want.tF rfl rfl rfl rfl | exact Want.und rfl rfl rfl rfl) ?_ | refine Ops.gP rfl rfl (fun _ => ?_) (fun _ => ?_) | refine Go.retF rfl ?_ rfl
  all_goals try simp only [Int.toNat_natCast] at *
  all_goals first
    | exact out_f (by unfold DigAt byt; omega)
    | exact out_e (by unfold DigAt byt; omega)
end Go.Px.Fv
end
/- FvD -/
section
set_option linter.unusedVariables false
set_option linter.unusedSimpArgs false
set_option maxHeartbeats 4000000
set_option maxRecDepth 20000
namespace Go.Px.Fv
open Go.Proofs
attribute [local irreducible] Go.Px.KOk
theorem k49 (s : List UInt8) (hs : s.length ≤ 2000000) : KOk cF 14 [sA s] (.bool (bd (NamedP s))) := by
  have d0 : KOk cF 24 [.int .i64 0, .rptr [sA s]] (.bool (bd (DigAt s 0))) := k59 s 0 hs (by omega)
  have d1 : KOk cF 24 [.int .i64 1, .rptr [sA s]] (.bool (bd (DigAt s 1))) := k59 s 1 hs (by omega)
  refine KOk.of cF_ok eF.g Tryz.func14 rfl (Nat.le_of_ble_eq_true rfl) fun w F => ?_
  repeat' first | refine Go.seq ?_ | refine Go.region rfl ?_ | refine Ops.nil ?_ | refine Ops.val eF rfl rfl (by first | exact Want.no rfl | exact Want.tT rfl rfl rfl rfl | exact Want.fF rfl rfl rfl rfl) (Hop.eqS (b := tru) rfl rfl rfl) ?_ | refine Ops.val eF rfl rfl (by first | exact Want.no rfl | exact Want.tT rfl rfl rfl rfl | exact Want.fF rfl rfl rfl rfl) (Hop.eqS (b := fls) rfl rfl rfl) ?_ | refine Ops.val eF rfl rfl (by first | exact Want.no rfl | exact Want.tT rfl rfl rfl rfl | exact Want.fF rfl rfl rfl rfl) (by first | exact Hop.move rfl rfl | exact Hop.assign rfl rfl | exact Hop.pickT rfl rfl rfl | exact Hop.pickF rfl rfl rfl | exact Hop.lss rfl rfl rfl | exact Hop.gtr rfl rfl rfl | exact Hop.ldR eF rfl rfl rfl rfl rfl | exact Hop.lenS eF rfl rfl rfl rfl rfl rfl rfl | exact Hop.makeFunc rfl rfl rfl) ?_ | refine Ops.skip rfl rfl (by first | exact Want.fT rfl rfl rfl rfl | exact Want.tF rfl rfl rfl rfl | exact Want.und rfl rfl rfl rfl) ?_ | refine Ops.gP rfl rfl (fun _ => ?_) (fun _ => ?_) | refine Ops.boxR eF rfl rfl (by first | exact Want.no rfl | exact Want.tT rfl rfl rfl rfl | exact Want.fF rfl rfl rfl rfl) rfl rfl rfl rfl ?_ | refine Go.condT rfl ?_ | refine Go.condPt rfl (fun _ => ?_) (fun _ => ?_) | refine Go.block ?_ | refine Go.skip ?_ | refine Go.retF rfl ?_ rfl
  all_goals try exact out_f (by unfold NamedP; first | omega | (intro h; obtain ⟨⟨h1, h2, h3, h4⟩, _⟩ := h; first | omega | contradiction))
  refine Go.loop (fun i : Nat => [(1, .rptr [sA s]), (3, .fn (.func 24) [] [.rptr [sA s]]), (23, .int .i64 s.length), (24, .int .i64 i)]) (fun _ => hS) (fun i => i ≤ s.length ∧ ∀ j, j < i → OkC s j) (fun i => s.length - i) 0 ⟨by omega, fun j hj => by omega⟩ ⟨rfl, rfl, rfl, rfl, trivial⟩ rfl (fun i hP ih => ?_)
  obtain ⟨hi, hn⟩ := hP
  repeat' first | refine Go.seq ?_ | refine Go.region rfl ?_ | refine Ops.nil ?_ | refine Ops.callC eF rfl rfl (by first | exact Want.no rfl | exact Want.tT rfl rfl rfl rfl | exact Want.fF rfl rfl rfl rfl) rfl rfl rfl rfl (k59 s i hs (by omega)) rfl ?_ | refine Ops.callC eF rfl rfl (by first | exact Want.no rfl | exact Want.tT rfl rfl rfl rfl | exact Want.fF rfl rfl rfl rfl) rfl rfl rfl rfl d0 rfl ?_ | refine Ops.callC eF rfl rfl (by first | exact Want.no rfl | exact Want.tT rfl rfl rfl rfl | exact Want.fF rfl rfl rfl rfl) rfl rfl rfl rfl d1 rfl ?_ | refine Ops.val eF rfl rfl (by first | exact Want.no rfl | exact Want.tT rfl rfl rfl rfl | exact Want.fF rfl rfl rfl rfl) (by first | exact Hop.move rfl rfl | exact Hop.assign rfl rfl | exact Hop.pickT rfl rfl rfl | exact Hop.pickF rfl rfl rfl | exact Hop.not rfl rfl | exact Hop.lss rfl rfl rfl | exact Hop.gtr rfl rfl rfl | exact Hop.add rfl rfl rfl (by omega) | exact Hop.sidx eF rfl rfl rfl rfl rfl (by omega) | exact Hop.ldR eF rfl rfl rfl rfl rfl) ?_ | refine Ops.skip rfl rfl (by first | exact Want.fT rfl rfl rfl rfl | exact Want.tF rfl rfl rfl rfl | exact Want.und rfl rfl rfl rfl) ?_ | refine Ops.gP rfl rfl (fun _ => ?_) (fun _ => ?_) | refine Ops.gN rfl rfl (fun _ => ?_) (fun _ => ?_) | refine Ops.call eF rfl rfl (by first | exact Want.no rfl | exact Want.tT rfl rfl rfl rfl | exact Want.fF rfl rfl rfl rfl) rfl rfl rfl rfl (k60 syms _) rfl ?_ | refine Ops.call eF rfl rfl (by first | exact Want.no rfl | exact Want.tT rfl rfl rfl rfl | exact Want.fF rfl rfl rfl rfl) rfl rfl rfl rfl (k60 sgns _) rfl ?_ | refine Go.condF rfl ?_ | refine Go.condPt rfl (fun _ => ?_) (fun _ => ?_) | refine Go.block ?_ | refine Go.unblk ?_ | refine Go.skip ?_ | refine Go.exit rfl ?_ | refine Go.retF rfl ?_ rfl
  all_goals try simp only [Int.toNat_natCast, UInt8.ofNat_toNat] at *
  all_goals first
    | exact out_f (fun h => by have q := h.2.1 i (by omega); unfold OkC byt at q; rcases q with q | q | q <;> first | contradiction | omega)
    | (refine Go.to (ih (i + 1) ⟨by omega, fun j hj => ?_⟩ (by omega)) ⟨rfl, rfl, rfl, rfl, trivial⟩
       rcases lt_succ_cases hj with h | rfl
       · exact hn j h
       · first | exact .inl ⟨by unfold byt; omega, by unfold byt; omega⟩ | exact .inr (.inl (by assumption)) | exact .inr (.inr (by omega)))
    | skip
  all_goals
    have base : NamedP s ↔ ¬ DigAt s 0 ∧ (Lib.indexByte sgns (s.getD 0 0) < 0 ∨ ¬ DigAt s 1) := ⟨fun h => h.2.2, fun h => ⟨⟨by omega, by omega, by assumption, by assumption⟩, fun j hj => hn j (by omega), h⟩⟩
    first
    | exact out_f (fun h => by rcases base.1 h with ⟨h1, h2 | h2⟩ <;> first | contradiction | omega)
    | exact out_t (base.2 ⟨by assumption, .inl (by assumption)⟩)
    | exact out_n ⟨fun h => base.2 ⟨by assumption, .inr h⟩, fun h => by rcases (base.1 h).2 with h2 | h2 <;> first | exact h2 | contradiction⟩
    | skip
end Go.Px.Fv
end
/- FvE -/
section
set_option linter.unusedVariables false
set_option linter.unusedSimpArgs false
set_option maxHeartbeats 4000000
set_option maxRecDepth 20000
namespace Go.Px.Fv
open Go.Proofs
attribute [local irreducible] Go.Px.KOk
/-- is it a variable -/
def VarP (s : List UInt8) : Prop := 2 ≤ s.length ∧ byt s 0 = 63 ∧ NamedP s
theorem k33 (s : List UInt8) (hs : s.length ≤ 2000000) : KOk cF 7 [sA s] (.bool (bd (VarP s))) := by
  have k1 := k49 s hs
  refine KOk.of cF_ok eF.g Tryz.func7 rfl (Nat.le_of_ble_eq_true rfl) fun w F => ?_
  repeat' first | refine Go.seq ?_ | refine Go.region rfl ?_ | refine Ops.nil ?_ | refine Ops.val eF rfl rfl (by first | exact Want.no rfl | exact Want.tT rfl rfl rfl rfl | exact Want.fF rfl rfl rfl rfl) (by first | exact Hop.move rfl rfl | exact Hop.assign rfl rfl | exact Hop.pickT rfl rfl rfl | exact Hop.pickF rfl rfl rfl | exact Hop.geq rfl rfl rfl | exact Hop.eql rfl rfl rfl | exact Hop.sidx eF rfl rfl rfl rfl rfl (by omega) | exact Hop.lenS eF rfl rfl rfl rfl rfl rfl rfl) ?_ | refine Ops.skip rfl rfl (by first | exact Want.fT rfl rfl rfl rfl | exact Want.tF rfl rfl rfl rfl | exact Want.und rfl rfl rfl rfl) ?_ | refine Ops.gP rfl rfl (fun _ => ?_) (fun _ => ?_) | refine Ops.call eF rfl rfl (by first | exact Want.no rfl | exact Want.tT rfl rfl rfl rfl | exact Want.fF rfl rfl rfl rfl) rfl rfl rfl rfl (k1) rfl ?_ | refine Go.retF rfl ?_ rfl
  all_goals first
    | exact out_f (fun h => by have := h.1; omega)
    | exact out_f (fun h => by have h2 := h.2.1; unfold byt at h2; first | contradiction | (simp at *; omega))
    | exact out_e ⟨fun h => ⟨by omega, by unfold byt; assumption, h⟩, fun h => h.2.2⟩
end Go.Px.Fv
end
/- PxTx -/
section
set_option linter.unusedVariables false
set_option linter.unusedSimpArgs false
namespace Go.Px
open Go.Sort Go.Proofs
theorem shape_mapBlock (w : World) (b B : Nat) (f : Array Value → Array Value) (hf : ∀ c, (f c).size = c.size) : (mapBlock w b f).shape? B = w.shape? B := by
  simp only [mapBlock, World.shape?, Array.getElem?_modify]
  by_cases hk : b = B
  · simp only [hk, if_true]
    cases w.heap[B]? with
    | none => rfl
    | some o => cases o <;> simp [onCells, hf]
  · simp [hk]
theorem heap_putRow_ne {α : Type} [Inhabited α] (enc : α → Value) (w : World) (b off : Nat) (d : Array α) (C : Nat) (h : C ≠ b) : (putRow enc w b off d).heap[C]? = w.heap[C]? := by
  simp only [putRow, mapBlock, Array.getElem?_modify]
  rw [if_neg (Ne.symm h)]
def sLe (x y : List UInt8) : Bool := decide (x ≤ y)
/-- texts as cells -/
def strC (ss : List (List UInt8)) : List AV := ss.map sA
theorem vr_str {ρ : Map} {s : List UInt8} {v : Value} : VR ρ (sA s) v ↔ v = encStr s := by
  have e : bs (s.map UInt8.toNat) = (⟨s.toArray⟩ : ByteArray) := by
    simp only [bs]
    congr 1
    have : (UInt8.ofNat ∘ UInt8.toNat) = id := by funext x; simp
    rw [List.map_map, this, List.map_id]
  simp only [sA, VR, e, encStr]
/-- an array of texts turned, and the world grown -/
theorem Good.texts {ρ : Map} {h : Heap} {w w' : World} (hr : HR ρ h w) (wf : WF h) {id t n B C : Nat} {ss ss' : List (List UInt8)} (hg : h.get id = .arr t 1 n (strC ss)) (hv : ρ.V id n = some (.slice (some ⟨B, 0, none⟩) n C))
    (hn00 : n ≠ 0) (hl : ss'.length = ss.length) {m : Nat} {os : Array Obj} (hw : w' = grow (putRow encStr (Sort.ahead w m) B 0 ss'.toArray) os) : Good ρ h w ρ (h.put id (.arr t 1 n (strC ss'))) w' ∧ Holds encStr w B 0 ss.toArray ∧ B < w.heap.size ∧ ss.length = n ∧ n ≤ C := by
  obtain ⟨N, h1, h2, h3, h4, h5, ro, L0, hl0, hc⟩ := hr.arrAt hg hv (.inl hn00)
  have hn : ss.length = n := by simpa [strC] using h5
  have hB := hr.lt _ _ _ h1
  have hcell : ∀ j, j < ss.length → w.cell? ⟨B, j, none⟩ = some (encStr (ss.getD j default)) := fun j hj => by
    obtain ⟨v, v1, v2⟩ := ro.2.2.2 j (by show j < n * 1; omega)
    rw [Row.get_new, Nat.mod_eq_of_lt (by simpa [strC] using hj)] at v2
    have e : (strC ss)[j]? = some (sA (ss.getD j default)) := by
      simp [strC, List.getD_eq_getElem?_getD, List.getElem?_eq_getElem hj]
    rw [e] at v2
    have v2 : VR ρ.d (sA (ss.getD j default)) v := v2
    rw [vr_str] at v2
    rw [v1, v2]
  have hfz : ∀ j, j < ss.length → w.frozen? ⟨B, j, none⟩ = false := fun j hj => ro.2.2.1 j (by
    have : C * 1 = N := h4
    omega)
  have hH : Holds encStr w B 0 ss.toArray := fun j hj => by
    have hj : j < ss.length := by simpa using hj
    rw [Nat.zero_add]
    refine ⟨?_, hfz j hj⟩
    rw [hcell j hj]
    have e1 : ss.toArray[j]! = ss.getD j default := by simp [List.getD_eq_getElem?_getD, hj]
    rw [e1]
  have hH' : Holds encStr (Sort.ahead w m) B 0 ss.toArray := hH
  have e0 : (Sort.ahead w m).heap = w.heap := rfl
  have hro : RowOk ρ.d ⟨t, n * 1, .leaf, strC ss', none⟩ B N (putRow encStr (Sort.ahead w m) B 0 ss'.toArray) := by
    refine ⟨?_, ro.2.1, fun j hj => ?_, fun j hj => ?_⟩
    · unfold putRow
      rw [shape_mapBlock _ _ _ _ (fun c => by simp [putCells])]
      exact ro.1
    · rw [frozen?_putRow]; exact ro.2.2.1 j hj
    · have hj : j < n * 1 := hj
      have hj2 : j < ss'.toArray.size := by simp; omega
      have := cell?_putRow encStr (Sort.ahead w m) B 0 ss.toArray ss'.toArray hH' (by simp [hl]) j hj2
      rw [Nat.zero_add] at this
      refine ⟨_, this, ?_⟩
      have hj3 : j < ss'.length := by omega
      rw [Row.get_new, Nat.mod_eq_of_lt (by simpa [strC] using hj3)]
      have e : (strC ss')[j]? = some (sA (ss'.getD j default)) := by
        simp [strC, List.getD_eq_getElem?_getD, List.getElem?_eq_getElem hj3]
      rw [e]
      show VR ρ.d (sA (ss'.getD j default)) _
      rw [vr_str]
      have e1 : ss'.toArray[j]! = ss'.getD j default := by simp [List.getD_eq_getElem?_getD, hj3]
      rw [e1]
  have hs1 : Same w (putRow encStr (Sort.ahead w m) B 0 ss'.toArray) := ⟨rfl, rfl, rfl, by rw [size_putRow]; exact Nat.le_refl _⟩
  have g := Good.writeArr hr wf h1 hg (l' := strC ss') (by simp [strC, hl]) hro (fun C hC => by rw [heap_putRow_ne _ _ _ _ _ _ hC]; rfl) hs1 (by rw [size_putRow]; rfl)
  refine ⟨?_, hH, hB, hn, h3⟩
  subst hw
  refine g.ext ⟨rfl, rfl, rfl, by rw [size_grow]; omega⟩ fun b hb => heap_grow_old _ _ hb

/-- the library's sort of texts -/
def SortC (c : Ctx) (f : FuncId) : Prop := ∀ (blk cap : Nat) (ss : List (List UInt8)) (w : World), Holds encStr w blk 0 ss.toArray → blk < w.heap.size → ss.length < 4611686018427387904 →
  Calls c.P f #[.slice (some ⟨blk, 0, none⟩) ss.length cap] w fun e w' => e = .returned (.tuple #[]) ∧ ∃ n os, w' = grow (putRow encStr (Sort.ahead w n) blk 0 (ss.mergeSort sLe).toArray) os
/-- the library's striking of what stands twice -/
def CompactC (c : Ctx) (f : FuncId) : Prop := ∀ (blk cap : Nat) (ss : List (List UInt8)) (w : World), Holds encStr w blk 0 ss.toArray → ss.length ≤ 9223372036854775807 → ss.length ≤ cap →
  Calls c.P f #[.slice (some ⟨blk, 0, none⟩) ss.length cap] w fun e w' => e = .returned (.slice (some ⟨blk, 0, none⟩) (Lib.compact ss).length cap) ∧ ∃ q, w' = putRow encStr (Sort.ahead w q) blk 0 (Lib.compact ss ++ List.replicate (ss.length - (Lib.compact ss).length) []).toArray
theorem compact_le (ss : List (List UInt8)) : (Lib.compact ss).length ≤ ss.length := by
  unfold Lib.compact Lib.compactUpTo
  rw [List.length_map]
  refine Nat.le_trans (List.length_filter_le _ _) (by simp)
section
variable {X : Cx} {tb : List (Nat × TE)} (E : Env X.c tb) {sz : Nat} {rd : Option Nat} {all : Array Oper} {o : Oper} {rest : List Oper} {k : List It} {L : List (Nat × AV)} {h : Heap} {m : List Nat} {Q : Post}
include E
omit E in
/-- an array's slice, as it stands -/
theorem own_at {ρ : Map} {w : World} (hr : HR ρ h w) {id n t z : Nat} {l : List AV} (hg : h.get id = .arr t z n l) (hn : n ≠ 0) {x : Value} (hx : VR ρ (.own id n z) x) : ∃ B C, x = .slice (some ⟨B, 0, none⟩) n C ∧ ρ.V id n = some (.slice (some ⟨B, 0, none⟩) n C) := by
  simp only [VR] at hx
  obtain ⟨h1, ⟨h2, _⟩ | ⟨B, C, h2, _⟩⟩ := hx
  · exact absurd h2 hn
  · exact ⟨B, C, h2, by rw [h1, h2]⟩
/-- TEXTS IN ORDER -/
theorem Ops.sortS {d : Nat} {cl : Call} {f : Operand} {g : FuncId} {fn : Func} {id n t : Nat} {ss : List (List UInt8)} (hd : o.dst = some d) (hs : Nat.ble (d + 1) sz = true) (hw : Want all L o true) (ho : o.op = .call cl) (hc : cl.callee = .value f) (hf : evL L f = some (.fn (.func g) [] []))
    (hv : evsL L cl.args.toList = some [.own id n 1]) (hfn : X.c.P.funcs[g]? = some fn) (hb : fn.body.isSome = true) (hg : h.get id = .arr t 1 n (strC ss)) (hn : n ≠ 0) (hsm : n ≤ 1000000) (hk : SortC X.c g)
    (nx : Ops X sz rd all rest k ((d, .tup []) :: L) (h.put id (.arr t 1 n (strC (ss.mergeSort sLe)))) m Q) : Ops X sz rd all (o :: rest) k L h m Q := ⟨fun e0 he => by
  refine TriOps.cons (hw e0 he) (K := fun s' => RunK X sz rd k Q .normal s') ?_
  intro ro ρ w a next Q' h1 p h3 h4 h5
  refine ⟨fun _ _ => trivial, ?_⟩
  rw [show (wideR ro).round = ro from rfl, Oper.semAt_eq ro a.eval o (by rw [ho]; intro d q; cases q)]
  have hfv := ev_ok h3 f
  rw [he.ev hf] at hfv
  simp only [VR, VRs, FR] at hfv
  obtain ⟨f', F, C0, e1, rfl, rfl, e4⟩ := hfv
  subst e1
  have hargs := evs_ok h3 cl.args.toList
  rw [he.evs hv] at hargs
  simp only [VRs] at hargs
  obtain ⟨x, r0, hx, rfl, hAe⟩ := hargs
  obtain ⟨B, C, rfl, hV⟩ := own_at p.hr hg hn hx
  obtain ⟨_, hH, hB, hlen, hnC⟩ := Good.texts (ss' := ss) (m := 0) (os := #[]) p.hr p.wf hg hV hn rfl rfl
  have hcalls := hk B C ss w hH hB (by omega)
  rw [hlen] at hcalls
  have hnm : fn.name ≠ "runtime.NumGoroutine" := by simpa using E.k.names g fn hfn
  obtain ⟨body, hbody⟩ := Option.isSome_iff_exists.1 hb
  have hrun : (execOp a.eval o).run X.c.P w = .ok (.enter g #[.slice (some ⟨B, 0, none⟩) n C]) w := by
    have hcall : (callFunc g #[.slice (some ⟨B, 0, none⟩) n C]).run X.c.P w = .ok (.enter g #[.slice (some ⟨B, 0, none⟩) n C]) w := by simp [callFunc, hfn, hnm, hbody, Sem.run]
    rw [← hcall]
    simp only [execOp, ho, resolve, hc, e4, Deferred.ofValue, Sem.run_bind, Sem.run_pure, Result.andThen_ok, invoke]
    congr 2
    apply Array.ext'
    simpa using hAe
  rw [hrun]
  refine uponIn_of_next (R := fun z w' => next (a.put o.dst z) w') (nx := .enter g _) ?_ fun z w' r => r
  refine (callsIn_wide.2 hcalls).mono fun e w' ⟨hz, q, os, hw'⟩ => ?_
  subst hz
  have gd := (Good.texts (ss' := ss.mergeSort sLe) p.hr p.wf hg hV hn (by simp) hw').1
  exact h5 (.tup []) ⟨e0, _, m⟩ (.tuple #[]) w' ρ ⟨e0.set und d (.tup []), by rw [hd]; exact setD_some hs, nx.run _ (he.set d _)⟩ h1 (p.good gd (ArrKeep.arr hg)) h3 h4 (by simp only [VR, VRs]; exact ⟨[], rfl, rfl⟩)⟩
/-- EACH ONCE: what is handed back, nobody writes any more -/
theorem Ops.compactS {d tx : Nat} {cl : Call} {f : Operand} {g : FuncId} {fn : Func} {id n t : Nat} {ss : List (List UInt8)} (hd : o.dst = some d) (hs : Nat.ble (d + 1) sz = true) (hw : Want all L o true) (ho : o.op = .call cl) (hc : cl.callee = .value f) (hf : evL L f = some (.fn (.func g) [] []))
    (ha : cl.args.toList = [.tmp tx]) (hx : lkO L tx = some (.own id n 1)) (hfn : X.c.P.funcs[g]? = some fn) (hb : fn.body.isSome = true) (hg : h.get id = .arr t 1 n (strC ss)) (hn : n ≠ 0) (hsm : n ≤ 1000000) (hk : CompactC X.c g)
    (hi : ∀ l, HInd id (h.put id (.arr t 1 n l))) (hL : indL id L = true) (hm : (m.all fun i => !Nat.beq i id) = true) (hrd : rd ≠ some id) (hG : indsB id X.gv = true)
    (nx : ∀ h', h' = (h.put id (.arr t 1 n (strC (Lib.compact ss ++ List.replicate (ss.length - (Lib.compact ss).length) [])))).put id .none → Ops X sz rd all rest k ((d, .rsl (Lib.compact ss).length 1 (strC (Lib.compact ss))) :: (tx, .rsl n 1 (strC (Lib.compact ss ++ List.replicate (ss.length - (Lib.compact ss).length) []))) :: L) h' m Q) : Ops X sz rd all (o :: rest) k L h m Q := ⟨fun e0 he => by
  refine TriOps.cons (hw e0 he) (K := fun s' => RunK X sz rd k Q .normal s') ?_
  intro ro ρ w a next Q' h1 p h3 h4 h5
  refine ⟨fun _ _ => trivial, ?_⟩
  rw [show (wideR ro).round = ro from rfl, Oper.semAt_eq ro a.eval o (by rw [ho]; intro d q; cases q)]
  have hfv := ev_ok h3 f
  rw [he.ev hf] at hfv
  simp only [VR, VRs, FR] at hfv
  obtain ⟨f', F, C0, e1, rfl, rfl, e4⟩ := hfv
  subst e1
  have hxv := ev_ok h3 (.tmp tx)
  rw [he.ev (x := .tmp tx) hx] at hxv
  obtain ⟨B, C, hxe, hV⟩ := own_at p.hr hg hn hxv
  obtain ⟨_, hH, hB, hlen, hnC⟩ := Good.texts (ss' := ss) (m := 0) (os := #[]) p.hr p.wf hg hV hn rfl rfl
  have hcalls := hk B C ss w hH (by omega) (by omega)
  rw [hlen] at hcalls
  have hnm : fn.name ≠ "runtime.NumGoroutine" := by simpa using E.k.names g fn hfn
  obtain ⟨body, hbody⟩ := Option.isSome_iff_exists.1 hb
  have hrun : (execOp a.eval o).run X.c.P w = .ok (.enter g #[.slice (some ⟨B, 0, none⟩) n C]) w := by
    have hcall : (callFunc g #[.slice (some ⟨B, 0, none⟩) n C]).run X.c.P w = .ok (.enter g #[.slice (some ⟨B, 0, none⟩) n C]) w := by simp [callFunc, hfn, hnm, hbody, Sem.run]
    rw [← hcall]
    simp only [execOp, ho, resolve, hc, e4, Deferred.ofValue, Sem.run_bind, Sem.run_pure, Result.andThen_ok, invoke]
    congr 2
    apply Array.ext'
    simp [ha, hxe]
  rw [hrun]
  refine uponIn_of_next (R := fun z w' => next (a.put o.dst z) w') (nx := .enter g _) ?_ fun z w' r => r
  refine (callsIn_wide.2 hcalls).mono fun e w' ⟨hz, q, hw'⟩ => ?_
  subst hz
  have hcl := compact_le ss
  have hl2 : (Lib.compact ss ++ List.replicate (ss.length - (Lib.compact ss).length) []).length = ss.length := by simp; omega
  rw [hlen] at hl2
  have gd := (Good.texts (ss' := Lib.compact ss ++ List.replicate (n - (Lib.compact ss).length) []) (w' := w') (m := q) (os := #[]) p.hr p.wf hg hV hn (by rw [hlen] at hcl; simp; omega) (by rw [hw', grow_empty])).1
  have p2 := p.good gd (ArrKeep.arr hg)
  obtain ⟨ρ2, e2, r1, r2, r3, r4, r5⟩ := Chg.frz (X := X) (sz := sz) (rd := rd) (m := m) tx hx (by rw [Heap.get_put, if_pos rfl]) (hi _) hL hm hrd hG ro ρ w' e0 a h1 p2 h3 he h4
  have hres : VR ρ2 (.rsl (Lib.compact ss).length 1 (strC (Lib.compact ss))) (.slice (some ⟨B, 0, none⟩) (Lib.compact ss).length C) := by
    have q1 := ev_ok r3 (.tmp tx)
    rw [r4.ev (x := .tmp tx) (v := .rsl n 1 (strC (Lib.compact ss ++ List.replicate (n - (Lib.compact ss).length) []))) (by show lkO _ tx = _; unfold lkO; rw [Nat.beq_refl]), hxe] at q1
    simp only [VR] at q1 ⊢
    refine ⟨by simp [strC], ?_⟩
    obtain ⟨_, ⟨q2, _⟩ | ⟨B2, o2, C2, L2, q2, q3, q4, q5⟩⟩ := q1
    · exact absurd q2 hn
    · cases q2
      refine .inr ⟨B, 0, C, L2.take (Lib.compact ss).length, rfl, by omega, ?_, fun j x hj => ?_⟩
      · rw [VRs.iff] at q4 ⊢
        have e3 : (strC (Lib.compact ss)).length = (Lib.compact ss).length := by simp [strC]
        have e4 : L2.length = n := by rw [← q4.1]; simp only [strC, List.length_map]; exact hl2
        refine ⟨by rw [e3, List.length_take]; omega, fun i u v hu hv => ?_⟩
        have hi' : i < (Lib.compact ss).length := by
          obtain ⟨hh, _⟩ := List.getElem?_eq_some_iff.1 hu
          omega
        refine q4.2 i u v ?_ ?_
        · unfold strC at hu ⊢
          rw [List.map_append, List.getElem?_append_left (by simpa using hi')]
          exact hu
        · rw [List.getElem?_take, if_pos hi'] at hv; exact hv
      · rw [List.getElem?_take] at hj
        split at hj
        · exact q5 j x hj
        · cases hj
  rw [hlen] at nx
  exact h5 _ ⟨e2, _, m⟩ _ w' ρ2 ⟨e2.set und d _, by rw [hd]; exact setD_some hs, (nx _ rfl).run _ (r4.set d _)⟩ r1 r2 r3 r5 hres⟩
end
end Go.Px
end
/- PxTy -/
section
set_option linter.unusedVariables false
set_option linter.unusedSimpArgs false
namespace Go.Px
theorem less_bytes : ∀ (x y : List UInt8), Op.bytesLess x y = decide (x < y)
  | _, [] => by simp [Op.bytesLess]
  | [], _ :: _ => by simp [Op.bytesLess]
  | a :: x, b :: y => by
    rw [Op.bytesLess, less_bytes x y]
    by_cases h : a < b
    · simp [h, List.cons_lt_cons_iff]
    · by_cases h2 : a = b
      · subst h2; simp [List.cons_lt_cons_iff]
      · simp [h, h2, List.cons_lt_cons_iff]
theorem strLt_sA (a b : List UInt8) : strLt (a.map UInt8.toNat) (b.map UInt8.toNat) = bd (a < b) := by
  rw [strLt_eq]
  have h1 : ∀ l : List UInt8, (l.map UInt8.toNat).map UInt8.ofNat = l := fun l => by
    rw [List.map_map]
    have : (UInt8.ofNat ∘ UInt8.toNat) = id := by funext x; simp
    rw [this, List.map_id]
  rw [h1, h1, less_bytes, bd_dec]
section
variable {X : Cx} {o : Oper} {L : List (Nat × AV)} {h : Heap}
end
end Go.Px
end
/- PxTz -/
section
set_option linter.unusedVariables false
set_option linter.unusedSimpArgs false
namespace Go.Px

/-! ## numbers renamed -/
def renF (f : Nat → Nat) (g : Fn) : Fn := match g with | .yield l => .yield (f l) | g => g
mutual
def ren (f : Nat → Nat) : AV → AV
  | .bad => .bad
  | .bool b => .bool b
  | .int k n => .int k n
  | .str l => .str l
  | .nilptr => .nilptr
  | .ptr i o => .ptr (f i) o
  | .nilsl => .nilsl
  | .sl i o l c z => .sl (f i) o l c z
  | .esl i => .esl (f i)
  | .nilmp => .nilmp
  | .mp i => .mp (f i)
  | .nilfn => .nilfn
  | .fn g a b => .fn (renF f g) (rens f a) (rens f b)
  | .nilifc => .nilifc
  | .ifc t a => .ifc t (ren f a)
  | .agg l => .agg (rens f l)
  | .tup l => .tup (rens f l)
  | .gptr g o => .gptr g o
  | .anyb => .anyb
  | .big n => .big n
  | .low n => .low n
  | .anyi => .anyi
  | .rsl n z l => .rsl n z l
  | .rptr l => .rptr l
  | .csl => .csl
  | .own i n z => .own (f i) n z
  | .optr i n o => .optr (f i) n o
def rens (f : Nat → Nat) : List AV → List AV
  | [] => []
  | a :: l => ren f a :: rens f l
end
def pull (ρ : Map) (f : Nat → Nat) : Map := ⟨fun j => ρ (f j), ρ.F, fun j n => ρ.V (f j) n⟩
mutual
theorem vr_ren {ρ : Map} {f : Nat → Nat} : ∀ (a : AV) (v : Value), VR ρ (ren f a) v ↔ VR (pull ρ f) a v
  | .bad, _ => by simp only [ren, VR]
  | .bool b, _ => by simp only [ren, VR]
  | .int _ _, _ => by simp only [ren, VR]
  | .str l, _ => by simp only [ren, VR]
  | .nilptr, _ => by simp only [ren, VR]
  | .ptr i o, _ => by simp only [ren, VR]; exact Iff.rfl
  | .nilsl, _ => by simp only [ren, VR]
  | .sl i o l c z, _ => by simp only [ren, VR]; exact Iff.rfl
  | .esl i, _ => by simp only [ren, VR]; exact Iff.rfl
  | .nilmp, _ => by simp only [ren, VR]
  | .mp i, _ => by simp only [ren, VR]; exact Iff.rfl
  | .nilfn, _ => by simp only [ren, VR]
  | .fn g a b, v => by
    have ha := fun L => vrs_ren (ρ := ρ) (f := f) a L
    have hb := fun L => vrs_ren (ρ := ρ) (f := f) b L
    have hg : ∀ f', FR ρ (renF f g) f' ↔ FR (pull ρ f) g f' := fun f' => by
      cases g <;> simp only [renF, FR] <;> exact Iff.rfl
    simp only [ren, VR, ha, hb, hg]
  | .nilifc, _ => by simp only [ren, VR]
  | .ifc t a, v => by
    have ha := fun x => vr_ren (ρ := ρ) (f := f) a x
    simp only [ren, VR, ha]
  | .agg l, v => by
    have ha := fun L => vrs_ren (ρ := ρ) (f := f) l L
    simp only [ren, VR, ha]
  | .tup l, v => by
    have ha := fun L => vrs_ren (ρ := ρ) (f := f) l L
    simp only [ren, VR, ha]
  | .gptr g o, _ => by simp only [ren, VR]
  | .anyb, _ => by simp only [ren, VR]
  | .big n, _ => by simp only [ren, VR]
  | .low n, _ => by simp only [ren, VR]
  | .anyi, _ => by simp only [ren, VR]
  | .rsl n z l, _ => by simp only [ren, VR]; exact Iff.rfl
  | .rptr l, _ => by simp only [ren, VR]; exact Iff.rfl
  | .csl, _ => by simp only [ren, VR]
  | .own i m z, _ => by simp only [ren, VR]; exact Iff.rfl
  | .optr i m o, _ => by simp only [ren, VR]; exact Iff.rfl
theorem vrs_ren {ρ : Map} {f : Nat → Nat} : ∀ (l : List AV) (L : List Value), VRs ρ (rens f l) L ↔ VRs (pull ρ f) l L
  | [], _ => by simp only [rens, VRs]
  | a :: l, L => by
    have ha := fun x => vr_ren (ρ := ρ) (f := f) a x
    have hl := fun M => vrs_ren (ρ := ρ) (f := f) l M
    simp only [rens, VRs, ha, hl]
end

/-! ## others' numbers: those handed over in their numbers, those of their own -/
/-- handed over, and then as many as come new -/
def sg (is : List Nat) (b j : Nat) : Nat := match is with
  | [] => b + j
  | i :: r => (match j with | 0 => i | j + 1 => sg r b j)
def tau : List Nat → Nat → Nat → Option Nat
  | [], b, i => if b ≤ i then some (i - b) else none
  | x :: r, b, i => if i = x then some 0 else (tau r b i).map (· + 1)
def apart (b : Nat) : List Nat → Bool
  | [] => true
  | i :: r => (match Nat.ble (i + 1) b with | true => (match inL r i with | false => apart b r | true => false) | false => false)
theorem inL_of {xs : List Nat} {i : Nat} (h : i ∈ xs) : inL xs i = true := by
  induction xs with
  | nil => cases h
  | cons x r ih =>
    unfold inL
    rcases List.mem_cons.1 h with rfl | h
    · simp only [Nat.beq_refl]
    · split
      · rfl
      · exact ih h
theorem apart_cons {b i : Nat} {r : List Nat} (h : apart b (i :: r) = true) : i < b ∧ i ∉ r ∧ apart b r = true := by
  simp only [apart] at h
  split at h
  · rename_i h1
    split at h
    · rename_i h2
      refine ⟨bleT h1, ?_, h⟩
      intro q
      rw [inL_of q] at h2
      cases h2
    · cases h
  · cases h
theorem sg_in : ∀ (is : List Nat) (b j : Nat), sg is b j ∈ is ∨ b ≤ sg is b j
  | [], b, j => .inr (by simp only [sg]; omega)
  | i :: r, b, 0 => .inl (by simp only [sg]; exact List.mem_cons_self)
  | i :: r, b, j + 1 => by
    simp only [sg]
    rcases sg_in r b j with h | h
    · exact .inl (List.mem_cons_of_mem _ h)
    · exact .inr h
theorem tau_sg : ∀ {is : List Nat} {b : Nat} (j : Nat), apart b is = true → tau is b (sg is b j) = some j
  | [], b, j, _ => by
    have e : sg [] b j = b + j := rfl
    rw [e]
    simp only [tau]
    rw [if_pos (by omega)]; congr 1; omega
  | i :: r, b, 0, _ => by
    have e : sg (i :: r) b 0 = i := rfl
    rw [e]
    simp only [tau, if_pos]
  | i :: r, b, j + 1, h => by
    obtain ⟨h1, h2, h3⟩ := apart_cons h
    have e : sg (i :: r) b (j + 1) = sg r b j := rfl
    rw [e]
    simp only [tau]
    rw [if_neg (fun e => by rcases sg_in r b j with q | q; exact h2 (e ▸ q); omega), tau_sg j h3]; rfl

/-! ## what is handed over -/
inductive MB where
  | no
  | row (t : TypeId) (cs : List AV)
  | arr (t : TypeId) (z n : Nat) (l : List AV)
def MB.ab : MB → AB
  | .no => .none
  | .row t cs => .row ⟨t, cs.length, .leaf, cs, none⟩
  | .arr t z n l => .arr t z n l
def MB.ren (f : Nat → Nat) : MB → MB
  | .no => .no
  | .row t cs => .row t (rens f cs)
  | .arr t z n l => .arr t z n l
def MB.low (k : Nat) : MB → Bool
  | .row _ cs => lowsB k cs
  | _ => true
def lowM (k : Nat) : List MB → Bool
  | [] => true
  | b :: r => (match b.low k with | true => lowM k r | false => false)
theorem lowM_at {k : Nat} : ∀ {bs : List MB} {j : Nat} {b : MB}, lowM k bs = true → bs[j]? = some b → b.low k = true
  | [], j, b, _, h => by simp at h
  | x :: r, j, b, h, e => by
    simp only [lowM] at h
    split at h
    · rename_i hx
      cases j with
      | zero => simp at e; subst e; exact hx
      | succ j => exact lowM_at (bs := r) h (by simpa using e)
    · cases h
def MbAt (h : Heap) (i : Nat) (b : MB) : Prop :=
  match b with
  | .no => True
  | .row t cs => ∃ r, h.get i = .row r ∧ r.t = t ∧ r.n = cs.length ∧ r.root = none ∧ r.read 0 r.n = cs
  | .arr t z n l => h.get i = .arr t z n l
def MB.live : MB → Bool | .no => false | _ => true
def BlksAt (h : Heap) (f : Nat → Nat) : List Nat → List MB → Prop
  | [], [] => True
  | i :: is, b :: bs => (b.live = true ∧ MbAt h i (b.ren f)) ∧ BlksAt h f is bs
  | _, _ => False
/-- pointers to what is handed over -/
def ptrs : List MB → Nat → List AV
  | [], _ => []
  | .row _ _ :: r, j => .ptr j 0 :: ptrs r (j + 1)
  | .arr _ _ _ _ :: r, j => ptrs r (j + 1)
  | .no :: r, j => ptrs r (j + 1)
/-- numbers of arrays, and of rows, that are handed over -/
def arrI : List Nat → List MB → List Nat
  | i :: is, .row _ _ :: bs => arrI is bs
  | i :: is, _ :: bs => i :: arrI is bs
  | _, _ => []
def rowI : List Nat → List MB → List Nat
  | i :: is, .row _ _ :: bs => i :: rowI is bs
  | i :: is, _ :: bs => rowI is bs
  | _, _ => []

/-! ## what others hold stays -/
def nin (A : List Nat) (i : Nat) : Bool := match inL A i with | true => false | false => true
def nin2 (A R : List Nat) (i : Nat) : Bool := match inL A i with | true => false | false => nin R i
theorem nin_f {A : List Nat} {i : Nat} (h : nin A i = true) : inL A i = false := by
  unfold nin at h
  split at h
  · cases h
  · assumption
theorem nin2_f {A R : List Nat} {i : Nat} (h : nin2 A R i = true) : inL A i = false ∧ inL R i = false := by
  unfold nin2 at h
  split at h
  · cases h
  · exact ⟨by assumption, nin_f h⟩
mutual
def okB (A R : List Nat) : AV → Bool
  | .ptr i _ => nin A i
  | .sl i _ _ _ _ => nin2 A R i
  | .esl i => nin2 A R i
  | .mp i => nin2 A R i
  | .own i _ _ => nin2 A R i
  | .optr i _ _ => nin2 A R i
  | .fn f a b => (match (match f with | .yield l => nin2 A R l | _ => true) with | true => (match oksB A R a with | true => oksB A R b | false => false) | false => false)
  | .ifc _ a => okB A R a
  | .agg l => oksB A R l
  | .tup l => oksB A R l
  | _ => true
def oksB (A R : List Nat) : List AV → Bool
  | [] => true
  | a :: l => (match okB A R a with | true => oksB A R l | false => false)
end
structure SubM (A R : List Nat) (ρ σ : Map) : Prop where
  m : ∀ i p, inL A i = false → inL R i = false → ρ i = some p → σ i = some p
  r : ∀ i B N, inL A i = false → inL R i = true → ρ i = some (B, N) → ∃ N', σ i = some (B, N')
  F : ∀ (b j : Nat) (x : Value), (ρ.F b)[j]? = some x → (σ.F b)[j]? = some x
  V : ∀ i n v, inL A i = false → inL R i = false → ρ.V i n = some v → σ.V i n = some v
theorem SubM.d {A R : List Nat} {ρ σ : Map} (h : SubM A R ρ σ) : Sub ρ.d σ.d := ⟨(fun _ _ e => by cases e), h.F, (fun _ _ _ e => by cases e)⟩
theorem SubM.fz {A R : List Nat} {ρ σ : Map} (h : SubM A R ρ σ) {B o : Nat} {L : List Value} (q : Fz ρ B o L) : Fz σ B o L := fun j x e => h.F B _ x (q j x e)
mutual
theorem okB_ok {A R : List Nat} {ρ σ : Map} (s : SubM A R ρ σ) : ∀ (a : AV) {v : Value}, okB A R a = true → VR ρ a v → VR σ a v
  | .bad, _, _, _ => by simp [VR]
  | .bool b, _, _, q => by simpa [VR] using q
  | .int _ _, _, _, q => by simpa [VR] using q
  | .str l, _, _, q => by simpa [VR] using q
  | .nilptr, _, _, q => by simpa [VR] using q
  | .ptr i o, v, h, q => by
    simp only [okB] at h
    simp only [VR] at q ⊢
    obtain ⟨B, N, e, r⟩ := q
    cases hr : inL R i with
    | true => obtain ⟨N', e'⟩ := s.r i B N (nin_f h) hr e; exact ⟨B, N', e', r⟩
    | false => exact ⟨B, N, s.m i _ (nin_f h) hr e, r⟩
  | .nilsl, _, _, q => by simpa [VR] using q
  | .sl i o l c z, v, h, q => by
    simp only [okB] at h
    simp only [VR] at q ⊢
    obtain ⟨B, N, C, e, r⟩ := q; exact ⟨B, N, C, s.m i _ (nin2_f h).1 (nin2_f h).2 e, r⟩
  | .esl i, v, h, q => by
    simp only [okB] at h
    simp only [VR] at q ⊢
    obtain ⟨B, N, o, C, e, r⟩ := q; exact ⟨B, N, o, C, s.m i _ (nin2_f h).1 (nin2_f h).2 e, r⟩
  | .nilmp, _, _, q => by simpa [VR] using q
  | .mp i, v, h, q => by
    simp only [okB] at h
    simp only [VR] at q ⊢
    obtain ⟨B, N, e, r⟩ := q; exact ⟨B, N, s.m i _ (nin2_f h).1 (nin2_f h).2 e, r⟩
  | .nilfn, _, _, q => by simpa [VR] using q
  | .fn f a b, v, h, q => by
    have h' := h
    simp only [okB] at h'
    split at h'
    · rename_i hf
      split at h'
      · rename_i ha
        simp only [VR] at q ⊢
        obtain ⟨f', F, C, e1, e2, e3, e4⟩ := q
        refine ⟨f', F, C, ?_, oksB_ok s a ha e2, oksB_ok s b h' e3, e4⟩
        cases f <;> simp only [FR] at e1 ⊢
        all_goals first | exact e1 | (obtain ⟨B, N, e, r⟩ := e1; exact ⟨B, N, s.m _ _ (nin2_f hf).1 (nin2_f hf).2 e, r⟩)
      · cases h'
    · cases h'
  | .nilifc, _, _, q => by simpa [VR] using q
  | .ifc t a, v, h, q => by
    simp only [okB] at h
    simp only [VR] at q ⊢
    obtain ⟨x, e, r⟩ := q; exact ⟨x, okB_ok s a h e, r⟩
  | .agg l, v, h, q => by
    simp only [okB] at h
    simp only [VR] at q ⊢
    obtain ⟨x, e, r⟩ := q; exact ⟨x, oksB_ok s l h e, r⟩
  | .tup l, v, h, q => by
    simp only [okB] at h
    simp only [VR] at q ⊢
    obtain ⟨x, e, r⟩ := q; exact ⟨x, oksB_ok s l h e, r⟩
  | .gptr g o, _, _, q => by simpa [VR] using q
  | .anyb, _, _, q => by simpa [VR] using q
  | .big n, _, _, q => by simpa [VR] using q
  | .low n, _, _, q => by simpa [VR] using q
  | .anyi, _, _, q => by simpa [VR] using q
  | .rsl n z l, v, h, q => by
    simp only [VR] at q ⊢
    obtain ⟨h0, k | ⟨B, o, C, L, e1, e2, e3, e4⟩⟩ := q
    · exact ⟨h0, .inl k⟩
    · exact ⟨h0, .inr ⟨B, o, C, L, e1, e2, VRs.mono s.d l e3, s.fz e4⟩⟩
  | .rptr l, v, h, q => by
    simp only [VR] at q ⊢
    obtain ⟨B, o, L, e1, e3, e4⟩ := q
    exact ⟨B, o, L, e1, VRs.mono s.d l e3, s.fz e4⟩
  | .csl, _, _, q => by simpa [VR] using q
  | .own i m z, v, h, q => by
    simp only [okB] at h
    simp only [VR] at q ⊢; exact ⟨s.V _ _ _ (nin2_f h).1 (nin2_f h).2 q.1, q.2⟩
  | .optr i m o, v, h, q => by
    simp only [okB] at h
    simp only [VR] at q ⊢
    obtain ⟨B, C, e1, e2⟩ := q
    exact ⟨B, C, s.V _ _ _ (nin2_f h).1 (nin2_f h).2 e1, e2⟩
theorem oksB_ok {A R : List Nat} {ρ σ : Map} (s : SubM A R ρ σ) : ∀ (l : List AV) {L : List Value}, oksB A R l = true → VRs ρ l L → VRs σ l L
  | [], _, _, q => by simpa [VRs] using q
  | a :: l, L, h, q => by
    have h' := h
    simp only [oksB] at h'
    split at h'
    · rename_i ha
      simp only [VRs] at q ⊢
      obtain ⟨x, r, e1, e2, e3⟩ := q
      exact ⟨x, r, okB_ok s a ha e1, oksB_ok s l h' e2, e3⟩
    · cases h'
end
end Go.Px
end
/- PxVa -/
section
set_option linter.unusedVariables false
set_option linter.unusedSimpArgs false
namespace Go.Px

theorem Row.read_get (r : Row) (n j : Nat) (h : j < n) : (r.read 0 n).getD j .bad = r.get j := by
  rw [Row.read_eq, List.getD_eq_getElem?_getD, Row.readS_at r n 0 j h, Nat.zero_add]; rfl
theorem hq_get (N : Nat) (bs : List AB) (i : Nat) : (hq N bs).get i = (bs[i]?).getD .none := by
  show (T.put AB.none bs .leaf 0).get .none i = _
  rw [get_put]
  simp
theorem hq_ab (N : Nat) (bs : List MB) (i : Nat) : (hq N (bs.map MB.ab)).get i = ((bs[i]?).map MB.ab).getD .none := by
  rw [hq_get, List.getElem?_map]
/-- a block out of such a heap -/
theorem hq_mb {N : Nat} {bs : List MB} {i : Nat} {b : AB} (h : (hq N (bs.map MB.ab)).get i = b) (hn : b ≠ .none) : ∃ x, bs[i]? = some x ∧ x.ab = b := by
  rw [hq_ab] at h
  cases e : bs[i]? with
  | none => rw [e] at h; exact absurd h.symm hn
  | some x => rw [e] at h; exact ⟨x, rfl, h⟩
theorem hq_wf {N : Nat} {bs : List MB} (hN : bs.length = N) : WF (hq N (bs.map MB.ab)) := by
  refine ⟨fun i hi => ?_, fun i r q a b => ?_, fun i r q t a b c => ?_, fun q _ => get_leaf none q⟩
  · have hi : N ≤ i := hi
    rw [hq_ab, List.getElem?_eq_none (by omega)]; rfl
  · obtain ⟨x, x1, x2⟩ := hq_mb a (by simp)
    cases x <;> simp only [MB.ab] at x2 <;> cases x2
    cases b
  · obtain ⟨x, x1, x2⟩ := hq_mb a (by simp)
    cases x <;> simp only [MB.ab] at x2 <;> cases x2
    cases b
theorem hq_okm {N : Nat} {bs : List MB} {i : Nat} (h : (hq N (bs.map MB.ab)).ok i) : ∃ x, bs[i]? = some x ∧ (hq N (bs.map MB.ab)).get i = x.ab ∧ x.live = true := by
  have hne : (hq N (bs.map MB.ab)).get i ≠ .none := fun q => by unfold Heap.ok at h; rw [q] at h; exact h
  obtain ⟨x, x1, x2⟩ := hq_mb (b := (hq N (bs.map MB.ab)).get i) rfl hne
  refine ⟨x, x1, x2.symm, ?_⟩
  cases x with
  | no => exact absurd x2.symm hne
  | row t cs => rfl
  | arr t z n l => rfl

/-- which blocks those are -/
def opnOf (ρ : Map) (B : Nat) : Prop := ∃ j N, ρ j = some (B, N)
theorem MbAt.okk {h : Heap} {i : Nat} {b : MB} (hl : b.live = true) (hb : MbAt h i b) : h.ok i := by
  cases b with
  | no => cases hl
  | row t cs =>
    obtain ⟨r, r1, _, _, r4, _⟩ := hb
    unfold Heap.ok; rw [r1]; simp only []; rw [Heap.row_of r1, r4]; rfl
  | arr t z n l =>
    have hb : h.get i = .arr t z n l := hb
    unfold Heap.ok; rw [hb]; trivial
theorem MbAt.noroot {h : Heap} {i : Nat} {b : MB} (hl : b.live = true) (hb : MbAt h i b) {r : Row} (e : h.get i = .row r) : r.root = none := by
  cases b with
  | no => cases hl
  | row t cs =>
    obtain ⟨r', r1, _, _, r4, _⟩ := hb
    rw [r1] at e; cases e; exact r4
  | arr t z n l =>
    have hb : h.get i = .arr t z n l := hb
    rw [hb] at e; cases e
theorem MbAt.nogl {h : Heap} {i : Nat} {b : MB} (hl : b.live = true) (hb : MbAt h i b) {r : Row} : h.get i ≠ .gl r := by
  cases b with
  | no => cases hl
  | row t cs =>
    obtain ⟨r', r1, _⟩ := hb
    rw [r1]; exact fun e => by cases e
  | arr t z n l =>
    have hb : h.get i = .arr t z n l := hb
    rw [hb]; exact fun e => by cases e

section
variable {X : Cx} {ρ : Map} {h : Heap} {w : World} (p : PI X ρ h w) {is : List Nat} {bs : List MB}
include p

/-- a caller's numbers, behind a call -/
def outMap (ρ ρ' : Map) (is : List Nat) (b k : Nat) : Map :=
  ⟨fun i => (match tau is b i with | some j => cutN ρ' k j | none => ρ i), ρ'.F, fun i n => (match tau is b i with | some j => (cutN ρ' k).V j n | none => ρ.V i n)⟩
omit p in
theorem outMap_m {ρ ρ' : Map} {is : List Nat} {b k i j : Nat} (e : tau is b i = some j) : outMap ρ ρ' is b k i = cutN ρ' k j := by unfold outMap; simp only [e]
omit p in
theorem outMap_n {ρ ρ' : Map} {is : List Nat} {b k i : Nat} (e : tau is b i = none) : outMap ρ ρ' is b k i = ρ i := by unfold outMap; simp only [e]
omit p in
theorem outMap_V {ρ ρ' : Map} {is : List Nat} {b k i j : Nat} (e : tau is b i = some j) (n : Nat) : (outMap ρ ρ' is b k).V i n = (cutN ρ' k).V j n := by unfold outMap; simp only [e]
omit p in
theorem outMap_W {ρ ρ' : Map} {is : List Nat} {b k i : Nat} (e : tau is b i = none) (n : Nat) : (outMap ρ ρ' is b k).V i n = ρ.V i n := by unfold outMap; simp only [e]
omit p in
theorem outMap_ren {ρ ρ' : Map} {is : List Nat} {b k : Nat} (hap : apart b is = true) {v : AV} {z : Value} (hl : lowB k v = true) (h : VR ρ' v z) : VR (outMap ρ ρ' is b k) (ren (sg is b) v) z := by
  refine (vr_ren _ _).2 (VR.mono (ρ := cutN ρ' k) (σ := pull (outMap ρ ρ' is b k) (sg is b)) ⟨fun i q e => ?_, fun _ _ _ e => e, fun i n q e => ?_⟩ v (low_ok v hl h))
  · show outMap ρ ρ' is b k (sg is b i) = some q
    rw [outMap_m (tau_sg i hap)]; exact e
  · show (outMap ρ ρ' is b k).V (sg is b i) n = some q
    rw [outMap_V (tau_sg i hap)]; exact e
omit p in
theorem outMap_rens {ρ ρ' : Map} {is : List Nat} {b k : Nat} (hap : apart b is = true) : ∀ {l : List AV} {L : List Value}, lowsB k l = true → VRs ρ' l L → VRs (outMap ρ ρ' is b k) (rens (sg is b) l) L
  | [], L, _, h => by simpa [rens, VRs] using h
  | a :: l, L, hl, h => by
    simp only [lowsB] at hl
    split at hl
    · rename_i ha
      simp only [rens, VRs] at h ⊢
      obtain ⟨x, r, e1, e2, e3⟩ := h
      exact ⟨x, r, outMap_ren hap ha e1, outMap_rens hap hl e2, e3⟩
    · cases hl
end
end Go.Px
end
/- PxVb -/
section
set_option linter.unusedVariables false
set_option linter.unusedSimpArgs false
namespace Go.Px

/-- a pointer to this is among these -/
def hasP (j : Nat) : List AV → Bool
  | [] => false
  | .ptr i _ :: r => (match Nat.beq i j with | true => true | false => hasP j r)
  | _ :: r => hasP j r
/-- each row that is handed over is pointed to: by an argument, or out of a row ahead of it -/
def evidB : List AV → List MB → Nat → Bool
  | _, [], _ => true
  | acc, .row _ cs :: r, j => (match hasP j acc with | true => evidB (cs ++ acc) r (j + 1) | false => false)
  | acc, _ :: r, j => evidB acc r (j + 1)
/-- A CALL OF f: these handed over, at these arguments, it answers this, and leaves these. -/
structure KM (c : Ctx) (f : FuncId) (bs : List MB) (args : List AV) (v : AV) (bs' : List MB) : Prop where
  le : bs.length ≤ bs'.length
  lo : lowM bs.length bs = true
  la : lowsB bs.length args = true
  lm : lowM bs'.length bs' = true
  lv : lowB bs'.length v = true
  ev : evidB args bs 0 = true
  run : ∀ (ρ : Map) (w : World) (A gx : List Value), PI ⟨c, w, ρ.F, opnOf ρ, none, none, [], ptrs bs 0, gx⟩ ρ (hq bs.length (bs.map MB.ab)) w → VRs ρ args A →
    ∃ nx w1, (callFunc f A.toArray).run c.P w = .ok nx w1 ∧ NextOk c.P (fun z w' => ∃ ρ', PI ⟨c, w, ρ.F, opnOf ρ, none, none, [], ptrs bs 0, gx⟩ ρ' (hq bs'.length (bs'.map MB.ab)) w' ∧ VR ρ' v z) nx w1

/-! ## out of a body -/
def MbsAt (h : Heap) : List MB → Nat → Prop
  | [], _ => True
  | b :: r, i => MbAt h i b ∧ MbsAt h r (i + 1)
theorem MbsAt.at_ {h : Heap} : ∀ {bs : List MB} {n j : Nat} {b : MB}, MbsAt h bs n → bs[j]? = some b → MbAt h (n + j) b
  | [], n, j, b, _, e => by simp at e
  | x :: r, n, 0, b, ⟨a, _⟩, e => by simp at e; subst e; exact a
  | x :: r, n, j + 1, b, ⟨_, a⟩, e => by
    have := a.at_ (j := j) (b := b) (by simpa using e)
    rwa [show n + 1 + j = n + (j + 1) by omega] at this
/-- what is left, in the order in which it was said -/
theorem PI.canon {X : Cx} {ρ : Map} {h : Heap} {w : World} (p : PI X ρ h w) (hg : ∀ i r, X.c.g0.get i ≠ .gl r) {bs : List MB} (hb : MbsAt h bs 0) (hlow : lowM bs.length bs = true) (hG : lowsB bs.length X.gv = true) (hz : X.g = none) :
    PI X (cutN ρ bs.length) (hq bs.length (bs.map MB.ab)) w := by
  have hcut : ∀ i q, cutN ρ bs.length i = some q → i < bs.length ∧ ρ i = some q := fun i q e => by
    by_cases hi : i < bs.length
    · rw [cutN_m hi] at e; exact ⟨hi, e⟩
    · rw [cutN_n hi] at e; cases e
  have hat : ∀ {i b}, bs[i]? = some b → MbAt h i b := fun {i b} e => by have := hb.at_ e; rwa [Nat.zero_add] at this
  refine ⟨⟨fun i B N e => p.hr.lt _ B N (hcut i _ e).2, fun i B N e q => ?_, fun i j B N M hij e1 e2 k1 k2 => ?_, fun i r q => ?_, p.hr.fz, fun i B N e q => ?_, fun i t z n l q => ?_⟩, hq_wf rfl, ⟨fun i hi => cutN_n (show ¬ i < bs.length from Nat.not_lt.2 hi), fun i r q => absurd q (hg i r)⟩, fun i hi n => if_neg (show ¬ i < bs.length from Nat.not_lt.2 hi), fun i t z n l q m' hm' => ?_, p.ext, fun i B N e => p.mine i B N (hcut i _ e).2, p.sub, p.old, lows_ok _ hG p.keep, fun G e => by rw [hz] at e; cases e⟩
  · obtain ⟨hi, e'⟩ := hcut i _ e
    obtain ⟨x, x1, x2, x3⟩ := hq_okm q
    have y2 := hat x1
    have hr := p.hr.ok _ B N e' (MbAt.okk x3 y2)
    rw [x2]
    cases x with
    | no => trivial
    | arr t z n l =>
      have y2 : h.get i = .arr t z n l := y2
      rw [y2] at hr; exact hr
    | row t cs =>
      obtain ⟨r, r1, r2, r3, r4, r5⟩ := y2
      rw [r1] at hr
      have hr : RowOk ρ r B N w := hr
      refine ⟨by rw [← r2]; exact hr.1, by rw [← r3]; exact hr.2.1, hr.2.2.1, fun j hj => ?_⟩
      have hj : j < cs.length := hj
      obtain ⟨v, v1, v2⟩ := hr.2.2.2 j (by omega)
      refine ⟨v, v1, ?_⟩
      rw [row_at_i hj]
      have e5 : r.get j = cs.getD j .bad := by rw [← r5, Row.read_get r r.n j (by omega)]
      rw [e5] at v2
      exact low_ok _ (lows_at (lowM_at hlow x1) hj) v2
  · obtain ⟨x, x1, x2, x3⟩ := hq_okm k1
    obtain ⟨y, y1, y2, y3⟩ := hq_okm k2
    obtain ⟨r, s, q, a, b, c, _⟩ := p.hr.inj _ _ B N M hij (hcut i _ e1).2 (hcut j _ e2).2 (MbAt.okk x3 (hat x1)) (MbAt.okk y3 (hat y1))
    rw [MbAt.noroot x3 (hat x1) a] at c; cases c
  · obtain ⟨x, x1, x2⟩ := hq_mb q (by simp)
    cases x <;> simp only [MB.ab] at x2 <;> cases x2
  · obtain ⟨x, x1, x2, x3⟩ := hq_okm q
    exact .inl (p.hr.F_row (hcut i _ e).2 (MbAt.okk x3 (hat x1)) (fun r => MbAt.nogl x3 (hat x1)))
  · obtain ⟨x, x1, x2⟩ := hq_mb q (by simp)
    cases x <;> simp only [MB.ab] at x2 <;> cases x2
    have y2 := hat x1
    have hi := (List.getElem?_eq_some_iff.1 x1).1
    obtain ⟨h0, ⟨a, o, b⟩ | ⟨B, N, C, e1, e2, e3⟩⟩ := p.hr.av _ t z n l y2
    · exact ⟨h0, .inl ⟨a, o, (cutN_V hi _).trans b⟩⟩
    · exact ⟨h0, .inr ⟨B, N, C, (cutN_m hi).trans e1, (cutN_V hi _).trans e2, e3⟩⟩
  · obtain ⟨x, x1, x2⟩ := hq_mb q (by simp)
    cases x <;> simp only [MB.ab] at x2 <;> cases x2
    exact (cutN_V (List.getElem?_eq_some_iff.1 x1).1 _).trans (p.vu _ t z n l (hat x1) m' hm')

/-! ## at a call -/
section
variable {X : Cx} {tb : List (Nat × TE)} (E : Env X.c tb) {sz : Nat} {rd : Option Nat} {all : Array Oper} {o : Oper} {rest : List Oper} {k : List It} {L : List (Nat × AV)} {h : Heap} {m : List Nat} {Q : Post}
include E
end
end Go.Px
end
/- PxVc -/
section
set_option linter.unusedVariables false
set_option linter.unusedSimpArgs false
namespace Go.Px

/-- how it stands with those for whom one iterates, in these blocks -/
def GhW (X : Cx) (ρ : Map) (h : Heap) (w : World) (S : Nat → Prop) (Fo : Nat → List Value) : Prop := ∀ G, X.g = some G → ∀ t z n l, h.get 0 = .arr t z n l → G.J z S Fo w ∧ (∀ b, S b → b < w.heap.size) ∧ (∀ i B N, ρ i = some (B, N) → h.ok i → ¬ S B ∧ G.n0 ≤ B) ∧ ((∀ b, S b ∨ b < G.n0 → ρ.F b = Fo b) ∧ ∀ (b i : Nat) (x : Value), (Fo b)[i]? = some x → (ρ.F b)[i]? = some x) ∧ G.n0 ≤ w.heap.size ∧ S G.blk ∧ (∃ N, ρ 1 = some (G.blk, N)) ∧ (∀ b, S b → ¬ X.shut b) ∧ ∃ a, ρ.V 0 0 = some (.slice a 0 0)
theorem GhP.wit {X : Cx} {ρ : Map} {h : Heap} {w : World} (p : GhP X ρ h w) : ∃ S Fo, GhW X ρ h w S Fo ∧ (∀ b, S b → b < w.heap.size) ∧ ∀ b, S b → ¬ X.shut b := by
  cases hG : X.g with
  | none => exact ⟨fun _ => False, fun _ => [], (fun G e => by rw [hG] at e; cases e), fun _ q => q.elim, fun _ q => q.elim⟩
  | some G =>
    by_cases ha : ∃ t z n l, h.get 0 = .arr t z n l
    · obtain ⟨t, z, n, l, e⟩ := ha
      obtain ⟨S, Fo, s⟩ := p G hG t z n l e
      refine ⟨S, Fo, fun G' e1 t' z' n' l' e2 => ?_, s.2.1, s.2.2.2.2.2.2.2.1⟩
      rw [hG] at e1; cases e1
      rw [e] at e2; cases e2
      exact s
    · exact ⟨fun _ => False, fun _ => [], (fun G' e1 t z n l e2 => absurd ⟨t, z, n, l, e2⟩ ha), fun _ q => q.elim, fun _ q => q.elim⟩
theorem GhW.gh {X : Cx} {ρ : Map} {h : Heap} {w : World} {S : Nat → Prop} {Fo : Nat → List Value} (p : GhW X ρ h w S Fo) : GhP X ρ h w := fun G hG t z n l e => ⟨S, Fo, p G hG t z n l e⟩

theorem fo_nil {F F' : Nat → List Value} (h : ∀ (b i : Nat) (x : Value), (F b)[i]? = some x → (F' b)[i]? = some x) {b : Nat} (e : F' b = []) : F b = [] := by
  cases hl : F b with
  | nil => rfl
  | cons x r =>
    have := h b 0 x (by rw [hl]; rfl)
    rw [e] at this; simp at this
/-- the world goes on elsewhere -/
theorem PI.world {X : Cx} {ρ : Map} {h : Heap} {w w' : World} (p : PI X ρ h w) (hs : Same w w') {U : Nat → Prop} (hu : ∀ b, b < w.heap.size → U b → w'.heap[b]? = w.heap[b]?) (u1 : ∀ i B N, ρ i = some (B, N) → U B) (u2 : ∀ b, ρ.F b ≠ [] → U b) (u3 : ∀ b, b < X.w0.heap.size → U b) {S : Nat → Prop} {Fo : Nat → List Value} (g : GhW X ρ h w S Fo) (u4 : ∀ b, S b → U b) (u5 : ∀ G, X.g = some G → ∀ b, b < G.n0 → U b) : PI X ρ h w' ∧ GhW X ρ h w' S Fo := by
  have hgw : GhW X ρ h w' S Fo := fun G hG t z n l e => by
    obtain ⟨s1, s2, s3, s4, s5, s6, s7, s8⟩ := g G hG t z n l e
    refine ⟨G.stab z S Fo w w' s1 hs (fun b hb q => hu b hb (q.elim (u4 b) fun q => q.elim (u5 G hG b) fun q => u2 b fun e => q (fo_nil s4.2 e))), fun b q => Nat.lt_of_lt_of_le (s2 b q) hs.size, s3, s4, Nat.le_trans s5 hs.size, s6, s7, s8⟩
  refine ⟨⟨⟨fun i B N e => Nat.lt_of_lt_of_le (p.hr.lt i B N e) hs.size, fun i B N e q => ?_, p.hr.inj, p.hr.gl, fun B j x e => ?_, p.hr.sep, p.hr.av⟩, p.wf, p.fr, p.vf, p.vu, ⟨p.ext.1.trans hs, fun b hb => ?_⟩, p.mine, p.sub, p.old, p.keep, hgw.gh⟩, hgw⟩
  · exact (p.hr.ok i B N e q).block (hu B (p.hr.lt i B N e) (u1 i B N e))
  · have hne : ρ.F B ≠ [] := fun q => by rw [q] at e; simp at e
    have := p.hr.fz B j x e
    unfold World.cell? at this ⊢
    have hlt := p.hr.F_lt hne
    simp only [hu B hlt (u2 B hne)]
    exact this
  · rw [hu b (Nat.lt_of_lt_of_le hb.1 p.ext.1.size) (u3 b hb.1)]; exact p.ext.2 b hb
/-- another base -/
theorem PI.base {X : Cx} {ρ : Map} {h : Heap} {w : World} (p : PI X ρ h w) {S : Nat → Prop} {Fo : Nat → List Value} (g : GhW X ρ h w S Fo) (ro : Option Nat) (hid : List Nat) (gx : List Value) (gv : List AV) (hk : VRs ρ gv gx) {F : Nat → List Value} (hF : ∀ (b j : Nat) (x : Value), (ρ.F b)[j]? = some x → (F b)[j]? = some x) (hz : FzW F w) (hsep : ∀ i B N, ρ i = some (B, N) → F B = ρ.F B) (hS : ∀ b, S b → F b = ρ.F b) (hn : ∀ G, X.g = some G → ∀ b, b < G.n0 → F b = ρ.F b) :
    PI ⟨X.c, w, F, fun b => (∃ i N, ρ i = some (b, N)) ∨ S b, X.g, ro, hid, gv, gx⟩ ⟨ρ.m, F, ρ.V⟩ h w := by
  have hs : Sub ρ ⟨ρ.m, F, ρ.V⟩ := ⟨fun _ _ e => e, hF, fun _ _ _ e => e⟩
  refine ⟨⟨p.hr.lt, fun i B N e q => (p.hr.ok i B N e q).mono hs, p.hr.inj, p.hr.gl, hz, fun i B N e q => ?_, fun i t z n l q => (p.hr.av i t z n l q).mono hs⟩, p.wf, p.fr, p.vf, p.vu, ⟨Same.refl w, fun _ _ => rfl⟩, fun i B N e hsh => hsh.2 (.inl ⟨i, N, e⟩), fun _ _ _ e => e, fun _ _ => rfl, hk.mono hs, fun G hG t z n l e => ?_⟩
  · rcases p.hr.sep i B N e q with a | ⟨r, a⟩
    · exact .inl ((hsep i B N e).trans a)
    · exact .inr ⟨r, a⟩
  · obtain ⟨s1, s2, s3, s4, s5, s6, s7, s8⟩ := g G hG t z n l e
    exact ⟨S, Fo, s1, s2, s3, ⟨fun b q => (q.elim (hS b) (hn G hG b)).trans (s4.1 b q), fun b i x e => hF b i x (s4.2 b i x e)⟩, s5, s6, s7, (fun b q hsh => hsh.2 (.inr q)), s8.2⟩
/-- back from another base -/
theorem PI.rebase {X : Cx} {ρ : Map} {h : Heap} {w : World} (p : PI X ρ h w) {S : Nat → Prop} (hS : ∀ b, S b → ¬ X.shut b) {ro : Option Nat} {hid : List Nat} {gx : List Value} {gv : List AV} {F : Nat → List Value} (hF : ∀ (b j : Nat) (x : Value), (ρ.F b)[j]? = some x → (F b)[j]? = some x) (hold : ∀ b, X.shut b → F b = ρ.F b) {ρ' : Map} {h' : Heap} {w' : World}
    (q : PI ⟨X.c, w, F, fun b => (∃ i N, ρ i = some (b, N)) ∨ S b, X.g, ro, hid, gv, gx⟩ ρ' h' w') (hk : VRs ρ' X.gv X.gx) : PI X ρ' h' w' := by
  have key : ∀ b, X.shut b → Cx.shut ⟨X.c, w, F, fun b => (∃ i N, ρ i = some (b, N)) ∨ S b, X.g, ro, hid, gv, gx⟩ b := fun b hb =>
    ⟨Nat.lt_of_lt_of_le hb.1 p.ext.1.size, fun a => a.elim (fun ⟨i, N, e⟩ => p.mine i b N e hb) (fun a => hS b a hb)⟩
  refine ⟨q.hr, q.wf, q.fr, q.vf, q.vu, ⟨p.ext.1.trans q.ext.1, fun b hb => (q.ext.2 b (key b hb)).trans (p.ext.2 b hb)⟩, fun i B N e hb => q.mine i B N e (key B hb), fun b j x e => q.sub b j x (hF b j x (p.sub b j x e)), fun b hb => ((q.old b (key b hb)).trans (hold b hb)).trans (p.old b hb), hk, fun G hG t z n l e => ?_⟩
  obtain ⟨S', Fo, s1, s2, s3, s4, s5, s6, s7, s8⟩ := q.gh G hG t z n l e
  exact ⟨S', Fo, s1, s2, s3, s4, s5, s6, s7, (fun b a hb => s8.1 b a (key b hb)), s8.2⟩

/-- the same memory, said otherwise -/
def ChgE (X : Cx) (h h' : Heap) : Prop := ∀ ρ w, PI X ρ h w → ∃ ρ', PI X ρ' h' w
theorem ChgE.of {X : Cx} {h h' : Heap} (H : Chg X 0 none [] h [] h' []) : ChgE X h h' := fun ρ w p => by
  obtain ⟨ρ', e', _, p', _⟩ := H X.ro ρ w .leaf ⟨#[], X.hid.map colD⟩ rfl p ⟨rfl, fun t => by
    rw [get_leaf]
    have : (#[] : Array Value).getD t undef = undef := by simp
    rw [this]; exact und_ok ρ⟩ (fun t v e => by cases e) ⟨[], rfl, rfl⟩
  exact ⟨ρ', p'⟩
theorem ChgE.cut {X : Cx} {h : Heap} {N : Nat} (bs : List AB) (hN : bs.length = N) (hg : ∀ i r, X.c.g0.get i ≠ .gl r) (hn : Nat.ble N h.nxt = true) (hb : getsP h bs 0) (hbl : lowsP N bs) (hG : lowsB N X.gv = true := by rfl) (hz : X.g = none ∨ Nat.ble 2 N = true := by first | exact .inl rfl | exact .inr rfl) : ChgE X h (hq N bs) := by
  subst hN
  exact ChgE.of (Chg.cut bs hg trivial rfl hn hb hbl rfl rfl hG hz)

/-- A FUNCTION THAT ITERATES: whoever ranges over it goes round with these, unless they leave ahead of the end. -/
structure KIt (c : Ctx) (g : FuncId) (cap : List AV) (items : List (List AV)) : Prop where
  fn : ∃ fn, c.P.funcs[g]? = some fn ∧ fn.body.isSome = true
  run : ∀ (G : Gho c.P) (w : World) (C : List Value) (S : Nat → Prop) (F : Nat → List Value), G.items = items → G.n0 = w.heap.size → FzW F w → VRs (fzm F) cap C → S G.blk → G.J 0 S F w → (∀ b, S b → b < w.heap.size) →
    ∃ nx w1, (callFunc g (Value.func (.yield G.blk) #[] #[] :: C).toArray).run c.P w = .ok nx w1 ∧ NextOk c.P (fun z w' => Same w w' ∧ (∀ b, b < w.heap.size → ¬ S b → w'.heap[b]? = w.heap[b]?) ∧
      ∃ k S' F', (k = items.length ∨ k = items.length + 1) ∧ G.J k S' F' w') nx w1
/-- it has come to its end -/
def FinY (c : Ctx) (res : List ResultVar) (N : Nat) : Post := fun x s => (x = .normal ∨ x = .ret) ∧ ∃ h' vs, leave s.h s.m = some h' ∧ resA c h' s.e res = some vs ∧ ∃ t z n l, h'.get 0 = .arr t z n l ∧ (z = N ∨ z = N + 1)
theorem KIt.of {c : Ctx} (k : CtxOk c) (hg0 : ∀ i r, c.g0.get i ≠ .gl r) {f : FuncId} {fn : Func} {body : Code} (hf : c.P.funcs[f]? = some fn) (hb : fn.body = some body) {cap : List AV} {items : List (List AV)} (hlen : Nat.ble (cap.length + 1) fn.ntmps = true) 
    (H : ∀ w F opn (G : Gho c.P) gx, G.items = items → Go ⟨c, w, F, opn, some G, none, [], [], gx⟩ fn.ntmps none [.code body] (argsL (.fn (.yield 1) [] [] :: cap) 0) (hq 2 [.arr 0 0 0 [], .none]) [] (FinY c fn.results.toList items.length)) : KIt c f cap items := by
  refine ⟨⟨fn, hf, by rw [hb]; rfl⟩, fun G w C S F hit hn0 hfz hC hblk hJ hS => ?_⟩
  have hnm : fn.name ≠ "runtime.NumGoroutine" := by simpa using k.names f fn hf
  refine ⟨.enter f (Value.func (.yield G.blk) #[] #[] :: C).toArray, w, by simp [callFunc, hf, hnm, hb, Sem.run], ?_⟩
  refine callsIn_of_wp_marks hf hb trivial ?_
  let ρ : Map := ⟨fun i => if i = 1 then some (G.blk, 0) else none, F, fun i n => if i = 0 ∧ n = 0 then some (.slice none 0 0) else none⟩
  have r1 : ρ 1 = some (G.blk, 0) := rfl
  have r2 : ∀ {i B N}, ρ i = some (B, N) → i = 1 ∧ B = G.blk := fun {i B N} e => by
    by_cases hi : i = 1
    · subst hi; rw [r1] at e; cases e; exact ⟨rfl, rfl⟩
    · have : ρ i = none := if_neg hi
      rw [this] at e; cases e
  have g0 : (hq 2 [.arr 0 0 0 [], .none]).get 0 = .arr 0 0 0 [] := rfl
  have gN : ∀ i, i ≠ 0 → (hq 2 [.arr 0 0 0 [], .none]).get i = .none := fun i hi => by
    rw [hq_get]
    match i, hi with
    | 1, _ => rfl
    | i + 2, _ => simp
  have nok : ∀ {i B N}, ρ i = some (B, N) → ¬ (hq 2 [.arr 0 0 0 [], .none]).ok i := fun {i B N} e o => by
    obtain ⟨rfl, _⟩ := r2 e
    unfold Heap.ok at o; rw [gN 1 (by decide)] at o; exact o
  have hA : VRs ρ (.fn (.yield 1) [] [] :: cap) (Value.func (.yield G.blk) #[] #[] :: C) := by
    simp only [VRs]
    refine ⟨_, _, ?_, VRs.mono (ρ := fzm F) (σ := ρ) ⟨fun _ _ e => (by cases e), fun _ _ _ e => e, fun _ _ _ e => (by cases e)⟩ cap hC, rfl⟩
    simp only [VR, FR, VRs]
    exact ⟨_, [], [], ⟨_, _, r1, rfl⟩, rfl, rfl, rfl⟩
  have hpi : PI ⟨c, w, F, S, some G, none, [], [], []⟩ ρ (hq 2 [.arr 0 0 0 [], .none]) w := by
    refine ⟨⟨fun i B N e => ?_, fun i B N e q => absurd q (nok e), fun i j B N M hij e1 e2 k1 k2 => absurd k1 (nok e1), fun i r e => ?_, hfz, fun i B N e q => absurd q (nok e), fun i t z n l e => ?_⟩, ⟨fun i hi => gN i (by have hi : 2 ≤ i := hi; omega), fun i r q e => ?_, fun i r q t e => ?_, fun q _ => get_leaf none q⟩, ⟨fun i hi => if_neg (by have hi : 2 ≤ i := hi; omega), fun i r e => absurd e (hg0 i r)⟩, fun i hi n => if_neg (by have hi : 2 ≤ i := hi; omega), fun i t z n l e m hm => ?_, ⟨Same.refl w, fun _ _ => rfl⟩, fun i B N e hs => ?_, fun _ _ _ e => e, fun _ _ => rfl, (by simp only [VRs]), fun G' hG t z n l e => ?_⟩
    · obtain ⟨_, rfl⟩ := r2 e; exact hS _ hblk
    · by_cases hi : i = 0
      · subst hi; rw [g0] at e; cases e
      · rw [gN i hi] at e; cases e
    · by_cases hi : i = 0
      · subst hi; rw [g0] at e; cases e
        exact ⟨rfl, .inl ⟨rfl, _, rfl⟩⟩
      · rw [gN i hi] at e; cases e
    · by_cases hi : i = 0
      · subst hi; rw [g0] at e; cases e
      · rw [gN i hi] at e; cases e
    · by_cases hi : i = 0
      · subst hi; rw [g0] at e; cases e
      · rw [gN i hi] at e; cases e
    · by_cases hi : i = 0
      · subst hi; rw [g0] at e; cases e
        exact if_neg (fun a => by omega)
      · rw [gN i hi] at e; cases e
    · obtain ⟨_, rfl⟩ := r2 e; exact hs.2 hblk
    · cases hG
      rw [g0] at e; cases e
      exact ⟨S, F, hJ, hS, fun i B N e q => absurd q (nok e), ⟨fun _ _ => rfl, fun _ _ _ e => e⟩, by omega, hblk, ⟨0, r1⟩, (fun b q hs => hs.2 q), _, rfl⟩
  have h := (H w F S G [] hit).run (T.put und (.fn (.yield 1) [] [] :: cap) (env0 und fn.ntmps) 0) (argsL_has _ _ 0)
  have ht : Tri ⟨c, w, F, S, some G, none, [], [], []⟩ fn.ntmps none body ⟨T.put und (.fn (.yield 1) [] [] :: cap) (env0 und fn.ntmps) 0, hq 2 [.arr 0 0 0 [], .none], []⟩ (FinY c fn.results.toList items.length) := h
  refine ht none ρ w _ _ rfl hpi (args_er hA (bleT hlen)) ⟨[], rfl, rfl⟩ fun x s' a' w' ρ' ⟨hx, h', vs, q1, q2, t, z, n, l, q3, q4⟩ g1 g2 g3 g4 => ?_
  have hfin : LeavesInM Fence.wide 0 c.P fn a'.tmps (EndR fun z w' => Same w w' ∧ (∀ b, b < w.heap.size → ¬ S b → w'.heap[b]? = w.heap[b]?) ∧ ∃ k S' F', (k = items.length ∨ k = items.length + 1) ∧ G.J k S' F' w') a'.defers .returning w' := by
    refine leave_ok g2.hr g2.wf (g4.nil rfl) q1 fun w2 gg => ?_
    have g5 := g2.good gg (ArrKeep.leave q1)
    obtain ⟨z', z1, z2⟩ := results_ok k g5.hr g3 q2
    obtain ⟨S', F', s1, _⟩ := g5.gh G rfl t z n l q3
    exact ⟨z', z1, g5.ext.1, fun b hb hs => g5.ext.2 b ⟨hb, hs⟩, z, S', F', q4, s1⟩
  rcases hx with rfl | rfl
  · exact hfin
  · exact hfin
section
variable {X : Cx} {tb : List (Nat × TE)} (E : Env X.c tb) {sz : Nat} {rd : Option Nat} {all : Array Oper} {o : Oper} {rest : List Oper} {k : List It} {L : List (Nat × AV)} {h : Heap} {m : List Nat} {Q : Post}
include E
/-- ONE ITERATES: the next one is handed on. -/
theorem Ops.yieldJ {G : Gho X.c.P} {d t z : Nat} {cl : Call} {f : Operand} {vs : List AV} (hw : Want all L o true) (ho : o.op = .call cl) (hc : cl.callee = .value f) (hfv : evL L f = some (.fn (.yield 1) [] [])) (hv : evsL L cl.args.toList = some vs) (hdt : datsB vs = true) (hX : X.g = some G) (h0 : h.get 0 = .arr t z 0 []) (hit : G.items[z]? = some vs) (hd : o.dst = some d) (hs : Nat.ble (d + 1) sz = true)
    (n1 : Ops X sz rd all rest k ((d, .bool true) :: L) (h.put 0 (.arr t (z + 1) 0 [])) m Q) (n2 : Ops X sz rd all rest k ((d, .bool false) :: L) (h.put 0 (.arr t (G.items.length + 1) 0 [])) m Q) : Ops X sz rd all (o :: rest) k L h m Q := ⟨fun e0 he => by
  have _ := E
  refine TriOps.cons (hw e0 he) (K := fun s' => RunK X sz rd k Q .normal s') ?_
  intro ro ρ w a next Q' h1 p h3 h4 h5
  refine ⟨fun _ _ => trivial, ?_⟩
  rw [show (wideR ro).round = ro from rfl, Oper.semAt_eq ro a.eval o (by rw [ho]; intro d q; cases q)]
  obtain ⟨S, Fo, s1, s2, s3, s4, s5, s6, ⟨N1, s7⟩, s8⟩ := p.gh G hX t z 0 [] h0
  have hfv' := ev_ok h3 f
  rw [he.ev hfv] at hfv'
  simp only [VR, VRs, FR] at hfv'
  obtain ⟨f', F, C, ⟨B, N, hB, rfl⟩, rfl, rfl, e4⟩ := hfv'
  rw [s7] at hB; cases hB
  have hargs := evs_ok h3 cl.args.toList
  rw [he.evs hv] at hargs
  obtain ⟨nx, w1, q1, q2⟩ := G.step z S w vs _ Fo ρ.F hit s1 s5 s2 s4.1 s4.2 p.hr.fz (dats_ok vs hdt hargs)
  have hrun : (execOp a.eval o).run X.c.P w = .ok nx w1 := by
    rw [← q1]
    simp only [execOp, ho, resolve, hc, e4, Deferred.ofValue, Sem.run_bind, Sem.run_pure, Result.andThen_ok, invoke]
    congr 2
    apply Array.ext'; simp
  rw [hrun]
  refine uponIn_of_next q2 fun zz w' ⟨r1, r2, r3, S', r4, r5, r6⟩ => ?_
  have hok0 : ∀ {b : AB}, h.get 0 = b → b.isArr = true → h.ok 0 := fun {b} e hb => by unfold Heap.ok; rw [e]; cases b <;> first | trivial | cases hb
  have ok0 := hok0 h0 rfl
  -- the marker is no block of the world
  have fin : ∀ (T : Nat) (bb : Bool), zz = .bool bb → G.J T S' ρ.F w' → Ops X sz rd all rest k ((d, .bool bb) :: L) (h.put 0 (.arr t T 0 [])) m Q → next (a.put o.dst zz) w' := fun T bb hzz hJ hops => by
    have hg : ∀ j, j ≠ 0 → (h.put 0 (.arr t T 0 [])).get j = h.get j := fun j q => by rw [Heap.get_put, if_neg q]
    have hn : (h.put 0 (.arr t T 0 [])).get 0 = .arr t T 0 [] := by rw [Heap.get_put, if_pos rfl]
    have hoo : ∀ j, j ≠ 0 → ((h.put 0 (.arr t T 0 [])).ok j ↔ h.ok j) := fun j q => Heap.ok_same (hg j q) (fun _ _ _ _ => rfl)
    have hokall : ∀ j, (h.put 0 (.arr t T 0 [])).ok j → h.ok j := fun j q => by
      by_cases hj : j = 0
      · subst hj; exact ok0
      · exact (hoo j hj).1 q
    have stay : ∀ {i B N}, ρ i = some (B, N) → h.ok i → w'.heap[B]? = w.heap[B]? := fun {i B N} e o => r2 B (p.hr.lt i B N e) (s3 i B N e o).1
    have hpi : PI X ρ (h.put 0 (.arr t T 0 [])) w' := by
      refine ⟨⟨fun i B N e => Nat.lt_of_lt_of_le (p.hr.lt i B N e) r1.size, fun i B N e q => ?_, fun i j B N M hij e1 e2 k1 k2 => ?_, fun i r e => ?_, r3, fun i B N e q => ?_, fun i t' z' n' l' e => ?_⟩, ⟨fun i hi => ?_, fun i r q e1 e2 => ?_, fun i r q t' e1 e2 e3 => ?_, fun q hq => p.wf.tipr q hq⟩, ⟨fun i hi => p.fr.1 i hi, fun i r q => ?_⟩, fun i hi n => p.vf i hi n, fun i t' z' n' l' e m' hm' => ?_, ⟨p.ext.1.trans r1, fun b hb => ?_⟩, p.mine, p.sub, p.old, p.keep, fun G' hG t' z' n' l' e => ?_⟩
      · have hb := (p.hr.ok i B N e (hokall i q)).block (stay e (hokall i q))
        by_cases hi : i = 0
        · subst hi; rw [hn]; rw [h0] at hb
          have hb : RowOk ρ.d ⟨t, 0 * z, .leaf, [], none⟩ B N w' := hb
          show RowOk ρ.d ⟨t, 0 * T, .leaf, [], none⟩ B N w'
          rw [Nat.zero_mul] at hb ⊢; exact hb
        · rw [hg i hi]; exact hb
      · obtain ⟨r, s, qq, x, y, u⟩ := p.hr.inj i j B N M hij e1 e2 (hokall i k1) (hokall j k2)
        have hi : i ≠ 0 := fun e => by subst e; rw [h0] at x; cases x
        have hj : j ≠ 0 := fun e => by subst e; rw [h0] at y; cases y
        exact ⟨r, s, qq, by rw [hg i hi]; exact x, by rw [hg j hj]; exact y, u⟩
      · by_cases hi : i = 0
        · subst hi; rw [hn] at e; cases e
        · rw [hg i hi] at e; exact p.hr.gl i r e
      · rcases p.hr.sep i B N e (hokall i q) with x | ⟨r, x⟩
        · exact .inl x
        · exact .inr ⟨r, by rw [hg i (fun e => by subst e; rw [h0] at x; cases x)]; exact x⟩
      · by_cases hi : i = 0
        · subst hi; rw [hn] at e; cases e; exact ⟨by simp, .inl ⟨rfl, s8.2⟩⟩
        · rw [hg i hi] at e; exact p.hr.av i t' z' n' l' e
      · have hi' : h.nxt ≤ i := hi
        by_cases hi0 : i = 0
        · subst hi0; rw [p.wf.fresh 0 hi'] at h0; cases h0
        · rw [hg i hi0]; exact p.wf.fresh i hi'
      · by_cases hi : i = 0
        · subst hi; rw [hn] at e1; cases e1
        · rw [hg i hi] at e1; exact p.wf.root i r q e1 e2
      · by_cases hi : i = 0
        · subst hi; rw [hn] at e1; cases e1
        · rw [hg i hi] at e1
          obtain ⟨s, x, y⟩ := p.wf.tip i r q t' e1 e2 e3
          exact ⟨s, by rw [hg t' (fun e => by subst e; rw [h0] at x; cases x)]; exact x, y⟩
      · have := p.fr.2 i r q
        rw [hg i (fun e => by subst e; rw [h0] at this; cases this)]; exact this
      · by_cases hi : i = 0
        · subst hi; rw [hn] at e; cases e; exact p.vu 0 t z 0 [] h0 m' hm'
        · rw [hg i hi] at e; exact p.vu i t' z' n' l' e m' hm'
      · rw [r2 b (Nat.lt_of_lt_of_le hb.1 p.ext.1.size) (fun q => s8.1 b q hb)]; exact p.ext.2 b hb
      · rw [hX] at hG; cases hG
        rw [hn] at e; cases e
        refine ⟨S', ρ.F, hJ, fun b q => (r5 b q).1, fun i B N e q => ?_, ⟨fun b q => rfl, fun _ _ _ e => e⟩, Nat.le_trans s5 r1.size, r4 _ s6, ⟨N1, s7⟩, fun b q hb => ?_, s8.2⟩
        · obtain ⟨a1, a2⟩ := s3 i B N e (hokall i q)
          refine ⟨fun q' => ?_, a2⟩
          rcases (r5 B q').2 with x | x
          · exact a1 x
          · have := p.hr.lt i B N e; omega
        · rcases (r5 b q).2 with x | x
          · exact s8.1 b x hb
          · have := Nat.lt_of_lt_of_le hb.1 p.ext.1.size; omega
    subst hzz
    exact h5 (.bool bb) ⟨e0, _, m⟩ (.bool bb) w' ρ ⟨e0.set und d (.bool bb), by rw [hd]; exact setD_some hs, hops.run _ (he.set d _)⟩ h1 hpi h3 h4 (by simp only [VR])
  rcases r6 with ⟨hz, hJ⟩ | ⟨hz, hJ⟩
  · exact fin (z + 1) true hz hJ n1
  · exact fin _ false hz hJ n2⟩
end
end Go.Px
end
/- PxVd -/
section
set_option linter.unusedVariables false
set_option linter.unusedSimpArgs false
namespace Go.Px

/-- behind a piece that was gone through from a base of its own -/
theorem PI.leg {X : Cx} {ρ : Map} {h : Heap} {w : World} (p : PI X ρ h w) {S : Nat → Prop} (hS : ∀ b, S b → ¬ X.shut b) {ro : Option Nat} {hid : List Nat} {F : Nat → List Value} (hF : ∀ (b j : Nat) (x : Value), (ρ.F b)[j]? = some x → (F b)[j]? = some x) (hold : ∀ b, X.shut b → F b = ρ.F b) {ρ' : Map} {h' : Heap} {w' : World}
    (q : PI ⟨X.c, w, F, fun b => (∃ i N, ρ i = some (b, N)) ∨ S b, X.g, ro, hid, X.gv, X.gx⟩ ρ' h' w') :
    PI X ρ' h' w' ∧ Same w w' ∧ (∀ b, b < w.heap.size → ¬ ((∃ i N, ρ i = some (b, N)) ∨ S b) → w'.heap[b]? = w.heap[b]? ∧ ρ'.F b = F b ∧ ∀ i N, ρ' i ≠ some (b, N)) ∧ (∀ (b j : Nat) (x : Value), (F b)[j]? = some x → (ρ'.F b)[j]? = some x) ∧
      ∃ S' Fo', GhW X ρ' h' w' S' Fo' ∧ (∀ b, S' b → b < w'.heap.size) ∧ (∀ b, S' b → ¬ X.shut b) ∧ ∀ b, b < w.heap.size → ¬ ((∃ i N, ρ i = some (b, N)) ∨ S b) → ¬ S' b := by
  have p' := p.rebase hS hF hold q q.keep
  obtain ⟨S', Fo', s1, s2, s3⟩ := q.gh.wit
  refine ⟨p', q.ext.1, fun b hb hn => ⟨q.ext.2 b ⟨hb, hn⟩, q.old b ⟨hb, hn⟩, fun i N e => q.mine i b N e ⟨hb, hn⟩⟩, q.sub, S', Fo', fun G hG t z n l e => ?_, s2, fun b a hb => ?_, fun b hb hn a => s3 b a ⟨hb, hn⟩⟩
  · obtain ⟨a1, a2, a3, a4, a5, a6, a7, a8, a9⟩ := s1 G hG t z n l e
    refine ⟨a1, a2, a3, a4, a5, a6, a7, fun b a hb => a8 b a ?_, a9⟩
    exact ⟨Nat.lt_of_lt_of_le hb.1 p.ext.1.size, fun y => y.elim (fun ⟨i, N, e⟩ => p.mine i b N e hb) (fun a => hS b a hb)⟩
  · exact s3 b a ⟨Nat.lt_of_lt_of_le hb.1 p.ext.1.size, fun y => y.elim (fun ⟨i, N, e⟩ => p.mine i b N e hb) (fun a => hS b a hb)⟩

/-- where a piece begins -/
structure Base where
  w0 : World
  F0 : Nat → List Value
  opn : Nat → Prop
  ro : Option Nat
  gx : List Value
def XH (X : Cx) (L : List (Nat × AV)) (n : Nat) (m : List Nat) (b : Base) : Cx := ⟨X.c, b.w0, b.F0, b.opn, X.g, b.ro, [], held L (n :: m) none ++ X.gv, b.gx⟩
/-- behind a round's body -/
def QB (X : Cx) (sz : Nat) (k : List It) (L : List (Nat × AV)) (n : Nat) (m : List Nat) (Q : Post) (h' : Heap) (b : Base) : Post := fun x s =>
  match x with
  | .normal => ChgE (XH X L n m b) s.h h'
  | x => ∀ e, Has e L → RunK X sz none k Q x ⟨e, s.h, n :: m⟩
/-- behind the assigning -/
def QA (X : Cx) (sz : Nat) (k : List It) (L : List (Nat × AV)) (n : Nat) (m : List Nat) (Q : Post) (h' : Heap) (body : Code) : Post := fun x s =>
  x = .normal ∧ ∀ b, RunK (XH X L n m b) sz none [.code body] (QB X sz k L n m Q h' b) .normal s
section
variable {X : Cx} {sz : Nat} {k : List It} {L L' : List (Nat × AV)} {h h' : Heap} {n : Nat} {m m' : List Nat} {Q : Post}
theorem Go.bodyK {X' : Cx} {body : Code} (H : ∀ b, Go (XH X L n m b) sz none [.code body] L' h m' (QB X sz k L n m Q h' b)) : Go X' sz none [] L' h m' (QA X sz k L n m Q h' body) :=
  Go.nil fun e he => ⟨rfl, fun b => (H b).run e he⟩
theorem Go.nextK {b : Base} (H : ChgE (XH X L n m b) h h') : Go (XH X L n m b) sz none [] L' h m' (QB X sz k L n m Q h' b) :=
  Go.nil fun e he => H
theorem Go.stopR {b : Base} {k' : List It} (H : ∀ e, Has e L → Q .ret ⟨e, h, n :: m⟩) : Go (XH X L n m b) sz none (.code .ret :: k') L' h m' (QB X sz k L n m Q h' b) :=
  Go.ret fun e he => fun e' he' => ret_run (H e' he')
end
/-- A RANGE OVER A FUNCTION THAT ITERATES: 'H': the heap at each round's head. -/
theorem Go.rangeK {X : Cx} {tb : List (Nat × TE)} (E : Env X.c tb) {sz : Nat} {k : List It} {L : List (Nat × AV)} {h : Heap} {m : List Nat} {Q : Post} (n : Nat) {f : Operand} {ps : Array Tmp} {assign body : Code} {g : FuncId} {cap : List AV} {items : List (List AV)} (hn : h.nxt = n) (hfv : evL L f = some (.fn (.func g) [] cap)) (hdat : datsB cap = true) (hk : KIt X.c g cap items) (hon : onceB L = true)
    (H : Nat → Heap) (h0 : ∀ b, ChgE (XH X L n m b) (newAt n h (.dfr true)) (H 0)) (hps : ∀ (j : Nat) (v : List AV), items[j]? = some v → Nat.beq ps.toList.length v.length = true) (hps2 : (ps.toList.all fun p => Nat.ble (p + 1) sz) = true)
    (hbody : ∀ (j : Nat) (v : List AV), items[j]? = some v → ∀ b, Go (XH X L n m b) sz none [.code assign] (setL ps.toList v L) (H j) [] (QA X sz k L n m Q (H (j + 1)) body))
    (nx : Go X sz none k L (H items.length) (n :: m) Q) (hro : X.ro = none := by rfl) (hgn : X.g = none ∨ ∃ t z q l, h.get 0 = .arr t z q l := by first | exact .inl rfl | exact .inr ⟨_, _, _, _, rfl⟩) :
    Go X sz none (.code (.rangeFunc f ps assign body) :: k) L h m Q := ⟨fun e0 he => by
  subst hn
  intro ro ρ w a Q' h1 p h3 h4 h5
  have hro' : ro = none := (show ro = X.ro from h1).trans hro
  subst hro'
  refine wpIn_rangeFunc fun fn' _ => ?_
  -- the block of what is put off
  have g1 := Good.newBlock p.hr p.wf (p.fr.1 _ (Nat.le_refl _)) (.dfr true) (.deferred (some [])) 0 (fun r q => by cases q) (by simp only [ABR]; exact World.alloc_heap_new _ _)
  have p1 := p.good g1 (ArrKeep.new rfl)
  have hs1 : Sub ρ (upd ρ h.nxt (w.heap.size, 0)) := g1.sub
  generalize hwA : w.alloc (.deferred (some [])) = wA at *
  have hsA : wA.heap.size = w.heap.size + 1 := by rw [← hwA]; simp [World.size_alloc]
  generalize hρ1 : upd ρ h.nxt (w.heap.size, 0) = ρ1 at *
  have hm1 : MRX X ρ1 (h.nxt :: m) ([{ target := .collected w.heap.size, args := #[] }] ++ a.defers) :=
    MRX.push (m := [h.nxt]) (D := [{ target := .collected w.heap.size, args := #[] }]) ⟨w.heap.size, 0, [], (by rw [← hρ1]; exact upd_same _ _ _), rfl, rfl⟩ (h4.mono hs1)
  obtain ⟨gx0, b1, b2⟩ := held_in (X := X) (rd := none) (L := L) (h1.mono hs1) (h3.mono hs1) he hon hm1
  -- the loop's block
  have hB : (wA.alloc (.loop { state := .ready, pending := none, fn := fn', tmps := a.tmps, params := ps, assign, body, defers := w.heap.size })).heap.size = wA.heap.size + 1 := by simp [World.size_alloc]
  have hBl : (wA.alloc (.loop { state := .ready, pending := none, fn := fn', tmps := a.tmps, params := ps, assign, body, defers := w.heap.size })).heap[wA.heap.size]? = some (.loop { state := .ready, pending := none, fn := fn', tmps := a.tmps, params := ps, assign, body, defers := w.heap.size }) := World.alloc_heap_new _ _
  have hBo : ∀ b, b < wA.heap.size → (wA.alloc (.loop { state := .ready, pending := none, fn := fn', tmps := a.tmps, params := ps, assign, body, defers := w.heap.size })).heap[b]? = wA.heap[b]? := fun b hb => by
    show (wA.heap.push _)[b]? = _
    rw [Array.getElem?_push, if_neg (by omega)]
  have hBs : Same wA (wA.alloc (.loop { state := .ready, pending := none, fn := fn', tmps := a.tmps, params := ps, assign, body, defers := w.heap.size })) := ⟨rfl, rfl, rfl, by omega⟩
  have hent : (Instr.enterLoop fn' a.tmps ps assign body none).run X.c.P w = .ok (wA.heap.size, [{ target := .collected w.heap.size, args := #[] }]) (wA.alloc (.loop { state := .ready, pending := none, fn := fn', tmps := a.tmps, params := ps, assign, body, defers := w.heap.size })) := by
    rw [run_enterLoop_outer, hwA, hsA]
  generalize wA.alloc (.loop { state := .ready, pending := none, fn := fn', tmps := a.tmps, params := ps, assign, body, defers := w.heap.size }) = wB at *
  generalize hB' : wA.heap.size = B at *
  have hgn' : ∀ G, X.g = some G → G.n0 ≤ w.heap.size := fun G hG => by
    rcases hgn with q | ⟨t, z, q, l, e⟩
    · rw [q] at hG; cases hG
    · obtain ⟨_, _, _, _, _, _, a, _⟩ := p.gh G hG t z q l e; exact a
  have hw0 : X.w0.heap.size ≤ w.heap.size := p.ext.1.size
  obtain ⟨S0, Fo0, s1, s2, s3⟩ := p1.gh.wit
  obtain ⟨p2, gw⟩ := p1.world hBs (U := fun _ => True) (fun b hb _ => hBo b (by omega)) (fun _ _ _ _ => trivial) (fun _ _ => trivial) (fun _ _ => trivial) s1 (fun _ _ => trivial) (fun _ _ _ _ => trivial)
  have hX : PI ⟨X.c, X.w0, X.F0, X.opn, X.g, none, [], held L (h.nxt :: m) none ++ X.gv, gx0 ++ X.gx⟩ ρ1 (h.new (.dfr true)) wB := p2.more b1
  have lt1 : ∀ i b N, ρ1 i = some (b, N) → b < B := fun i b N e => by have := p1.hr.lt i b N e; omega
  have hb0 : PI (XH X L h.nxt m ⟨wB, ρ1.F, fun b => (∃ i N, ρ1 i = some (b, N)) ∨ S0 b, none, gx0 ++ X.gx⟩) ρ1 (h.new (.dfr true)) wB :=
    hX.base (S := S0) gw none [] _ _ hX.keep (F := ρ1.F) (fun _ _ _ e => e) hX.hr.fz (fun _ _ _ _ => rfl) (fun _ _ => rfl) (fun _ _ _ _ => rfl)
  rw [new_at rfl] at hb0
  obtain ⟨ρ2, p3⟩ := h0 _ ρ1 wB hb0
  obtain ⟨p4, _, fr0, sF0, S2, Fo2, gw2, lt2, nsh2, out2⟩ := hX.leg (S := S0) (fun b q => s3 b q) (F := ρ1.F) (fun _ _ _ e => e) (fun _ _ => rfl) p3
  have hBnot : ¬ ((∃ i N, ρ1 i = some (B, N)) ∨ S0 B) := fun q => q.elim (fun ⟨i, N, e⟩ => Nat.lt_irrefl _ (lt1 i B N e)) fun q => by have := s2 B q; omega
  have hBlt : B < wB.heap.size := by omega
  obtain ⟨_, hBF, hBi⟩ := fr0 B hBlt hBnot
  have hBS := out2 B hBlt hBnot
  have hF1B : ρ1.F B = [] := Classical.byContradiction fun q => by have := p1.hr.F_lt q; omega
  rw [hF1B] at hBF
  let X' : Cx := ⟨X.c, X.w0, X.F0, X.opn, X.g, none, [], held L (h.nxt :: m) none ++ X.gv, gx0 ++ X.gx⟩
  let rec_ : LoopState → Option Ex → Obj := fun st pd => .loop { state := st, pending := pendOf pd, fn := fn', tmps := a.tmps, params := ps, assign, body, defers := w.heap.size }
  let J : Nat → (Nat → Prop) → (Nat → List Value) → World → Prop := fun j S Fo w' => ∃ (ρ' : Map) (T : Nat → Prop) (Ft : Nat → List Value) (hh : Heap) (st : LoopState) (pd : Option Ex),
    PI X' ρ' hh w' ∧ GhW X' ρ' hh w' T Ft ∧ (∀ b, T b → S b ∧ ¬ X'.shut b) ∧ (∀ i b N, ρ' i = some (b, N) → S b ∧ b ≠ B) ∧ (ρ'.F B = [] ∧ ∀ b, ¬ (S b ∨ b < wB.heap.size) → ρ'.F b = Fo b) ∧ (∀ (b i : Nat) (x : Value), (Fo b)[i]? = some x → (ρ'.F b)[i]? = some x) ∧
      S B ∧ ¬ T B ∧ B < w'.heap.size ∧ w'.heap[B]? = some (rec_ st pd) ∧ ((j ≤ items.length ∧ st = .ready ∧ pd = none ∧ hh = H j) ∨ (j = items.length + 1 ∧ st = .done ∧ ∃ x, pd = some x ∧ x ≠ .normal ∧ ∀ e, Has e L → RunK X sz none k Q x ⟨e, hh, h.nxt :: m⟩))
  have hstab : ∀ j S Fo w1 w2, J j S Fo w1 → Same w1 w2 → (∀ b, b < w1.heap.size → (S b ∨ b < wB.heap.size ∨ Fo b ≠ []) → w2.heap[b]? = w1.heap[b]?) → J j S Fo w2 := fun j S Fo w1 w2 ⟨ρ', T, Ft, hh, st, pd, j1, j2, j3, j4, j5, j6, j7, j8, j9, j10, j11⟩ hsm hun => by
    obtain ⟨q1, q2⟩ := j1.world hsm (U := fun b => S b ∨ b < wB.heap.size ∨ Fo b ≠ []) hun (fun i b N e => .inl (j4 i b N e).1) (fun b e => by
      by_cases q : S b ∨ b < wB.heap.size
      · exact q.elim .inl fun q => .inr (.inl q)
      · rw [j5.2 b q] at e; exact .inr (.inr e)) (fun b hb => .inr (.inl (by have hb : b < X.w0.heap.size := hb; omega))) j2 (fun b q => .inl (j3 b q).1) (fun G hG b hb => .inr (.inl (by have := hgn' G hG; omega)))
    exact ⟨ρ', T, Ft, hh, st, pd, q1, q2, j3, j4, j5, j6, j7, j8, Nat.lt_of_lt_of_le j9 hsm.size, (hun B j9 (.inl j7)).trans j10, j11⟩
  have hstep : ∀ j S w1 v V (Fo F' : Nat → List Value), items[j]? = some v → J j S Fo w1 → wB.heap.size ≤ w1.heap.size → (∀ b, S b → b < w1.heap.size) → (∀ b, S b ∨ b < wB.heap.size → F' b = Fo b) → (∀ (b i : Nat) (x : Value), (Fo b)[i]? = some x → (F' b)[i]? = some x) → FzW F' w1 → VRs (fzm F') v V →
      ∃ nx w2, (Instr.yield B V.toArray).run X.c.P w1 = .ok nx w2 ∧ NextOk X.c.P (fun z w' => Same w1 w' ∧ (∀ b, b < w1.heap.size → ¬ S b → w'.heap[b]? = w1.heap[b]?) ∧ FzW F' w' ∧
      ∃ S', (∀ b, S b → S' b) ∧ (∀ b, S' b → b < w'.heap.size ∧ (S b ∨ w1.heap.size ≤ b)) ∧ ((z = .bool true ∧ J (j + 1) S' F' w') ∨ (z = .bool false ∧ J (items.length + 1) S' F' w'))) nx w2 := fun j S w1 v V Fo F' hit ⟨ρ', T, Ft, hh, st, pd, j1, j2, j3, j4, j5, j6, j7, j8, j9, j10, j11⟩ hn0 hSlt hF' hFF' hfz hV => by
    have hjl : j < items.length := (List.getElem?_eq_some_iff.1 hit).1
    obtain ⟨_, rfl, rfl, rfl⟩ : j ≤ items.length ∧ st = .ready ∧ pd = none ∧ hh = H j := by
      rcases j11 with q | q
      · exact q
      · have := q.1; omega
    -- what is known of one's own data now
    let F2 : Nat → List Value := fun b => @ite _ (S b ∨ b < wB.heap.size) (Classical.propDecidable _) (ρ'.F b) (F' b)
    have f1 : ∀ b, (S b ∨ b < wB.heap.size) → F2 b = ρ'.F b := fun b q => if_pos q
    have f2 : ∀ b, ¬ (S b ∨ b < wB.heap.size) → F2 b = F' b := fun b q => if_neg q
    have f3 : ∀ (b i : Nat) (x : Value), (ρ'.F b)[i]? = some x → (F2 b)[i]? = some x := fun b i x e => by
      by_cases q : S b ∨ b < wB.heap.size
      · rw [f1 b q]; exact e
      · rw [f2 b q]; rw [j5.2 b q] at e; exact hFF' b i x e
    have f4 : ∀ (b i : Nat) (x : Value), (F' b)[i]? = some x → (F2 b)[i]? = some x := fun b i x e => by
      by_cases q : S b ∨ b < wB.heap.size
      · rw [f1 b q]; rw [hF' b q] at e; exact j6 b i x e
      · rw [f2 b q]; exact e
    have f5 : FzW F2 w1 := fun b i x e => by
      by_cases q : S b ∨ b < wB.heap.size
      · rw [f1 b q] at e; exact j1.hr.fz b i x e
      · rw [f2 b q] at e; exact hfz b i x e
    have hsh : ∀ b, X'.shut b → F2 b = ρ'.F b := fun b q => f1 b (.inr (by have q : b < X.w0.heap.size := q.1; omega))
    have pa := j1.base j2 (some B) [] _ _ j1.keep (F := F2) f3 f5 (fun i b N e => f1 b (.inl (j4 i b N e).1)) (fun b q => f1 b (.inl (j3 b q).1)) (fun G hG b hb => f1 b (.inr (by have := hgn' G hG; omega)))
    -- its round begins
    have hlenV : V.length = v.length := hV.length.symm
    have hps' := beqT (hps j v hit)
    have hy := run_yield (P := X.c.P) (args := V.toArray) j10 (by simp only [List.size_toArray]; rw [hlenV, ← hps']; simp)
    refine ⟨_, w1, hy, ?_⟩
    refine roundIn_of_wpIn trivial ?_
    have hz : (ps.zip V.toArray).foldl (fun tmps (p : Tmp × Value) => tmps.setIfInBounds p.1 p.2) a.tmps = (ps.toList.zip V).foldl (fun tmps (p : Tmp × Value) => tmps.setIfInBounds p.1 p.2) a.tmps := by
      rw [← Array.foldl_toList]
      congr 1
      simp [Array.toList_zip]
    obtain ⟨v1, v2⟩ := VRs.split b1.length j1.keep
    obtain ⟨_, _, u3⟩ := b2 ρ' v1
    obtain ⟨e1, he1, er1⟩ := known_env (σ := ρ') (L := L) (tm := a.tmps) (sz := sz) h3.1 u3
    have hsF : Sub ρ' ⟨ρ'.m, F2, ρ'.V⟩ := ⟨fun _ _ e => e, f3, fun _ _ _ e => e⟩
    obtain ⟨e2, hpe⟩ := setPs_some (sz := sz) e1 (hps j v hit) hps2
    have hV2 : VRs ⟨ρ'.m, F2, ρ'.V⟩ v V := VRs.mono (ρ := fzm F') (σ := ⟨ρ'.m, F2, ρ'.V⟩) ⟨fun _ _ e => (by cases e), f4, fun _ _ _ e => (by cases e)⟩ v hV
    obtain ⟨_, her⟩ := setPs_ok hpe hV2 (er1.mono hsF)
    have hhas := setPs_has hpe he1
    have hA := (hbody j v hit ⟨w1, F2, fun b => (∃ i N, ρ' i = some (b, N)) ∨ T b, some B, gx0 ++ X.gx⟩).run e2 hhas
    have htA : Tri (XH X L h.nxt m ⟨w1, F2, fun b => (∃ i N, ρ' i = some (b, N)) ∨ T b, some B, gx0 ++ X.gx⟩) sz none assign ⟨e2, H j, []⟩ (QA X sz k L h.nxt m Q (H (j + 1)) body) := hA
    refine htA (some B) ⟨ρ'.m, F2, ρ'.V⟩ w1 _ _ rfl pa (by rw [hz]; exact her) ⟨[], rfl, rfl⟩ fun x s' a1 w2 σ1 ⟨hx, hrunB⟩ g1 g2 g3 g4 => ?_
    subst hx
    have hnotB : ¬ ((∃ i N, ρ' i = some (B, N)) ∨ T B) := fun q => q.elim (fun ⟨i, N, e⟩ => (j4 i B N e).2 rfl) j8
    obtain ⟨c1, c2, c3, c4, T1, Ft1, c5, c6, c7, c8⟩ := j1.leg (fun b q => (j3 b q).2) f3 hsh g2
    obtain ⟨d1, d2, d3⟩ := c3 B j9 hnotB
    have hF2B : F2 B = [] := by
      rw [f1 B (.inl j7)]; exact j5.1
    rw [hF2B] at d2
    rw [j10] at d1
    have hB2 : B < w2.heap.size := Nat.lt_of_lt_of_le j9 c2.size
    refine ⟨_, run_beginRound d1 rfl, ?_⟩
    -- its body
    have hput : ∀ (W : World) (o : Obj), Same W (W.putObj B o) := fun W o => ⟨rfl, rfl, rfl, by simp [World.putObj_size]⟩
    obtain ⟨p5, gw5⟩ := c1.world (hput w2 (rec_ .busy none)) (U := fun b => b ≠ B) (fun b _ q => World.putObj_heap_other q) (fun i b N e q => d3 i N (q ▸ e)) (fun b e q => e (q ▸ d2)) (fun b hb q => by have hb : b < X.w0.heap.size := hb; omega) c5 (fun b e q => c8 B j9 hnotB (q ▸ e)) (fun G hG b hb q => by have := hgn' G hG; omega)
    have pb := p5.base gw5 (some B) [] _ _ p5.keep (F := σ1.F) (fun _ _ _ e => e) p5.hr.fz (fun _ _ _ _ => rfl) (fun _ _ => rfl) (fun _ _ _ _ => rfl)
    have htB : Tri (XH X L h.nxt m ⟨w2.putObj B (rec_ .busy none), σ1.F, fun b => (∃ i N, σ1 i = some (b, N)) ∨ T1 b, some B, gx0 ++ X.gx⟩) sz none body s' (QB X sz k L h.nxt m Q (H (j + 1)) ⟨w2.putObj B (rec_ .busy none), σ1.F, fun b => (∃ i N, σ1 i = some (b, N)) ∨ T1 b, some B, gx0 ++ X.gx⟩) := hrunB _
    refine htB (some B) σ1 _ a1 _ rfl pb g3 g4 fun x s2 a2 w3 σ2 hQ k1 k2 k3 k4 => ?_
    have hB2' : B < (w2.putObj B (rec_ .busy none)).heap.size := by simp only [World.putObj_size]; exact hB2
    have hnotB2 : ¬ ((∃ i N, σ1 i = some (B, N)) ∨ T1 B) := fun q => q.elim (fun ⟨i, N, e⟩ => d3 i N e) (c8 B j9 hnotB)
    -- what both ends have in common
    have fin : ∀ (st2 : LoopState) (pd2 : Option Ex) (bb : Bool) (σ3 : Map) (h3' : Heap), PI (XH X L h.nxt m ⟨w2.putObj B (rec_ .busy none), σ1.F, fun b => (∃ i N, σ1 i = some (b, N)) ∨ T1 b, some B, gx0 ++ X.gx⟩) σ3 h3' w3 →
        (∃ j', ((bb = true ∧ j' = j + 1) ∨ (bb = false ∧ j' = items.length + 1)) ∧ ((j' ≤ items.length ∧ st2 = .ready ∧ pd2 = none ∧ h3' = H j') ∨ (j' = items.length + 1 ∧ st2 = .done ∧ ∃ x, pd2 = some x ∧ x ≠ .normal ∧ ∀ e, Has e L → RunK X sz none k Q x ⟨e, h3', h.nxt :: m⟩))) →
        w3.heap[B]? = some (rec_ .busy none) ∧ (Same w1 (w3.putObj B (rec_ st2 pd2)) ∧ (∀ b, b < w1.heap.size → ¬ S b → (w3.putObj B (rec_ st2 pd2)).heap[b]? = w1.heap[b]?) ∧ FzW F' (w3.putObj B (rec_ st2 pd2)) ∧
          ∃ S', (∀ b, S b → S' b) ∧ (∀ b, S' b → b < (w3.putObj B (rec_ st2 pd2)).heap.size ∧ (S b ∨ w1.heap.size ≤ b)) ∧ ((Value.bool bb = .bool true ∧ J (j + 1) S' F' (w3.putObj B (rec_ st2 pd2))) ∨ (Value.bool bb = .bool false ∧ J (items.length + 1) S' F' (w3.putObj B (rec_ st2 pd2))))) := fun st2 pd2 bb σ3 h3' pq ⟨j', hj', hend⟩ => by
      obtain ⟨e1, e2, e3, e4, T2, Ft2, e5, e6, e7, e8⟩ := p5.leg c7 (fun _ _ _ e => e) (fun _ _ => rfl) pq
      obtain ⟨x1, x2, x3⟩ := e3 B hB2' hnotB2
      rw [World.putObj_heap_same hB2] at x1
      rw [d2] at x2
      have hT2 := e8 B hB2' hnotB2
      have hB3 : B < w3.heap.size := Nat.lt_of_lt_of_le hB2' e2.size
      obtain ⟨p6, gw6⟩ := e1.world (hput w3 (rec_ st2 pd2)) (U := fun b => b ≠ B) (fun b _ q => World.putObj_heap_other q) (fun i b N e q => x3 i N (q ▸ e)) (fun b e q => e (q ▸ x2)) (fun b hb q => by have hb : b < X.w0.heap.size := hb; omega) e5 (fun b e q => hT2 (q ▸ e)) (fun G hG b hb q => by have := hgn' G hG; omega)
      have hsz : w1.heap.size ≤ w3.heap.size := by
        have := c2.size
        have := e2.size
        simp only [World.putObj_size] at this
        omega
      -- where things lie
      have old1 : ∀ b, b < w1.heap.size → ¬ S b → ¬ ((∃ i N, ρ' i = some (b, N)) ∨ T b) := fun b _ q y => y.elim (fun ⟨i, N, e⟩ => q (j4 i b N e).1) fun y => q (j3 b y).1
      have old2 : ∀ b, b < w1.heap.size → ¬ S b → b < (w2.putObj B (rec_ .busy none)).heap.size ∧ ¬ ((∃ i N, σ1 i = some (b, N)) ∨ T1 b) := fun b hb q => by
        refine ⟨by simp only [World.putObj_size]; have := c2.size; omega, fun y => y.elim (fun ⟨i, N, e⟩ => ?_) fun y => c8 b hb (old1 b hb q) y⟩
        exact (c3 b hb (old1 b hb q)).2.2 i N e
      have old3 : ∀ b, b < w1.heap.size → ¬ S b → w3.heap[b]? = w1.heap[b]? ∧ σ3.F b = F2 b ∧ (∀ i N, σ3 i ≠ some (b, N)) ∧ ¬ T2 b := fun b hb q => by
        obtain ⟨y1, y2⟩ := old2 b hb q
        obtain ⟨z1, z2, z3⟩ := e3 b y1 y2
        obtain ⟨t1, t2, _⟩ := c3 b hb (old1 b hb q)
        have hne : b ≠ B := fun e => q (e ▸ j7)
        exact ⟨(z1.trans (World.putObj_heap_other hne)).trans t1, z2.trans t2, z3, e8 b y1 y2⟩
      have hFF : ∀ (b i : Nat) (x : Value), (F2 b)[i]? = some x → (σ3.F b)[i]? = some x := fun b i x e => e4 b i x (c4 b i x e)
      have hJ : J j' (fun b => S b ∨ (w1.heap.size ≤ b ∧ b < w3.heap.size)) F' (w3.putObj B (rec_ st2 pd2)) := by
        refine ⟨σ3, T2, Ft2, h3', st2, pd2, p6, gw6, fun b q => ⟨?_, e7 b q⟩, fun i b N e => ⟨?_, fun q => x3 i N (q ▸ e)⟩, ⟨x2, fun b q => ?_⟩, fun b i x e => hFF b i x (f4 b i x e), .inl j7, hT2, by simp only [World.putObj_size]; exact hB3, World.putObj_heap_same hB3, hend⟩
        · by_cases hb : b < w1.heap.size
          · exact .inl (Classical.byContradiction fun hn => (old3 b hb hn).2.2.2 q)
          · exact .inr ⟨by omega, by have := e6 b q; omega⟩
        · by_cases hb : b < w1.heap.size
          · exact .inl (Classical.byContradiction fun hn => (old3 b hb hn).2.2.1 i N e)
          · exact .inr ⟨by omega, e1.hr.lt i b N e⟩
        · have q1 : ¬ S b := fun y => q (.inl (.inl y))
          have q2 : ¬ b < wB.heap.size := fun y => q (.inr y)
          by_cases hb : b < w1.heap.size
          · rw [(old3 b hb q1).2.1, f2 b (fun y => y.elim q1 q2)]
          · have hb3 : ¬ b < w3.heap.size := fun y => q (.inl (.inr ⟨by omega, y⟩))
            have r1 : σ3.F b = [] := Classical.byContradiction fun y => hb3 (e1.hr.F_lt y)
            rw [r1, fo_nil (fun b i x e => hFF b i x (f4 b i x e)) r1]
      refine ⟨x1, ⟨(c2.trans (hput w2 _)).trans (e2.trans (hput w3 _)), fun b hb q => ?_, fun b i x e => p6.hr.fz b i x (hFF b i x (f4 b i x e)), fun b => S b ∨ (w1.heap.size ≤ b ∧ b < w3.heap.size), fun b q => Or.inl q, fun b q => ⟨?_, ?_⟩, ?_⟩⟩
      · rw [World.putObj_heap_other (fun e : b = B => q (by rw [e]; exact j7))]; exact (old3 b hb q).1
      · simp only [World.putObj_size]
        rcases q with q | q
        · have := hSlt b q; omega
        · exact q.2
      · rcases q with q | q
        · exact .inl q
        · exact .inr q.1
      · rcases hj' with ⟨rfl, rfl⟩ | ⟨rfl, rfl⟩
        · exact .inl ⟨rfl, hJ⟩
        · exact .inr ⟨rfl, hJ⟩
    cases x with
    | normal =>
      obtain ⟨σ3, pq⟩ := hQ σ2 w3 k2
      obtain ⟨y1, y2⟩ := fin .ready none true σ3 _ pq ⟨j + 1, .inl ⟨rfl, rfl⟩, .inl ⟨hjl, rfl, rfl, rfl⟩⟩
      exact ⟨_, _, run_endRound none y1, y2⟩
    | exit id =>
      obtain ⟨y1, y2⟩ := fin .done (some (.exit id)) false σ2 _ k2 ⟨items.length + 1, .inr ⟨rfl, rfl⟩, .inr ⟨rfl, rfl, _, rfl, (by simp), hQ⟩⟩
      exact ⟨_, _, run_endRound (some (.exit id)) y1, y2⟩
    | ret =>
      obtain ⟨y1, y2⟩ := fin .done (some .ret) false σ2 _ k2 ⟨items.length + 1, .inr ⟨rfl, rfl⟩, .inr ⟨rfl, rfl, _, rfl, (by simp), hQ⟩⟩
      exact ⟨_, _, run_endRound (some .ret) y1, y2⟩
  let G : Gho X.c.P := ⟨wB.heap.size, J, hstab, B, items, hstep⟩
  -- the call
  have hfv' := VR.mono hs1 _ (ev_ok h3 f)
  rw [he.ev hfv] at hfv'
  simp only [VR, FR, VRs] at hfv'
  obtain ⟨f', F, C, e1, rfl, e3, e4⟩ := hfv'
  subst e1
  have hC : VRs (fzm ρ2.F) cap C := VRs.mono (ρ := ρ1.d) (σ := fzm ρ2.F) ⟨fun _ _ e => (by cases e), sF0, fun _ _ _ e => (by cases e)⟩ cap (dats_ok cap hdat e3)
  obtain ⟨nx', wc, q1, q2⟩ := hk.run G wB C (fun b => (∃ i N, ρ2 i = some (b, N)) ∨ S2 b ∨ b = B) ρ2.F rfl rfl p4.hr.fz hC (.inr (.inr rfl)) (by
    refine ⟨ρ2, S2, Fo2, H 0, .ready, none, p4, gw2, fun b q => ⟨.inr (.inl q), nsh2 b q⟩, fun i b N e => ⟨.inl ⟨i, N, e⟩, fun q => hBi i N (q ▸ e)⟩, ⟨hBF, fun b q => rfl⟩, fun _ _ _ e => e, .inr (.inr rfl), hBS, hBlt, hBl, .inl ⟨Nat.zero_le _, rfl, rfl, rfl⟩⟩) (fun b q => by
      rcases q with ⟨i, N, e⟩ | q | q
      · exact p4.hr.lt i b N e
      · exact lt2 b q
      · omega)
  obtain ⟨fn, hfn, hbody'⟩ := hk.fn
  obtain ⟨bodyG, hbodyG⟩ := Option.isSome_iff_exists.1 hbody'
  have hnm : fn.name ≠ "runtime.NumGoroutine" := by simpa using E.k.names g fn hfn
  have hcall : ∀ (A : Array Value), (callFunc g A).run X.c.P wB = .ok (.enter g A) wB := fun A => by simp [callFunc, hfn, hnm, hbodyG, Sem.run]
  rw [hcall] at q1
  cases q1
  have harr : (([] : List Value).toArray ++ #[Value.func (.yield B) #[] #[]] ++ C.toArray) = (Value.func (.yield B) #[] #[] :: C).toArray := by apply Array.ext'; simp
  refine ⟨B, [{ target := .collected w.heap.size, args := #[] }], wB, { target := .fn (.func g) C.toArray, args := ([] : List Value).toArray ++ #[Value.func (.yield B) #[] #[]] }, wB, g, ([] : List Value).toArray ++ #[Value.func (.yield B) #[] #[]] ++ C.toArray, wB, hent, ?_, fun _ _ => trivial, ?_, fun q => by simp [wideR, Fence.wide] at q, ?_⟩
  · simp only [resolve, e4, Deferred.ofValue, Sem.run_pure]
    simp [Act.eval]
  · simp only [invoke]
    exact hcall _
  · rw [harr]
    have q3 : CallsIn Fence.wide 0 X.c.P g (Value.func (.yield B) #[] #[] :: C).toArray wB (EndR _) := q2
    refine CallsIn.mono (callsIn_ro q3) fun e w' r => ?_
    cases e with
    | panicked ch => exact r.elim
    | outgrown => exact r.elim
    | returned z =>
      obtain ⟨r1, r2, k', S', F', r3, ρ', T, Ft, hh, st, pd, j1, j2, j3, j4, j5, j6, j7, j8, j9, j10, j11⟩ := r
      have hst : st ≠ .busy := by
        rcases j11 with q | q
        · rw [q.2.1]; simp
        · rw [q.2.1]; simp
      obtain ⟨v1, v2⟩ := VRs.split b1.length j1.keep
      obtain ⟨u1, u2, u3⟩ := b2 ρ' v1
      obtain ⟨p9, _⟩ := j1.world (w' := w'.putObj B (.loop { state := .exhausted, pending := pendOf pd, fn := fn', tmps := a.tmps, params := ps, assign, body, defers := w.heap.size })) ⟨rfl, rfl, rfl, by simp only [World.putObj_size]; omega⟩ (U := fun b => b ≠ B) (fun b _ q => World.putObj_heap_other q) (fun i b N e q => (j4 i b N e).2 q) (fun b e q => e (q ▸ j5.1)) (fun b hb q => by have hb : b < X.w0.heap.size := hb; omega) j2 (fun b e q => j8 (q ▸ e)) (fun G hG b hb q => by have := hgn' G hG; omega)
      have p10 := (PI.less p9 b1.length).1
      obtain ⟨e', he', er'⟩ := known_env (σ := ρ') (L := L) (tm := a.tmps) (sz := sz) h3.1 u3
      refine ⟨pendOf pd, _, run_endLoop j10 hst, ?_⟩
      rcases j11 with ⟨q5, _, rfl, rfl⟩ | ⟨_, _, x, rfl, hxn, hrun⟩
      · have hk' : k' = items.length := by omega
        subst hk'
        exact h5 .normal ⟨e', _, _⟩ { a with defers := [{ target := .collected w.heap.size, args := #[] }] ++ a.defers } _ ρ' (nx.run e' he') u1 p10 er' u2
      · have fin := h5 x ⟨e', _, h.nxt :: m⟩ { a with defers := [{ target := .collected w.heap.size, args := #[] }] ++ a.defers } _ ρ' (hrun e' he') u1 p10 er' u2
        cases x with
        | normal => exact absurd rfl hxn
        | exit id => exact wpIn_exit fin
        | ret => exact wpIn_ret fin⟩
end Go.Px
end
/- FvP -/
section
set_option linter.unusedVariables false
set_option linter.unusedSimpArgs false
set_option maxHeartbeats 4000000
set_option maxRecDepth 20000
namespace Go.Px.Fv
open Go.Proofs
attribute [local irreducible] Go.Px.KOk
abbrev Str := List UInt8
/-- a clause -/
inductive Cl where
  | mk (k : Int) (n : Str) (a : List Ag) (o : Str) (kids : List Cl)
def Cl.k : Cl → Int | .mk k _ _ _ _ => k
def Cl.n : Cl → Str | .mk _ n _ _ _ => n
def Cl.a : Cl → List Ag | .mk _ _ a _ _ => a
def Cl.o : Cl → Str | .mk _ _ _ o _ => o
def Cl.kids : Cl → List Cl | .mk _ _ _ _ l => l
instance : Inhabited Cl := ⟨.mk 0 [] [] [] []⟩
mutual
def encCl : Cl → List AV
  | .mk k n a o kids => [.int .i64 k, sA n, argsA a, sA o, .rsl kids.length 5 (encCls kids)]
def encCls : List Cl → List AV
  | [] => []
  | c :: r => encCl c ++ encCls r
end
def clsA (l : List Cl) : AV := .rsl l.length 5 (encCls l)
def encF (c : Cl) : List AV := [.int .i64 c.k, sA c.n, argsA c.a, sA c.o, clsA c.kids]
theorem encCls_eq : ∀ l : List Cl, encCls l = l.flatMap encF
  | [] => by simp [encCls]
  | .mk k n a o kids :: r => by
    simp only [encCls, encCl, List.flatMap_cons, encF, Cl.k, Cl.n, Cl.a, Cl.o, Cl.kids, clsA]
    rw [encCls_eq r]
theorem clsA_eq (l : List Cl) : clsA l = dsl 5 encF l := by unfold clsA dsl; rw [encCls_eq]
mutual
/-- how many there are, with what stands in them -/
def Cl.cnt : Cl → Nat
  | .mk _ _ a _ kids => 1 + a.length + cntL kids
def cntL : List Cl → Nat
  | [] => 0
  | c :: r => c.cnt + cntL r
end
mutual
/-- texts that are not too long -/
def Cl.ok : Cl → Prop
  | .mk _ n a o kids => n.length ≤ 2000000 ∧ (∀ i, (a.getD i default).x.length ≤ 2000000) ∧ o.length ≤ 2000000 ∧ okL kids
def okL : List Cl → Prop
  | [] => True
  | c :: r => c.ok ∧ okL r
end
theorem Cl.cnt_eq (c : Cl) : c.cnt = 1 + c.a.length + cntL c.kids := by cases c; rfl
theorem Cl.ok_eq (c : Cl) : c.ok = (c.n.length ≤ 2000000 ∧ (∀ i, (c.a.getD i default).x.length ≤ 2000000) ∧ c.o.length ≤ 2000000 ∧ okL c.kids) := by cases c; rfl
theorem cntL_at : ∀ {l : List Cl} {i : Nat}, i < l.length → (l.getD i default).cnt + cntL (l.take i) ≤ cntL l
  | c :: r, 0, _ => by simp [cntL]
  | c :: r, i + 1, h => by
    have := cntL_at (l := r) (i := i) (by simpa using h)
    simp only [cntL, List.take_succ_cons, List.getD_cons_succ]; omega
theorem cntL_len : ∀ l : List Cl, l.length ≤ cntL l
  | [] => Nat.le_refl _
  | c :: r => by
    have := cntL_len r
    have := c.cnt_eq
    simp only [cntL, List.length_cons]; omega
theorem take_succ' {α : Type} [Inhabited α] : ∀ {l : List α} {i : Nat}, i < l.length → l.take (i + 1) = l.take i ++ [l.getD i default]
  | a :: l, 0, _ => by simp
  | a :: l, i + 1, h => by
    have := take_succ' (l := l) (i := i) (by simpa using h)
    simp [this]
noncomputable def isV (s : Str) : Bool := bd (VarP s)
noncomputable def argV (l : List Ag) : List Str := (l.map Ag.x).filter isV
mutual
noncomputable def Cl.vars : Cl → List Str
  | .mk _ _ a o kids => (argV a ++ (bif isV o then [o] else [])) ++ varsL kids
noncomputable def varsL : List Cl → List Str
  | [] => []
  | c :: r => c.vars ++ varsL r
end
theorem varsL_app : ∀ a b : List Cl, varsL (a ++ b) = varsL a ++ varsL b
  | [], b => rfl
  | c :: a, b => by
    have := varsL_app a b
    simp only [List.cons_append, varsL, this, List.append_assoc]
theorem argV_succ {l : List Ag} {i : Nat} (h : i < l.length) : argV (l.take (i + 1)) = argV (l.take i) ++ (bif isV (l.getD i default).x then [(l.getD i default).x] else []) := by
  unfold argV
  rw [take_succ' h, List.map_append, List.filter_append]
  rw [show List.filter isV (List.map Ag.x [l.getD i default]) = (bif isV (l.getD i default).x then [(l.getD i default).x] else []) by
    show (match isV (l.getD i default).x with | true => _ | false => _) = _
    cases isV (l.getD i default).x <;> rfl]
theorem argV_len (l : List Ag) : (argV l).length ≤ l.length := by
  unfold argV
  have := List.length_filter_le isV (l.map Ag.x)
  simpa using this
mutual
theorem Cl.vars_len : ∀ c : Cl, c.vars.length ≤ c.cnt
  | .mk k n a o kids => by
    have h1 := argV_len a
    have h2 := varsL_len kids
    simp only [Cl.vars, Cl.cnt, List.length_append]
    cases isV o <;> simp <;> omega
theorem varsL_len : ∀ l : List Cl, (varsL l).length ≤ cntL l
  | [] => Nat.le_refl _
  | c :: r => by
    have h1 := Cl.vars_len c
    have h2 := varsL_len r
    simp only [varsL, cntL, List.length_append]; omega
end
end Go.Px.Fv
end
/- FvO -/
section
set_option linter.unusedVariables false
set_option linter.unusedSimpArgs false
set_option maxHeartbeats 4000000
set_option maxRecDepth 20000
namespace Go.Px.Fv
open Go.Proofs
attribute [local irreducible] Go.Px.KOk
/-- an argument that is too long -/
def badA (x : Ag) : Prop := 200 < x.x.length ∨ 1100 < x.v.s.length
mutual
noncomputable def mnC (d n : Int) : Cl → Int
  | .mk k nm a o kids => bif bd (60 < d ∨ 40 < a.length) then 3001 else bif bd (∃ i, i < a.length ∧ badA (a.getD i default)) then 3001 else
      bif bd (3000 < n + 1 + mnL (d + 1) 0 kids ∨ 200 < nm.length ∨ 200 < o.length) then 3001 else n + 1 + mnL (d + 1) 0 kids
noncomputable def mnL (d n : Int) : List Cl → Int
  | [] => n
  | c :: r => bif bd (3000 < mnC d n c) then 3001 else mnL d (mnC d n c) r
end
theorem mnC_eq (d n : Int) (c : Cl) : mnC d n c = bif bd (60 < d ∨ 40 < c.a.length) then 3001 else bif bd (∃ i, i < c.a.length ∧ badA (c.a.getD i default)) then 3001 else
      bif bd (3000 < n + 1 + mnL (d + 1) 0 c.kids ∨ 200 < c.n.length ∨ 200 < c.o.length) then 3001 else n + 1 + mnL (d + 1) 0 c.kids := by cases c; rfl
theorem bif_t {α : Type} {P : Prop} {a b : α} (h : P) : (bif bd P then a else b) = a := by rw [bd_of h]; rfl
theorem bif_f {α : Type} {P : Prop} {a b : α} (h : ¬ P) : (bif bd P then a else b) = b := by rw [bd_no h]; rfl
mutual
theorem mnC_all : ∀ (c : Cl) (d n : Int), 0 ≤ n → n ≤ 3000 → 0 ≤ mnC d n c ∧ mnC d n c ≤ 3001 ∧ (mnC d n c ≤ 3000 → c.cnt + 41 * n ≤ 41 * mnC d n c ∧ c.ok)
  | .mk k nm a o kids, d, n, h0, h1 => by
    have hk := mnL_all kids (d + 1) 0 (by omega) (by omega)
    simp only [mnC]
    by_cases c1 : 60 < d ∨ 40 < a.length
    · rw [bif_t c1]; exact ⟨by omega, by omega, fun h => by omega⟩
    rw [bif_f c1]
    by_cases c2 : ∃ i, i < a.length ∧ badA (a.getD i default)
    · rw [bif_t c2]; exact ⟨by omega, by omega, fun h => by omega⟩
    rw [bif_f c2]
    by_cases c3 : 3000 < n + 1 + mnL (d + 1) 0 kids ∨ 200 < nm.length ∨ 200 < o.length
    · rw [bif_t c3]; exact ⟨by omega, by omega, fun h => by omega⟩
    rw [bif_f c3]
    have hk2 := hk.2.2 (by omega)
    refine ⟨by omega, by omega, fun h => ⟨?_, ?_⟩⟩
    · simp only [Cl.cnt]; omega
    · refine ⟨by omega, fun i => ?_, by omega, hk2.2⟩
      by_cases hi : i < a.length
      · by_cases hb : 200 < (a.getD i default).x.length
        · exact absurd ⟨i, hi, .inl hb⟩ c2
        · omega
      · have e : a.getD i default = default := by
          rw [List.getD_eq_getElem?_getD, List.getElem?_eq_none (by omega)]; rfl
        rw [e]
        exact Nat.zero_le _
theorem mnL_all : ∀ (l : List Cl) (d n : Int), 0 ≤ n → n ≤ 3000 → 0 ≤ mnL d n l ∧ mnL d n l ≤ 3001 ∧ (mnL d n l ≤ 3000 → cntL l + 41 * n ≤ 41 * mnL d n l ∧ okL l)
  | [], d, n, h0, h1 => by simp only [mnL, cntL, okL]; exact ⟨by omega, by omega, fun _ => ⟨by omega, trivial⟩⟩
  | c :: r, d, n, h0, h1 => by
    have hc := mnC_all c d n h0 h1
    simp only [mnL]
    by_cases c1 : 3000 < mnC d n c
    · rw [bif_t c1]; exact ⟨by omega, by omega, fun h => by omega⟩
    rw [bif_f c1]
    have hr := mnL_all r d (mnC d n c) hc.1 (by omega)
    have hc2 := hc.2.2 (by omega)
    refine ⟨hr.1, hr.2.1, fun h => ?_⟩
    have hr2 := hr.2.2 h
    refine ⟨?_, hc2.2, hr2.2⟩
    have e : ((cntL (c :: r) : Nat) : Int) = c.cnt + cntL r := by simp only [cntL]; omega
    omega
end
theorem drop_at {α : Type} [Inhabited α] {l : List α} {i : Nat} (h : i < l.length) : l.drop i = l.getD i default :: l.drop (i + 1) := by
  rw [List.drop_eq_getElem_cons h, List.getD_eq_getElem?_getD, List.getElem?_eq_getElem h]; rfl
theorem mnL_drop {d n : Int} {l : List Cl} {i : Nat} (h : i < l.length) : mnL d n (l.drop i) = bif bd (3000 < mnC d n (l.getD i default)) then 3001 else mnL d (mnC d n (l.getD i default)) (l.drop (i + 1)) := by
  rw [drop_at h]; rfl
theorem k20 : ∀ (N : Nat) (l : List Cl) (d : Int), cntL l < N → cntL l ≤ 2000000 → 0 ≤ d → d ≤ 61 → KOk cF 5 [clsA l, .int .i64 d] (.int .i64 (mnL d 0 l)) := by
  intro N
  induction N with
  | zero => intro l d hN; omega
  | succ N IH =>
  intro l d hN hb hd0 hd1
  have hlen := cntL_len l
  rw [clsA_eq]
  refine KOk.of cF_ok eF.g Tryz.func5 rfl (Nat.le_of_ble_eq_true rfl) fun w F => ?_
  repeat' first | refine Go.seq ?_ | refine Go.region rfl ?_ | refine Ops.nil ?_ | refine Ops.val eF rfl rfl (by first | exact Want.no rfl | exact Want.tT rfl rfl rfl rfl | exact Want.fF rfl rfl rfl rfl) (by first | exact Hop.assign rfl rfl) ?_ | refine Go.block ?_
  refine Go.loop (fun q : Nat × Int => [(0, dsl 5 encF l), (1, .int .i64 d), (5, .int .i64 q.2), (6, .int .i64 q.1)]) (fun _ => hS) (fun q => q.1 ≤ l.length ∧ 0 ≤ q.2 ∧ q.2 ≤ 3000 ∧ mnL d q.2 (l.drop q.1) = mnL d 0 l) (fun q => l.length - q.1) (0, 0) ⟨Nat.zero_le _, Int.le_refl _, by decide, rfl⟩ ⟨rfl, rfl, rfl, rfl, trivial⟩ rfl (fun q hP ih => ?_)
  obtain ⟨i, n⟩ := q
  obtain ⟨hi, hn0, hn1, he⟩ := hP
  simp only at hi hn0 hn1 he ⊢
  have hki := fun (hlt : i < l.length) => cntL_at (l := l) (i := i) hlt
  rw [Cl.cnt_eq] at hki
  have out : ∀ (hlt : i < l.length), 3000 < mnC d n (l.getD i default) → one [ofV (Value.int .i64 3001)] = AV.int .i64 (mnL d 0 l) := fun hlt h => by
    rw [← he, mnL_drop hlt, bif_t h]; rfl
  by_cases c0 : (i : Int) < (l.length : Int)
  rotate_left
  · have ei : i = l.length := by omega
    subst ei
    rw [List.drop_length] at he
    repeat' first | refine Go.seq ?_ | refine Go.region rfl ?_ | refine Ops.nil ?_ | refine Ops.val eF rfl rfl (by first | exact Want.no rfl | exact Want.tT rfl rfl rfl rfl | exact Want.fF rfl rfl rfl rfl) (by first | exact Hop.move rfl rfl | exact Hop.assign rfl rfl | exact Hop.lss rfl rfl rfl | exact Hop.lenD eF rfl rfl rfl rfl rfl rfl rfl) ?_ | refine Go.condFt rfl (by first | assumption | decide) ?_ | refine Go.exit rfl ?_ | refine Go.retF rfl ?_ rfl
    all_goals (rw [← he]; rfl)
  have hlt : i < l.length := by omega
  have hc := hki hlt
  rw [mnL_drop hlt] at he
  replace out := out hlt
  have hmn := mnC_eq d n (l.getD i default)
  have hkid := mnL_all (l.getD i default).kids (d + 1) 0 (by omega) (by omega)
  repeat' first | refine Go.seq ?_ | refine Go.region rfl ?_ | refine Ops.nil ?_ | refine Ops.val eF rfl rfl (by first | exact Want.no rfl | exact Want.tT rfl rfl rfl rfl | exact Want.fF rfl rfl rfl rfl) (by first | exact Hop.move rfl rfl | exact Hop.assign rfl rfl | exact Hop.pickT rfl rfl rfl | exact Hop.pickF rfl rfl rfl | exact Hop.lss rfl rfl rfl | exact Hop.gtr rfl rfl rfl | exact Hop.faR eF rfl rfl rfl rfl rfl rfl rfl | exact Hop.idx eF rfl rfl rfl rfl rfl rfl rfl (fun _ => rfl) (by omega) | exact Hop.ldR eF rfl rfl rfl rfl rfl | exact Hop.lenD eF rfl rfl rfl rfl rfl rfl rfl) ?_ | refine Ops.skip rfl rfl (by first | exact Want.fT rfl rfl rfl rfl | exact Want.tF rfl rfl rfl rfl | exact Want.und rfl rfl rfl rfl) ?_ | refine Ops.gP rfl rfl (fun _ => ?_) (fun _ => ?_) | refine Go.condT rfl ?_ | refine Go.condTt rfl (by first | assumption | decide) ?_ | refine Go.condPt rfl (fun _ => ?_) (fun _ => ?_) | refine Go.block ?_ | refine Go.skip ?_ | refine Go.retF rfl ?_ rfl
  all_goals try simp only [Int.toNat_natCast] at *
  · exact out (by rw [hmn, bif_t (.inl (by assumption))]; decide)
  · exact out (by rw [hmn, bif_t (.inr (by omega))]; decide)
  rename_i c1 c2
  rw [bif_f (by omega : ¬ (60 < d ∨ 40 < (l.getD i default).a.length))] at hmn
  refine Go.loop (fun j : Nat => [(0, dsl 5 encF l), (1, .int .i64 d), (5, .int .i64 n), (6, .int .i64 i), (31, .int .i64 (l.getD i default).a.length), (32, .int .i64 j)]) (fun _ => hS) (fun j => j ≤ (l.getD i default).a.length ∧ ∀ t, t < j → ¬ badA ((l.getD i default).a.getD t default)) (fun j => (l.getD i default).a.length - j) 0 ⟨Nat.zero_le _, fun t ht => absurd ht (Nat.not_lt_zero _)⟩ ⟨rfl, rfl, rfl, rfl, rfl, rfl, trivial⟩ rfl (fun j hj ih2 => ?_)
  obtain ⟨hj, hjn⟩ := hj
  by_cases c3 : (j : Int) < ((l.getD i default).a.length : Int)
  · have hjl : j < (l.getD i default).a.length := by omega
    have hjl' : j < (l.getD (i : Int).toNat default).a.length := hjl
    repeat' first | refine Go.seq ?_ | refine Go.region rfl ?_ | refine Ops.nil ?_ | refine Ops.val eF rfl rfl (by first | exact Want.no rfl | exact Want.tT rfl rfl rfl rfl | exact Want.fF rfl rfl rfl rfl) (by first | exact Hop.move rfl rfl | exact Hop.assign rfl rfl | exact Hop.pickT rfl rfl rfl | exact Hop.pickF rfl rfl rfl | exact Hop.lss rfl rfl rfl | exact Hop.gtr rfl rfl rfl | exact Hop.add rfl rfl rfl (by omega) | exact Hop.faR eF rfl rfl rfl rfl rfl rfl rfl | exact Hop.idx eF rfl rfl rfl rfl rfl rfl rfl (fun _ => rfl) (by omega) | exact Hop.ldR eF rfl rfl rfl rfl rfl | exact Hop.lenS eF rfl rfl rfl rfl rfl rfl rfl) ?_ | refine Ops.skip rfl rfl (by first | exact Want.fT rfl rfl rfl rfl | exact Want.tF rfl rfl rfl rfl | exact Want.und rfl rfl rfl rfl) ?_ | refine Ops.gP rfl rfl (fun _ => ?_) (fun _ => ?_) | refine Go.condT rfl ?_ | refine Go.condTt rfl (by first | assumption | decide) ?_ | refine Go.condPt rfl (fun _ => ?_) (fun _ => ?_) | refine Go.block ?_ | refine Go.unblk ?_ | refine Go.skip ?_ | refine Go.retF rfl ?_ rfl
    all_goals try simp only [Int.toNat_natCast] at *
    · exact out (by rw [hmn, bif_t ⟨j, hjl, .inl (by omega)⟩]; decide)
    · exact out (by rw [hmn, bif_t ⟨j, hjl, .inr (by omega)⟩]; decide)
    · rename_i c4 c5
      refine Go.to (ih2 (j + 1) ⟨by omega, fun t ht => ?_⟩ (by omega)) ⟨rfl, rfl, rfl, rfl, rfl, rfl, trivial⟩
      rcases lt_succ_cases ht with h | rfl
      · exact hjn t h
      · rintro (h | h) <;> omega
  · have ej : j = (l.getD i default).a.length := by omega
    subst ej
    rw [bif_f (fun ⟨t, ht, hb⟩ => hjn t ht hb)] at hmn
    repeat' first | refine Go.seq ?_ | refine Go.region rfl ?_ | refine Ops.nil ?_ | refine Ops.val eF rfl rfl (by first | exact Want.no rfl | exact Want.tT rfl rfl rfl rfl | exact Want.fF rfl rfl rfl rfl) (by first | exact Hop.move rfl rfl | exact Hop.assign rfl rfl | exact Hop.pickT rfl rfl rfl | exact Hop.pickF rfl rfl rfl | exact Hop.lss rfl rfl rfl | exact Hop.gtr rfl rfl rfl | exact Hop.add rfl rfl rfl (by omega) | exact Hop.faR eF rfl rfl rfl rfl rfl rfl rfl | exact Hop.idx eF rfl rfl rfl rfl rfl rfl rfl (fun _ => rfl) (by omega) | exact Hop.ldR eF rfl rfl rfl rfl rfl | exact Hop.lenS eF rfl rfl rfl rfl rfl rfl rfl) ?_ | refine Ops.skip rfl rfl (by first | exact Want.fT rfl rfl rfl rfl | exact Want.tF rfl rfl rfl rfl | exact Want.und rfl rfl rfl rfl) ?_ | refine Ops.gP rfl rfl (fun _ => ?_) (fun _ => ?_) | refine Ops.call eF rfl rfl (by first | exact Want.no rfl | exact Want.tT rfl rfl rfl rfl | exact Want.fF rfl rfl rfl rfl) rfl rfl rfl rfl (IH (l.getD i default).kids (d + 1) (by omega) (by omega) (by omega) (by omega)) rfl ?_ | refine Go.condT rfl ?_ | refine Go.condFt rfl (by first | assumption | decide) ?_ | refine Go.condPt rfl (fun _ => ?_) (fun _ => ?_) | refine Go.unblk ?_ | refine Go.skip ?_ | refine Go.exit rfl ?_ | refine Go.retF rfl ?_ rfl
    all_goals try simp only [Int.toNat_natCast] at *
    · exact out (by rw [hmn, bif_t (.inl (by omega))]; decide)
    · exact out (by rw [hmn, bif_t (.inr (.inl (by omega)))]; decide)
    · exact out (by rw [hmn, bif_t (.inr (.inr (by omega)))]; decide)
    · rename_i c4 c5 c6
      rw [bif_f (by omega)] at hmn
      rw [bif_f (by omega), hmn] at he
      refine Go.to (ih (i + 1, n + 1 + mnL (d + 1) 0 (l.getD i default).kids) ⟨by show i + 1 ≤ _; omega, by show 0 ≤ n + 1 + _; omega, by show n + 1 + _ ≤ _; omega, he⟩ (by show l.length - (i + 1) < l.length - i; omega)) ⟨rfl, rfl, rfl, rfl, trivial⟩
end Go.Px.Fv
end
/- FvB -/
section
set_option linter.unusedVariables false
set_option linter.unusedSimpArgs false
set_option maxHeartbeats 4000000
set_option maxRecDepth 20000
namespace Go.Px.Fv
open Go.Proofs
attribute [local irreducible] Go.Px.KOk
noncomputable def r8_0 : List Oper := ((drawn (Tryz.f8.body.getD .skip))[0]?).getD []
theorem dr8_0 : chkOrd cF r8_0 [0, 1, 2, 3, 4, 5, 6, 7, 8] = true := by kernel_rfl
theorem k13 (a b : List Str) (ha : a.length ≤ 2000000) : KOk cF 8 [strsA a, strsA b] (.bool (bd (a = b))) := by
  refine KOk.of cF_ok eF.g Tryz.func8 rfl (Nat.le_of_ble_eq_true rfl) fun w F => ?_
  repeat' first | refine Go.seq ?_ | refine Go.region rfl ?_ | refine Ops.nil ?_ | refine Ops.val eF rfl rfl (by first | exact Want.no rfl | exact Want.tT rfl rfl rfl rfl | exact Want.fF rfl rfl rfl rfl) (by first | exact Hop.move rfl rfl | exact Hop.assign rfl rfl | exact Hop.neq rfl rfl rfl | exact Hop.lenD eF rfl rfl rfl rfl rfl rfl rfl) ?_ | refine Go.condNt rfl (fun _ => ?_) (fun _ => ?_) | refine Go.block ?_ | refine Go.skip ?_ | refine Go.retF rfl ?_ rfl
  · rename_i q
    exact out_f fun e => q (by rw [e])
  rename_i q
  have hlen : a.length = b.length := by omega
  refine Go.loop (fun i : Nat => [(0, strsA a), (1, strsA b), (12, .int .i64 a.length), (13, .int .i64 i)]) (fun _ => hS) (fun i => i ≤ a.length ∧ ∀ j, j < i → a.getD j default = b.getD j default) (fun i => a.length - i) 0 ⟨by omega, fun j hj => by omega⟩ ⟨rfl, rfl, rfl, rfl, trivial⟩ rfl (fun i hP ih => ?_)
  obtain ⟨hi, hn⟩ := hP
  have hib : i < a.length → i < b.length := fun q => by omega
  repeat' first | refine Go.seq ?_ | refine Go.region rfl ?_ | refine Ops.nil ?_ | refine Ops.val eF rfl rfl (by first | exact Want.no rfl | exact Want.tT rfl rfl rfl rfl | exact Want.fF rfl rfl rfl rfl) (by first | exact Hop.move rfl rfl | exact Hop.assign rfl rfl | exact Hop.lss rfl rfl rfl) ?_ | refine Go.condPt rfl (fun _ => ?_) (fun _ => ?_) | refine Go.block ?_ | refine Go.skip ?_ | refine Go.exit rfl ?_ | refine Go.retF rfl ?_ rfl
  all_goals try simp only [Int.toNat_natCast] at *
  case refine_2 =>
    refine out_t ?_
    refine List.ext_getElem hlen fun j h1 h2 => ?_
    have := hn j (by omega)
    rwa [List.getD_eq_getElem?_getD, List.getD_eq_getElem?_getD, List.getElem?_eq_getElem h1, List.getElem?_eq_getElem h2] at this
  refine Go.draw eF hm [] [0, 1, 2, 3, 4, 5, 6, 7, 8] dr8_0 ?_
  repeat' first | refine Dr.nil ?_ | refine Dr.pure rfl rfl rfl rfl (by first | exact Want.no rfl | exact Want.tT rfl rfl rfl rfl | exact Want.fF rfl rfl rfl rfl) (by first | exact Hop.move rfl rfl | exact Hop.neS rfl rfl rfl | exact Hop.idx eF rfl rfl rfl rfl rfl rfl rfl (fun _ => rfl) (by omega) | exact Hop.ldR eF rfl rfl rfl rfl rfl) ?_ | refine Dr.light rfl rfl rfl rfl (by first | exact Want.no rfl | exact Want.tT rfl rfl rfl rfl | exact Want.fF rfl rfl rfl rfl) (by first | exact Hop.ldR eF rfl rfl rfl rfl rfl) ?_
  repeat' first | refine Go.seq ?_ | refine Go.region rfl ?_ | refine Ops.nil ?_ | refine Ops.val eF rfl rfl (by first | exact Want.no rfl | exact Want.tT rfl rfl rfl rfl | exact Want.fF rfl rfl rfl rfl) (by first | exact Hop.move rfl rfl | exact Hop.assign rfl rfl | exact Hop.add rfl rfl rfl (by omega)) ?_ | refine Go.condNt rfl (fun _ => ?_) (fun _ => ?_) | refine Go.unblk ?_ | refine Go.skip ?_ | refine Go.retF rfl ?_ rfl
  all_goals try simp only [Int.toNat_natCast] at *
  all_goals first
    | (rename_i q
       exact out_f fun e => q (by rw [e]))
    | (rename_i q
       refine Go.to (ih (i + 1) ⟨by omega, fun j hj => ?_⟩ (by omega)) ⟨rfl, rfl, rfl, rfl, trivial⟩
       rcases lt_succ_cases hj with h | rfl
       · exact hn j h
       · exact q)
end Go.Px.Fv
end
/- PxVe -/
section
set_option linter.unusedVariables false
set_option linter.unusedSimpArgs false
namespace Go.Px

theorem leave_cons (h : Heap) (d : Nat) (m : List Nat) : leave h (d :: m) = (match h.get d with
      | .dfr b => (match b with | true => leave (h.put d (.dfr false)) m | false => none)
      | _ => none) := rfl
theorem leave_all : ∀ {m : List Nat} {h : Heap}, (∀ d ∈ m, h.get d = .dfr true) → m.Nodup → ∃ h', leave h m = some h' ∧ ∀ i, i ∉ m → h'.get i = h.get i
  | [], h, _, _ => ⟨h, rfl, fun _ _ => rfl⟩
  | d :: m, h, hd, hn => by
    have h1 := hd d List.mem_cons_self
    obtain ⟨hn1, hn2⟩ := List.nodup_cons.1 hn
    obtain ⟨h', q1, q2⟩ := leave_all (m := m) (h := h.put d (.dfr false)) (fun x hx => by
      rw [Heap.get_put, if_neg (fun e => hn1 (by rw [← e]; exact hx))]; exact hd x (List.mem_cons_of_mem _ hx)) hn2
    refine ⟨h', ?_, fun i hi => ?_⟩
    · rw [leave_cons, h1]; exact q1
    · rw [q2 i (fun q => hi (List.mem_cons_of_mem _ q)), Heap.get_put, if_neg (fun e => hi (by rw [e]; exact List.mem_cons_self))]

/-- a block of what was put off that is told of no more -/
structure Hid (X : Cx) (ρ : Map) (S : Nat → Prop) (n0 : Nat) (w : World) (B : Nat) : Prop where
  lt : B < w.heap.size
  at_ : w.heap[B]? = some (.deferred (some []))
  im : ∀ i N, ρ i ≠ some (B, N)
  F : ρ.F B = []
  sh : ¬ X.shut B
  S : ¬ S B
  n0 : n0 ≤ B
/-- it is told of again -/
theorem PI.addDfr {X : Cx} {ρ : Map} {h : Heap} {w : World} (p : PI X ρ h w) {S : Nat → Prop} {Fo : Nat → List Value} {n0 : Nat} (g : GhW X ρ h w S Fo) (hn0 : ∀ G, X.g = some G → G.n0 ≤ n0) (h1 : X.g = none ∨ 2 ≤ h.nxt) {B : Nat} (hB : Hid X ρ S n0 w B) :
    PI X ⟨fun i => if i = h.nxt then some (B, 0) else ρ i, ρ.F, ρ.V⟩ (h.new (.dfr true)) w ∧ GhW X ⟨fun i => if i = h.nxt then some (B, 0) else ρ i, ρ.F, ρ.V⟩ (h.new (.dfr true)) w S Fo := by
  let ρ' : Map := ⟨fun i => if i = h.nxt then some (B, 0) else ρ i, ρ.F, ρ.V⟩
  have m1 : ρ' h.nxt = some (B, 0) := if_pos rfl
  have m2 : ∀ i, i ≠ h.nxt → ρ' i = ρ i := fun i q => if_neg q
  have hs : Sub ρ ρ' := ⟨fun i q e => by rw [m2 i (fun k => by subst k; rw [p.fr.1 _ (Nat.le_refl _)] at e; cases e)]; exact e, fun _ _ _ e => e, fun _ _ _ e => e⟩
  have hg : ∀ j, j ≠ h.nxt → (h.new (.dfr true)).get j = h.get j := fun j q => by rw [Heap.get_new, if_neg q]
  have hn : (h.new (.dfr true)).get h.nxt = .dfr true := by rw [Heap.get_new, if_pos rfl]
  have ho : ∀ j, j ≠ h.nxt → ((h.new (.dfr true)).ok j ↔ h.ok j) := fun j q => Heap.ok_same (hg j q) (fun _ _ _ _ => rfl)
  have hc : ∀ i C N, ρ' i = some (C, N) → (i = h.nxt ∧ C = B) ∨ (i ≠ h.nxt ∧ ρ i = some (C, N)) := fun i C N e => by
    by_cases q : i = h.nxt
    · subst q; rw [m1] at e; cases e; exact .inl ⟨rfl, rfl⟩
    · rw [m2 i q] at e; exact .inr ⟨q, e⟩
  have gw : GhW X ρ' (h.new (.dfr true)) w S Fo := fun G hG t z n l e => by
    have hnx : 2 ≤ h.nxt := h1.resolve_left (fun q => by rw [q] at hG; cases hG)
    rw [hg 0 (by omega)] at e
    obtain ⟨s1, s2, s3, s4, s5, s6, ⟨N1, s7⟩, s8⟩ := g G hG t z n l e
    refine ⟨s1, s2, fun i C N e o => ?_, s4, s5, s6, ⟨N1, by rw [m2 1 (by omega)]; exact s7⟩, s8⟩
    rcases hc i C N e with ⟨_, rfl⟩ | ⟨q, e⟩
    · exact ⟨hB.S, Nat.le_trans (hn0 G hG) hB.n0⟩
    · exact s3 i C N e ((ho i q).1 o)
  refine ⟨⟨⟨fun i C N e => ?_, fun i C N e q => ?_, fun i j C N M hij e1 e2 k1 k2 => ?_, fun i r q => ?_, p.hr.fz, fun i C N e q => ?_, fun i t' z' n l q => ?_⟩, ⟨fun i hi => ?_, fun i r q e1 e2 => ?_, fun i r q t e1 e2 e3 => ?_, fun q hq => p.wf.tipr q (Nat.le_of_succ_le hq)⟩, ⟨fun i hi => ?_, fun i r q => ?_⟩, fun i hi n => p.vf i (Nat.le_of_succ_le hi) n, fun i t' z' n l q m' hm => ?_, p.ext, fun i C N e => ?_, p.sub, p.old, p.keep.mono hs, gw.gh⟩, gw⟩
  · rcases hc i C N e with ⟨_, rfl⟩ | ⟨q, e⟩
    · exact hB.lt
    · exact p.hr.lt i C N e
  · rcases hc i C N e with ⟨rfl, rfl⟩ | ⟨hi, e⟩
    · rw [hn]; exact hB.at_
    · rw [hg i hi]; exact (p.hr.ok i C N e ((ho i hi).1 q)).mono hs
  · rcases hc i C N e1 with ⟨rfl, rfl⟩ | ⟨hi, e1⟩
    · rcases hc j C M e2 with ⟨rfl, _⟩ | ⟨hj, e2⟩
      · exact absurd rfl hij
      · exact absurd e2 (hB.im j M)
    · rcases hc j C M e2 with ⟨_, hCB⟩ | ⟨hj, e2⟩
      · rw [hCB] at e1; exact absurd e1 (hB.im i N)
      · obtain ⟨r, s, q, a, b, c⟩ := p.hr.inj i j C N M hij e1 e2 ((ho i hi).1 k1) ((ho j hj).1 k2)
        exact ⟨r, s, q, by rw [hg i hi]; exact a, by rw [hg j hj]; exact b, c⟩
  · by_cases hi : i = h.nxt
    · subst hi; rw [hn] at q; cases q
    · rw [hg i hi] at q
      obtain ⟨N, hN⟩ := p.hr.gl i r q
      exact ⟨N, by rw [m2 i hi]; exact hN⟩
  · rcases hc i C N e with ⟨_, rfl⟩ | ⟨hi, e⟩
    · exact .inl hB.F
    · rw [hg i hi]; exact p.hr.sep i C N e ((ho i hi).1 q)
  · by_cases hi : i = h.nxt
    · subst hi; rw [hn] at q; cases q
    · rw [hg i hi] at q; exact (p.hr.av i t' z' n l q).mono hs
  · have hi' : h.nxt + 1 ≤ i := hi
    rw [hg i (by omega)]; exact p.wf.fresh i (by omega)
  · by_cases hi : i = h.nxt
    · subst hi; rw [hn] at e1; cases e1
    · rw [hg i hi] at e1; exact Nat.lt_succ_of_lt (p.wf.root i r q e1 e2)
  · by_cases hi : i = h.nxt
    · subst hi; rw [hn] at e1; cases e1
    · rw [hg i hi] at e1
      obtain ⟨s, a, c⟩ := p.wf.tip i r q t e1 e2 e3
      exact ⟨s, by rw [hg t (fun k => by subst k; rw [p.wf.fresh _ (Nat.le_refl _)] at a; cases a)]; exact a, c⟩
  · have hi' : h.nxt + 1 ≤ i := hi
    rw [m2 i (by omega)]; exact p.fr.1 i (by omega)
  · have := p.fr.2 i r q
    rw [hg i (fun k => by subst k; rw [p.wf.fresh _ (Nat.le_refl _)] at this; cases this)]; exact this
  · by_cases hi : i = h.nxt
    · subst hi; rw [hn] at q; cases q
    · rw [hg i hi] at q; exact p.vu i t' z' n l q m' hm
  · rcases hc i C N e with ⟨_, rfl⟩ | ⟨q, e⟩
    · exact hB.sh
    · exact p.mine i C N e
/-- all of it -/
theorem PI.unhide {X : Cx} {S : Nat → Prop} {Fo : Nat → List Value} {n0 : Nat} {w : World} (hn0 : ∀ G, X.g = some G → G.n0 ≤ n0) : ∀ (Hs : List Nat) {ρ : Map} {h : Heap}, PI X ρ h w → GhW X ρ h w S Fo → (X.g = none ∨ 2 ≤ h.nxt) → (∀ B ∈ Hs, Hid X ρ S n0 w B) → Hs.Nodup →
    ∃ ρ' h' ids, PI X ρ' h' w ∧ GhW X ρ' h' w S Fo ∧ MR ρ' ids (Hs.map colD) ∧ Sub ρ ρ' ∧ (∀ i, i < h.nxt → h'.get i = h.get i) ∧ (∀ d ∈ ids, h.nxt ≤ d ∧ h'.get d = .dfr true) ∧ ids.Nodup ∧ h.nxt ≤ h'.nxt ∧ ∀ C, (∀ i N, ρ i ≠ some (C, N)) → C ∉ Hs → ∀ i N, ρ' i ≠ some (C, N)
  | [], ρ, h, p, g, _, _, _ => ⟨ρ, h, [], p, g, rfl, Sub.refl _, fun _ _ => rfl, fun _ q => (by cases q), List.nodup_nil, Nat.le_refl _, fun C hC _ => hC⟩
  | B :: Hs, ρ, h, p, g, h1, hH, hnd => by
    obtain ⟨nd1, nd2⟩ := List.nodup_cons.1 hnd
    obtain ⟨ρ1, k1, ids, p1, g1, m1, s1, q1, q2, q3, q4, q5⟩ := PI.unhide hn0 Hs p g h1 (fun C hC => hH C (List.mem_cons_of_mem _ hC)) nd2
    have hB := hH B List.mem_cons_self
    have hF : ρ1.F B = [] := by
      exact Classical.byContradiction fun q => by
        have := p1.hr.F_lt q
        obtain ⟨x, hx⟩ := List.exists_mem_of_ne_nil _ q
        obtain ⟨i, hi⟩ := List.getElem?_of_mem hx
        have := p1.hr.fz B i x hi
        unfold World.cell? at this
        rw [hB.at_] at this
        simp at this
    have hB1 : Hid X ρ1 S n0 w B := ⟨hB.lt, hB.at_, q5 B hB.im nd1, hF, hB.sh, hB.S, hB.n0⟩
    obtain ⟨p2, g2⟩ := p1.addDfr g1 hn0 (h1.imp id fun q => Nat.le_trans q q4) hB1
    have hs : Sub ρ1 ⟨fun i => if i = k1.nxt then some (B, 0) else ρ1 i, ρ1.F, ρ1.V⟩ := ⟨fun i q e => by
      show (if i = k1.nxt then some (B, 0) else ρ1 i) = some q
      rw [if_neg (fun k => by subst k; rw [p1.fr.1 _ (Nat.le_refl _)] at e; cases e)]; exact e, fun _ _ _ e => e, fun _ _ _ e => e⟩
    refine ⟨_, _, k1.nxt :: ids, p2, g2, ?_, s1.trans hs, fun i hi => ?_, fun d hd => ?_, ?_, ?_, fun C hC hCn i N e => ?_⟩
    · exact ⟨B, 0, _, if_pos rfl, m1.mono hs, rfl⟩
    · rw [Heap.get_new, if_neg (by omega)]; exact q1 i hi
    · rcases List.mem_cons.1 hd with rfl | hd
      · exact ⟨q4, by rw [Heap.get_new, if_pos rfl]⟩
      · obtain ⟨a, b⟩ := q2 d hd
        refine ⟨a, ?_⟩
        rw [Heap.get_new, if_neg (fun k => by subst k; rw [p1.wf.fresh _ (Nat.le_refl _)] at b; cases b)]; exact b
    · refine List.nodup_cons.2 ⟨fun hd => ?_, q3⟩
      obtain ⟨a, b⟩ := q2 _ hd
      rw [p1.wf.fresh _ (Nat.le_refl _)] at b; cases b
    · exact Nat.le_succ_of_le q4
    · have e' : (if i = k1.nxt then some (B, 0) else ρ1 i) = some (C, N) := e
      by_cases q : i = k1.nxt
      · rw [if_pos q] at e'; cases e'; exact hCn List.mem_cons_self
      · rw [if_neg q] at e'; exact q5 C hC (fun q => hCn (List.mem_cons_of_mem _ q)) i N e'
/-! ## the loop -/
def LoopW (P : Program) (ro : Option Nat) (c : Code) (Q' : Exit → Act → World → Prop) (a : Act) (w : World) : Prop :=
  ∀ (b : Frame) (kk : List Item) (cs : List Frame), b.roundOf = (wideR ro).round → (wideR ro).fn b.fn → (wideR ro).room (cs.length + 1 + 0) → ∃ e a'' w'', Q' e a'' w'' ∧ ArrivesIn (Machine.fenced P (wideR ro)) P (lone (b.atR a (.code c :: .inLoop c :: kk)) cs w) b kk cs e a'' w''
theorem LoopW.next {P : Program} {ro : Option Nat} {c : Code} {Q' : Exit → Act → World → Prop} {a : Act} {w : World} (key : c.wpIn (wideR ro) 0 P (fun e a' w' => match e with
      | .normal => LoopW P ro c Q' a' w'
      | e => (∃ x, e = exitOf x ∧ x ≠ .normal) ∧ Q' e a' w') a w) : LoopW P ro c Q' a w := by
  intro b kk cs hro hb hroom
  obtain ⟨e, a₁, w₁, hq, harr⟩ := key b (.inLoop c :: kk) cs hro hb hroom
  cases e with
  | normal =>
    obtain ⟨e₂, a₂, w₂, hq₂, harr₂⟩ := hq b kk cs hro hb hroom
    exact ⟨e₂, a₂, w₂, hq₂, .of_steps (StepsIn.trans harr (.one (fenced_calm hb hroom rfl) stepR_inLoop)) harr₂⟩
  | exit id => exact ⟨_, a₁, w₁, hq.2, .pass (x := .inLoop c) rfl (fun _ _ => .inl (by simp)) harr⟩
  | ret => exact ⟨_, a₁, w₁, hq.2, .pass (x := .inLoop c) rfl (fun _ _ => .inl (by simp)) harr⟩
  | goto l => obtain ⟨x, hx, _⟩ := hq.1; cases x <;> cases hx
  | panic ch => obtain ⟨x, hx, _⟩ := hq.1; cases x <;> cases hx
  | outgrown => obtain ⟨x, hx, _⟩ := hq.1; cases x <;> cases hx
theorem MR.blocks {ρ : Map} : ∀ {m : List Nat} {D : List Deferred}, MR ρ m D → ∃ Bs : List Nat, D = Bs.map colD ∧ Bs.length = m.length ∧ ∀ (j d : Nat), m[j]? = some d → ∃ B N, Bs[j]? = some B ∧ ρ d = some (B, N)
  | [], D, h => ⟨[], by simpa [MR] using h, rfl, fun j d e => by simp at e⟩
  | d :: m, D, h => by
    obtain ⟨B, N, r, a, b, c⟩ := h
    obtain ⟨Bs, e1, e2, e3⟩ := MR.blocks b
    refine ⟨B :: Bs, by rw [c, e1]; rfl, by simp [e2], fun j d' e => ?_⟩
    cases j with
    | zero => simp at e; subst e; exact ⟨B, N, rfl, a⟩
    | succ j => exact e3 j d' (by simpa using e)
structure B2 where
  w0 : World
  F0 : Nat → List Value
  opn : Nat → Prop
  hid : List Nat
def XR (X : Cx) (b : B2) : Cx := ⟨X.c, b.w0, b.F0, b.opn, X.g, X.ro, b.hid, X.gv, X.gx⟩
def liveFrom : List AB → Nat → Bool
  | [], _ => true
  | .none :: r, i => (match Nat.beq i 1 with | true => liveFrom r (i + 1) | false => false)
  | _ :: r, i => liveFrom r (i + 1)
theorem live_at : ∀ {bs : List AB} {i j : Nat} {b : AB}, liveFrom bs i = true → bs[j]? = some b → b ≠ .none ∨ i + j = 1
  | [], i, j, b, _, e => by simp at e
  | x :: r, i, j, b, h, e => by
    have step : liveFrom r (i + 1) = true ∧ (x = .none → i = 1) := by
      cases x <;> simp only [liveFrom] at h <;> first | exact ⟨h, fun q => by cases q⟩ | skip
      split at h
      · rename_i q; exact ⟨h, fun _ => beqT q⟩
      · cases h
    cases j with
    | zero =>
      simp at e; subst e
      by_cases q : x = .none
      · exact .inr (by rw [step.2 q])
      · exact .inl q
    | succ j =>
      rcases live_at (bs := r) (j := j) step.1 (by simpa using e) with q | q
      · exact .inl q
      · exact .inr (by omega)
/-- so it ends -/
def EndB (h : Heap) (m : List Nat) (N : Nat) : Prop := (∃ t z n l, h.get 0 = .arr t z n l ∧ (z = N ∨ z = N + 1)) ∧ (∀ d ∈ m, h.get d = .dfr true) ∧ m.Nodup ∧ Nat.ble 2 h.nxt = true
/-- behind a round of the loop -/
def LB (St : Nat → List (Nat × AV)) (Hb : Nat → List AB) (id T i N NN : Nat) : Post := fun x s =>
  match x with
  | .normal => i < T ∧ Has s.e (St (i + 1)) ∧ getsP s.h (Hb (i + 1)) 0 ∧ Nat.ble NN s.h.nxt = true ∧ (∀ d ∈ s.m, NN ≤ d ∧ s.h.get d = .dfr true) ∧ s.m.Nodup
  | .exit j => j = id ∧ EndB s.h s.m N
  | .ret => EndB s.h s.m N
theorem Go.nextB {X : Cx} {b : B2} {sz : Nat} {L : List (Nat × AV)} {h : Heap} {m : List Nat} {St : Nat → List (Nat × AV)} {Hb : Nat → List AB} {id T i N NN : Nat} (hT : i < T) (hs : SubL L (St (i + 1))) (hb : getsP h (Hb (i + 1)) 0) (hn : Nat.ble NN h.nxt = true) (hm : ∀ d ∈ m, NN ≤ d ∧ h.get d = .dfr true) (hd : m.Nodup) : Go (XR X b) sz none [] L h m (LB St Hb id T i N NN) :=
  Go.nil fun e he => ⟨hT, he.sub hs, hb, hn, hm, hd⟩
theorem Go.endB {X : Cx} {b : B2} {sz : Nat} {k : List It} {L : List (Nat × AV)} {h : Heap} {m : List Nat} {St : Nat → List (Nat × AV)} {Hb : Nat → List AB} {id T i N NN : Nat} (hx : xit id k = none) (hE : EndB h m N) : Go (XR X b) sz none (.code (.exit id) :: k) L h m (LB St Hb id T i N NN) := ⟨fun e he => Tri.exit (by
  have key : ∀ {k' : List It}, xit id k' = none → RunK (XR X b) sz none k' (LB St Hb id T i N NN) (.exit id) ⟨e, h, m⟩ := by
    intro k'
    induction k' with
    | nil => intro _; exact ⟨rfl, hE⟩
    | cons x k' ih =>
      intro q
      cases x with
      | code c => exact ih q
      | lp c => exact ih q
      | blk i =>
        unfold xit at q
        rw [show RunK (XR X b) sz none (.blk i :: k') (LB St Hb id T _ N NN) (.exit id) ⟨e, h, m⟩ = (match Nat.beq id i with | true => RunK (XR X b) sz none k' (LB St Hb id T _ N NN) .normal ⟨e, h, m⟩ | false => RunK (XR X b) sz none k' (LB St Hb id T _ N NN) (.exit id) ⟨e, h, m⟩) from rfl]
        cases hi : Nat.beq id i with
        | true => rw [hi] at q; cases q
        | false => rw [hi] at q; exact ih q
  exact key hx)⟩
theorem Go.retB {X : Cx} {b : B2} {sz : Nat} {k : List It} {L : List (Nat × AV)} {h : Heap} {m : List Nat} {St : Nat → List (Nat × AV)} {Hb : Nat → List AB} {id T i N NN : Nat} (hE : EndB h m N) : Go (XR X b) sz none (.code .ret :: k) L h m (LB St Hb id T i N NN) := Go.ret fun e he => hE
theorem ab_ok {X : Cx} {ρ : Map} {h : Heap} {w : World} {n : Nat} {i : Nat} {b : AB} (hb : h.get i = b) (hn : b ≠ .none) (hl : ABLow n b) : h.ok i := by
  unfold Heap.ok
  rw [hb]
  cases b with
  | none => exact absurd rfl hn
  | row r => simp only []; rw [Heap.row_of hb, hl.1]; rfl
  | _ => trivial
/-- A LOOP OF AN ITERATOR, in which it ranges over others; it ends with the function. -/
theorem Go.loopB {X : Cx} {G : Gho X.c.P} {sz : Nat} {L : List (Nat × AV)} {h : Heap} {c : Code} {cc : Ctx} {id TT N NN : Nat} (hX : X.g = some G) (hg : ∀ i r, X.c.g0.get i ≠ .gl r) (St : Nat → List (Nat × AV)) (Hb : Nat → List AB) (hN : ∀ i, (Hb i).length = NN) (hlow : ∀ i, lowsP NN (Hb i)) (hlive : ∀ i, liveFrom (Hb i) 0 = true) (hSl : ∀ i, lowL NN (St i) = true) (hgv : lowsB NN X.gv = true) (h2 : Nat.ble 2 NN = true)
    (hmk : ∀ i, ∃ t z n l, (Hb i)[0]? = some (.arr t z n l)) (hS : SubL L (St 0)) (hH : h = hq NN (Hb 0)) (body : ∀ i, i ≤ TT → ∀ b, Go (XR X b) sz none [.code c] (St i) (hq NN (Hb i)) [] (LB St Hb id TT i N NN)) (hid0 : X.hid = [] := by rfl) :
    Go X sz none [.code (.loop c), .blk id] L h [] (FinY cc [] N) := ⟨fun e0 he0 => by
  subst hH
  intro ro ρ w a Q' h1 p h3 h4 h5
  have h2' := bleT h2
  have hq0 : ∀ i, ∃ t z n l, (hq NN (Hb i)).get 0 = .arr t z n l := fun i => by
    obtain ⟨t, z, n, l, q⟩ := hmk i
    exact ⟨t, z, n, l, by rw [hq_get, q]; rfl⟩
  have step : ∀ i, i ≤ TT → (i < TT → ∀ (ρ : Map) (w : World) (a : Act) (e : T AV) (Hs : List Nat) (S : Nat → Prop) (Fo : Nat → List Value), PI X ρ (hq NN (Hb (i + 1))) w → GhW X ρ (hq NN (Hb (i + 1))) w S Fo → ER ρ e a.tmps sz → Has e (St (i + 1)) → a.defers = Hs.map colD → (∀ B ∈ Hs, Hid X ρ S G.n0 w B) → Hs.Nodup → LoopW X.c.P ro c Q' a w) →
      ∀ (ρ : Map) (w : World) (a : Act) (e : T AV) (Hs : List Nat) (S : Nat → Prop) (Fo : Nat → List Value), PI X ρ (hq NN (Hb i)) w → GhW X ρ (hq NN (Hb i)) w S Fo → ER ρ e a.tmps sz → Has e (St i) → a.defers = Hs.map colD → (∀ B ∈ Hs, Hid X ρ S G.n0 w B) → Hs.Nodup → LoopW X.c.P ro c Q' a w := by
    intro i hi next ρ w a e Hs S Fo p g er he hD hH hnd
    obtain ⟨t0, z0, n0, l0, hm0⟩ := hq0 i
    have gS := (g G hX t0 z0 n0 l0 hm0)
    have hSsh : ∀ b, S b → ¬ X.shut b := gS.2.2.2.2.2.2.2.1
    have pb := p.base g X.ro Hs X.gx X.gv p.keep (F := ρ.F) (fun _ _ _ e => e) p.hr.fz (fun _ _ _ _ => rfl) (fun _ _ => rfl) (fun _ _ _ _ => rfl)
    have hA : Tri (XR X ⟨w, ρ.F, fun b => (∃ i N, ρ i = some (b, N)) ∨ S b, Hs⟩) sz none c ⟨e, hq NN (Hb i), []⟩ (LB St Hb id TT i N NN) := (body i hi _).run e he
    refine LoopW.next (hA ro ρ w a _ h1 pb er ⟨[], rfl, hD⟩ fun x s' a' w' ρ' q g1 g2 g3 g4 => ?_)
    obtain ⟨c1, c2, c3, c4, S1, Fo1, c5, c6, c7, c8⟩ := p.leg hSsh (fun _ _ _ e => e) (fun _ _ => rfl) g2
    obtain ⟨D1, d1, d2⟩ := g4
    have d2 : a'.defers = D1 ++ Hs.map colD := d2
    have hH' : ∀ B ∈ Hs, Hid X ρ' S1 G.n0 w' B := fun B hB => by
      obtain ⟨x1, x2, x3, x4, x5, x6, x7⟩ := hH B hB
      have hn : ¬ ((∃ i N, ρ i = some (B, N)) ∨ S B) := fun q => q.elim (fun ⟨i, N, e⟩ => x3 i N e) x6
      obtain ⟨y1, y2, y3⟩ := c3 B x1 hn
      exact ⟨Nat.lt_of_lt_of_le x1 c2.size, y1.trans x2, y3, y2.trans x4, x5, c8 B x1 hn, x7⟩
    -- an end
    have fin : ∀ (x : Ex), x ≠ .normal → EndB s'.h s'.m N → (∀ s2, FinY cc [] N .normal s2 → RunK X sz none [.blk id] (FinY cc [] N) x s2) → (∃ y, exitOf x = exitOf y ∧ y ≠ .normal) ∧ Q' (exitOf x) a' w' := fun x hx ⟨⟨t, z, n, l, e1, e2⟩, e3, e4, e5⟩ hrun => by
      refine ⟨⟨x, rfl, hx⟩, ?_⟩
      obtain ⟨ρ2, h2', ids, k1, k2, k3, k4, k5, k6, k7, k8, _⟩ := PI.unhide (n0 := G.n0) (fun G' hG' => by rw [hX] at hG'; cases hG'; exact Nat.le_refl _) Hs c1 c5 (.inr (bleT e5)) hH' hnd
      have hlt : ∀ d ∈ s'.m, d < s'.h.nxt := fun d hd => by
        rcases Nat.lt_or_ge d s'.h.nxt with q | q
        · exact q
        · have := e3 d hd
          rw [c1.wf.fresh d q] at this; cases this
      obtain ⟨h4', j1, j2⟩ := leave_all (m := s'.m ++ ids) (h := h2') (fun d hd => by
        rcases List.mem_append.1 hd with hd | hd
        · rw [k5 d (hlt d hd)]; exact e3 d hd
        · exact (k6 d hd).2) (List.nodup_append.2 ⟨e4, k7, fun d hd d' hd' e => by
          have := hlt d hd
          have := (k6 d' hd').1
          omega⟩)
      have h0 : h4'.get 0 = .arr t z n l := by
        have h1' := bleT e5
        rw [j2 0 (fun hd => by
          rcases List.mem_append.1 hd with hd | hd
          · have := e3 0 hd; rw [e1] at this; cases this
          · have := (k6 0 hd).1; omega), k5 0 (by omega)]
        exact e1
      refine h5 x ⟨s'.e, h2', s'.m ++ ids⟩ a' w' ρ2 (hrun _ ⟨.inl rfl, h4', [], j1, rfl, t, z, n, l, h0, e2⟩) g1 k1 (g3.mono k4) ⟨D1 ++ Hs.map colD, (d1.mono k4).append k3, ?_⟩
      rw [hid0, d2]; simp
    cases x with
    | exit j =>
      obtain ⟨rfl, hE⟩ := (show j = id ∧ EndB s'.h s'.m N from q)
      refine fin (.exit j) (by simp) hE fun s2 hs2 => ?_
      show (match Nat.beq j j with | true => _ | false => _)
      rw [Nat.beq_refl]; exact hs2
    | ret => 
      refine fin .ret (by simp) (show EndB s'.h s'.m N from q) fun s2 ⟨_, hs2⟩ => ?_
      exact ⟨.inr rfl, hs2⟩
    | normal =>
      obtain ⟨q1, q2, q3, q4, q5, q6⟩ := (show i < TT ∧ Has s'.e (St (i + 1)) ∧ getsP s'.h (Hb (i + 1)) 0 ∧ Nat.ble NN s'.h.nxt = true ∧ (∀ d ∈ s'.m, NN ≤ d ∧ s'.h.get d = .dfr true) ∧ s'.m.Nodup from q)
      have hl := hN (i + 1)
      have p9 := c1.cutP (Hb (i + 1)) hg (by rw [hl]; exact q4) q3 (by rw [hl]; exact hlow _) (by rw [hl]; exact hgv) (.inr (by rw [hl]; exact h2))
      rw [hl] at p9
      have p9 : PI X (cutN ρ' NN) (hq NN (Hb (i + 1))) w' := by
        have e : hp (Hb (i + 1)) = hq NN (Hb (i + 1)) := by unfold hp hq; rw [hl]
        rw [← e]; exact p9
      obtain ⟨t, z, n, l, hz⟩ := hmk (i + 1)
      have hg0 : s'.h.get 0 = .arr t z n l := (getsP_at q3 0 _ hz).resolve_left (fun e => by cases e)
      have gw : GhW X (cutN ρ' NN) (hq NN (Hb (i + 1))) w' S1 Fo1 := fun G' hG' t' z' n' l' e' => by
        rw [hq_get, hz] at e'
        cases e'
        obtain ⟨s1, s2, s3, s4, s5, s6, ⟨N1, s7⟩, s8⟩ := c5 G' hG' _ _ _ _ hg0
        refine ⟨s1, s2, fun j B N e o => ?_, s4, s5, s6, ⟨N1, by rw [cutN_m (by omega)]; exact s7⟩, s8.1, by rw [cutN_V (by omega)]; exact s8.2⟩
        by_cases hj : j < NN
        · rw [cutN_m hj] at e
          refine s3 j B N e ?_
          have hne : (hq NN (Hb (i + 1))).get j ≠ .none := fun q => by unfold Heap.ok at o; rw [q] at o; exact o
          obtain ⟨b, hb⟩ : ∃ b, (Hb (i + 1))[j]? = some b := ⟨_, List.getElem?_eq_getElem (by omega)⟩
          rw [hq_get, hb] at hne
          have hgb := (getsP_at q3 j b hb).resolve_left hne
          rw [Nat.zero_add] at hgb
          exact ab_ok (X := X) (ρ := ρ') (w := w') hgb hne (lowsP_at (hlow _) j b hb)
        · rw [cutN_n hj] at e; cases e
      obtain ⟨s1, s2, s3, s4, s5, s6, ⟨N1, s7⟩, s8⟩ := c5 G hX _ _ _ _ hg0
      obtain ⟨Bs, f1, f2, f3⟩ := d1.blocks
      have hdok : ∀ d ∈ s'.m, s'.h.ok d := fun d hd => by unfold Heap.ok; rw [(q5 d hd).2]; trivial
      have hBs : ∀ B ∈ Bs, ∃ d ∈ s'.m, ∃ N, ρ' d = some (B, N) := fun B hB => by
        obtain ⟨j, hj⟩ := List.getElem?_of_mem hB
        have hjl : j < s'.m.length := by rw [← f2]; exact (List.getElem?_eq_some_iff.1 hj).1
        obtain ⟨B', N, h1', h2'⟩ := f3 j _ (List.getElem?_eq_getElem hjl)
        rw [hj] at h1'; cases h1'
        exact ⟨_, List.getElem_mem hjl, N, h2'⟩
      have hB' : ∀ B ∈ Bs, Hid X (cutN ρ' NN) S1 G.n0 w' B := fun B hB => by
        obtain ⟨d, hd, M, hρ⟩ := hBs B hB
        have hr := c1.hr.ok d B M hρ (hdok d hd)
        rw [(q5 d hd).2] at hr
        have hdS := s3 d B M hρ (hdok d hd)
        refine ⟨c1.hr.lt d B M hρ, hr, fun j K e => ?_, c1.hr.F_row hρ (hdok d hd) (fun r => by rw [(q5 d hd).2]; exact fun e => by cases e), c1.mine d B M hρ, hdS.1, hdS.2⟩
        by_cases hj : j < NN
        · rw [cutN_m hj] at e
          have hjd : j ≠ d := fun e => by have := (q5 d hd).1; omega
          obtain ⟨b, hb⟩ : ∃ b, (Hb (i + 1))[j]? = some b := ⟨_, List.getElem?_eq_getElem (by omega)⟩
          rcases live_at (hlive (i + 1)) hb with hne | h1'
          · have hgb := (getsP_at q3 j b hb).resolve_left hne
            rw [Nat.zero_add] at hgb
            obtain ⟨r, s, qq, x, y, _⟩ := c1.hr.inj j d B K M hjd e hρ (ab_ok (X := X) (ρ := ρ') (w := w') hgb hne (lowsP_at (hlow _) j b hb)) (hdok d hd)
            rw [(q5 d hd).2] at y; cases y
          · have hj1 : j = 1 := by omega
            subst hj1
            rw [s7] at e; cases e
            exact hdS.1 s6
        · rw [cutN_n hj] at e; cases e
      have hH2 : ∀ B ∈ Hs, Hid X (cutN ρ' NN) S1 G.n0 w' B := fun B hB => by
        obtain ⟨x1, x2, x3, x4, x5, x6, x7⟩ := hH' B hB
        refine ⟨x1, x2, fun j K e => ?_, x4, x5, x6, x7⟩
        by_cases hj : j < NN
        · rw [cutN_m hj] at e; exact x3 j K e
        · rw [cutN_n hj] at e; cases e
      have hndB : Bs.Nodup := by
        rw [List.nodup_iff_pairwise_ne, List.pairwise_iff_getElem]
        intro j1 j2 hj1 hj2 hlt e
        obtain ⟨B1, M1, x1, y1⟩ := f3 j1 _ (List.getElem?_eq_getElem (by omega))
        obtain ⟨B2, M2, x2, y2⟩ := f3 j2 _ (List.getElem?_eq_getElem (by omega))
        rw [List.getElem?_eq_getElem hj1] at x1
        rw [List.getElem?_eq_getElem hj2] at x2
        cases x1; cases x2
        rw [← e] at y2
        have hne : s'.m[j1]'(by omega) ≠ s'.m[j2]'(by omega) := fun q => by
          have := (List.pairwise_iff_getElem.1 (List.nodup_iff_pairwise_ne.1 q6)) j1 j2 (by omega) (by omega) hlt
          exact this q
        obtain ⟨r, s, qq, x, _⟩ := c1.hr.inj _ _ _ _ _ hne y1 y2 (hdok _ (List.getElem_mem _)) (hdok _ (List.getElem_mem _))
        rw [(q5 _ (List.getElem_mem _)).2] at x; cases x
      obtain ⟨e', he', er'⟩ := known_env (σ := cutN ρ' NN) (L := St (i + 1)) (tm := a'.tmps) (sz := sz) g3.1 (fun s v hv => by
        have := g3.2 s
        rw [q2 s v hv] at this
        exact low_ok v (lowL_at (hSl _) s v hv) this)
      exact next q1 (cutN ρ' NN) w' a' e' (Bs ++ Hs) S1 Fo1 p9 gw er' he' (by rw [d2, f1, List.map_append]) (fun B hB => (List.mem_append.1 hB).elim (hB' B) (hH2 B)) (List.nodup_append.2 ⟨hndB, hnd, fun B1 hB1 B2 hB2 e => by
        subst e
        obtain ⟨d, hd, M, hρ⟩ := hBs B1 hB1
        exact (hH' B1 hB2).im d M hρ⟩)
  have key : ∀ n i, TT - i = n → i ≤ TT → ∀ (ρ : Map) (w : World) (a : Act) (e : T AV) (Hs : List Nat) (S : Nat → Prop) (Fo : Nat → List Value), PI X ρ (hq NN (Hb i)) w → GhW X ρ (hq NN (Hb i)) w S Fo → ER ρ e a.tmps sz → Has e (St i) → a.defers = Hs.map colD → (∀ B ∈ Hs, Hid X ρ S G.n0 w B) → Hs.Nodup → LoopW X.c.P ro c Q' a w := by
    intro n
    induction n with
    | zero => exact fun i hn hi => step i hi fun hlt => absurd hlt (by omega)
    | succ n ih => exact fun i hn hi => step i hi fun hlt => ih (i + 1) (by omega) (by omega)
  obtain ⟨S0, Fo0, s1, _, _⟩ := p.gh.wit
  obtain ⟨hD1, hD2, hD3⟩ := h4
  have hd0 : a.defers = ([] : List Nat).map colD := by
    have hD2 : hD1 = [] := hD2
    rw [hD3, hD2, hid0]; rfl
  intro b kk cs hro hb hroom
  obtain ⟨e, a', w', hq', harr⟩ := key _ 0 rfl (Nat.zero_le _) ρ w a e0 [] S0 Fo0 p s1 h3 (he0.sub hS) hd0 (fun _ q => by cases q) List.nodup_nil b kk cs hro hb hroom
  exact ⟨e, a', w', hq', .of_steps (.one (fenced_calm hb hroom rfl) stepR_loop) harr⟩⟩
end Go.Px
end
/- FvQ -/
section
set_option linter.unusedVariables false
set_option linter.unusedSimpArgs false
set_option maxHeartbeats 4000000
set_option maxRecDepth 20000
namespace Go.Px.Fv
open Go.Proofs
attribute [local irreducible] Go.Px.KOk
mutual
/-- a clause, and those within it -/
def Cl.pre : Cl → List Cl
  | .mk k n a o kids => .mk k n a o kids :: preL kids
def preL : List Cl → List Cl
  | [] => []
  | c :: r => c.pre ++ preL r
end
theorem Cl.pre_eq (c : Cl) : c.pre = c :: preL c.kids := by cases c; rfl
theorem preL_app : ∀ a b : List Cl, preL (a ++ b) = preL a ++ preL b
  | [], b => rfl
  | c :: a, b => by
    have := preL_app a b
    simp only [List.cons_append, preL, this, List.append_assoc]
theorem preL_succ {l : List Cl} {i : Nat} (h : i < l.length) : preL (l.take (i + 1)) = preL (l.take i) ++ (l.getD i default).pre := by
  rw [take_succ' h, preL_app]; simp [preL]
def itemC (c : Cl) : List AV := [.agg (encF c)]
theorem item_at {l : List Cl} {j : Nat} {v : List AV} (h : (l.map itemC)[j]? = some v) : j < l.length ∧ v = itemC (l.getD j default) := by
  rw [List.getElem?_map] at h
  by_cases hj : j < l.length
  · rw [List.getElem?_eq_getElem hj] at h
    refine ⟨hj, ?_⟩
    rw [List.getD_eq_getElem?_getD, List.getElem?_eq_getElem hj]
    exact (Option.some.inj h).symm
  · rw [List.getElem?_eq_none (by omega)] at h; cases h
/-- the i-th, among all -/
theorem pre_head {l : List Cl} {i : Nat} (h : i < l.length) : (preL (l.take i)).length + 1 + (preL (l.getD i default).kids).length = (preL (l.take (i + 1))).length ∧ (preL (l.take (i + 1))).length ≤ (preL l).length := by
  constructor
  · rw [preL_succ h, List.length_append, Cl.pre_eq, List.length_cons]; omega
  · have := preL_app (l.take (i + 1)) (l.drop (i + 1))
    rw [List.take_append_drop] at this
    rw [this, List.length_append]; omega
theorem pre_at {l : List Cl} {i j : Nat} (h : i < l.length) (hj : j < (preL (l.getD i default).kids).length + 1) : (preL l)[(preL (l.take i)).length + j]? = (l.getD i default).pre[j]? := by
  have e := preL_app (l.take (i + 1)) (l.drop (i + 1))
  rw [List.take_append_drop, preL_succ h] at e
  have hl : (l.getD i default).pre.length = (preL (l.getD i default).kids).length + 1 := by rw [Cl.pre_eq]; rfl
  rw [e, List.getElem?_append_left (by rw [List.length_append]; omega), List.getElem?_append_right (by omega), Nat.add_sub_cancel_left]
theorem it_head {l : List Cl} {i : Nat} (h : i < l.length) : ((preL l).map itemC)[(preL (l.take i)).length]? = some [.agg (encF (l.getD i default))] := by
  have := pre_at (j := 0) h (by omega)
  rw [Nat.add_zero, Cl.pre_eq] at this
  rw [List.getElem?_map, this]; rfl
theorem it_kid {l : List Cl} {i j : Nat} (h : i < l.length) (hj : j < (preL (l.getD i default).kids).length) : ((preL l).map itemC)[(preL (l.take i)).length + 1 + j]? = some [.agg (encF ((preL (l.getD i default).kids).getD j default))] := by
  have := pre_at (j := 1 + j) h (by omega)
  rw [← Nat.add_assoc, Cl.pre_eq, Nat.add_comm 1 j, List.getElem?_cons_succ, List.getElem?_eq_getElem hj] at this
  have e : (preL (l.getD i default).kids).getD j default = (preL (l.getD i default).kids)[j] := by rw [List.getD_eq_getElem?_getD, List.getElem?_eq_getElem hj]; rfl
  rw [List.getElem?_map, this, e]; rfl
theorem k32 (l : List Cl) : KOk cF 11 [clsA l] (.fn (.func 21) [] [.rptr [clsA l]]) := by
  refine KOk.of cF_ok eF.g Tryz.func11 rfl (Nat.le_of_ble_eq_true rfl) fun w F => ?_
  repeat' first | refine Go.seq ?_ | refine Go.region rfl ?_ | refine Ops.nil ?_ | refine Ops.val eF rfl rfl (by first | exact Want.no rfl | exact Want.tT rfl rfl rfl rfl | exact Want.fF rfl rfl rfl rfl) (by first | exact Hop.assign rfl rfl | exact Hop.makeFunc rfl rfl rfl) ?_ | refine Ops.boxR eF rfl rfl (by first | exact Want.no rfl | exact Want.tT rfl rfl rfl rfl | exact Want.fF rfl rfl rfl rfl) rfl rfl rfl rfl ?_ | refine Go.retF rfl ?_ rfl
  all_goals rfl
theorem it48 : ∀ (N : Nat) (l : List Cl), cntL l < N → cntL l ≤ 400000 → KIt cF 21 [.rptr [clsA l]] ((preL l).map itemC) := by
  intro N
  induction N with
  | zero => intro l hN; omega
  | succ N IH =>
  intro l hN hb
  have hlen := cntL_len l
  rw [clsA_eq]
  refine KIt.of cF_ok eF.g Tryz.func21 rfl rfl fun w F opn G gx hG => ?_
  repeat' first | refine Go.seq ?_ | refine Go.region rfl ?_ | refine Ops.nil ?_ | refine Ops.val eF rfl rfl (by first | exact Want.no rfl | exact Want.tT rfl rfl rfl rfl | exact Want.fF rfl rfl rfl rfl) (by first | exact Hop.move rfl rfl | exact Hop.ldR eF rfl rfl rfl rfl rfl | exact Hop.lenD eF rfl rfl rfl rfl rfl rfl rfl) ?_ | refine Ops.rowAt eF 2 rfl rfl (by first | exact Want.no rfl | exact Want.tT rfl rfl rfl rfl | exact Want.fF rfl rfl rfl rfl) rfl (Hop.boxC rfl rfl rfl) ?_ | refine Go.block ?_
  refine Go.toHQ (N := 3) (bs := [.arr 0 0 0 [], .none, .row ⟨65, 1, .leaf, [.fn (.yield 1) [] []], none⟩]) (L' := [(1, .rptr [dsl 5 encF l]), (2, .ptr 2 0), (6, dsl 5 encF l), (7, .int .i64 l.length), (8, .int .i64 0)]) ?_ rfl eF.g ⟨rfl, rfl, rfl, rfl, rfl, trivial⟩ rfl rfl ⟨.inr rfl, .inl rfl, .inr rfl, trivial⟩ ⟨trivial, trivial, low_row rfl rfl, trivial⟩ rfl rfl
  refine Go.loopB (TT := l.length) (NN := 3) (N := ((preL l).map itemC).length) rfl eF.g (fun i => [(1, .rptr [dsl 5 encF l]), (2, .ptr 2 0), (6, dsl 5 encF l), (7, .int .i64 l.length), (8, .int .i64 i)]) (fun i => [.arr 0 (preL (l.take i)).length 0 [], .none, .row ⟨65, 1, .leaf, [.fn (.yield 1) [] []], none⟩]) (fun _ => rfl) (fun _ => ⟨trivial, trivial, low_row rfl rfl, trivial⟩) (fun _ => rfl) (fun _ => rfl) rfl rfl (fun _ => ⟨_, _, _, _, rfl⟩) ⟨rfl, rfl, rfl, rfl, rfl, trivial⟩ rfl (fun i hi b => ?_)
  have hk := k32 (l.getD i default).kids
  repeat' first | refine Go.seq ?_ | refine Go.region rfl ?_ | refine Ops.nil ?_ | refine Ops.val (d := 13) (v := .agg (encF (l.getD i default))) eF rfl rfl (by first | exact Want.no rfl | exact Want.tT rfl rfl rfl rfl | exact Want.fF rfl rfl rfl rfl) (by exact Hop.ldPG eF rfl rfl rfl rfl rfl rfl rfl) ?_ | refine Ops.yieldJ eF (by first | exact Want.no rfl | exact Want.tT rfl rfl rfl rfl | exact Want.fF rfl rfl rfl rfl) rfl rfl rfl rfl rfl rfl rfl (by rw [hG]; exact it_head (by omega)) rfl rfl ?_ ?_ | refine Ops.val eF rfl rfl (by first | exact Want.no rfl | exact Want.tT rfl rfl rfl rfl | exact Want.fF rfl rfl rfl rfl) (by first | exact Hop.not rfl rfl | exact Hop.lss rfl rfl rfl | exact Hop.faP eF rfl rfl rfl rfl rfl rfl rfl | exact Hop.idx eF rfl rfl rfl rfl rfl rfl rfl (fun _ => rfl) (by omega) | exact Hop.ldRG eF rfl rfl rfl rfl rfl | exact Hop.ldP eF rfl rfl rfl rfl rfl rfl rfl) ?_ | refine Ops.call eF rfl rfl (by first | exact Want.no rfl | exact Want.tT rfl rfl rfl rfl | exact Want.fF rfl rfl rfl rfl) rfl rfl rfl rfl (hk) rfl ?_ | refine Ops.rowAt eF 3 rfl rfl (by first | exact Want.no rfl | exact Want.tT rfl rfl rfl rfl | exact Want.fF rfl rfl rfl rfl) rfl (Hop.alloc eF rfl rfl rfl) ?_ | refine Ops.unit eF rfl (by first | exact Want.no rfl | exact Want.tT rfl rfl rfl rfl | exact Want.fF rfl rfl rfl rfl) (Hop.store eF rfl rfl rfl rfl rfl rfl) (ArrKeep.put rfl) ?_ | refine Go.condT rfl ?_ | refine Go.condF rfl ?_ | refine Go.condPt rfl (fun _ => ?_) (fun _ => ?_) | refine Go.block ?_ | refine Go.skip ?_
  case succ.refine_1.refine_2 => exact Go.retB ⟨⟨_, _, _, _, rfl, .inr (by rw [hG])⟩, (fun _ q => by cases q), List.nodup_nil, rfl⟩
  case succ.refine_2 =>
    refine Go.endB rfl ?_
    refine ⟨⟨_, _, _, _, rfl, .inl ?_⟩, (fun _ q => by cases q), List.nodup_nil, rfl⟩
    rw [List.length_map, show i = l.length by omega, List.take_length]
  rename_i hlt
  have hlt : i < l.length := by omega
  obtain ⟨hp1, hp2⟩ := pre_head hlt
  have hc := cntL_at (l := l) (i := i) hlt
  rw [Cl.cnt_eq] at hc
  refine Go.to (M := [(2, .ptr 2 0), (1, .rptr [dsl 5 encF l]), (6, dsl 5 encF l), (7, .int .i64 l.length), (8, .int .i64 i), (18, .fn (.func 21) [] [.rptr [clsA (l.getD i default).kids]])]) ?_ ⟨rfl, rfl, rfl, rfl, rfl, rfl, trivial⟩
  refine Go.rangeK eF 4 rfl rfl rfl (IH (l.getD i default).kids (by omega) (by omega)) rfl (fun j => hq 5 [.arr 0 ((preL (l.take i)).length + 1 + j) 0 [], .none, .row ⟨65, 1, .leaf, [.fn (.yield 1) [] []], none⟩, .none, .dfr true])
    (fun b => ChgE.cut _ rfl eF.g rfl ⟨.inr rfl, .inl rfl, .inr rfl, .inl rfl, .inr rfl, trivial⟩ ⟨trivial, trivial, low_row rfl rfl, trivial, trivial, trivial⟩) (fun j v hv => by rw [(item_at hv).2]; rfl) rfl (fun j v hv b2 => ?_) ?_
  · obtain ⟨hj, rfl⟩ := item_at hv
    repeat' first | refine Go.region rfl ?_ | refine Ops.nil ?_ | refine Ops.rowAt eF 5 rfl rfl (by first | exact Want.no rfl | exact Want.tT rfl rfl rfl rfl | exact Want.fF rfl rfl rfl rfl) rfl (Hop.alloc eF rfl rfl rfl) ?_ | refine Ops.unit eF rfl (by first | exact Want.no rfl | exact Want.tT rfl rfl rfl rfl | exact Want.fF rfl rfl rfl rfl) (Hop.store eF rfl rfl rfl rfl rfl rfl) (ArrKeep.put rfl) ?_
    refine Go.bodyK (fun b3 => ?_)
    repeat' first | refine Go.seq ?_ | refine Go.region rfl ?_ | refine Ops.nil ?_ | refine Ops.val (d := 21) (v := .agg (encF ((preL (l.getD i default).kids).getD j default))) eF rfl rfl (by first | exact Want.no rfl | exact Want.tT rfl rfl rfl rfl | exact Want.fF rfl rfl rfl rfl) (by exact Hop.ldPG eF rfl rfl rfl rfl rfl rfl rfl) ?_ | refine Ops.yieldJ eF (by first | exact Want.no rfl | exact Want.tT rfl rfl rfl rfl | exact Want.fF rfl rfl rfl rfl) rfl rfl rfl rfl rfl rfl rfl (by rw [hG]; exact it_kid hlt hj) rfl rfl ?_ ?_ | refine Ops.val eF rfl rfl (by first | exact Want.no rfl | exact Want.tT rfl rfl rfl rfl | exact Want.fF rfl rfl rfl rfl) (by first | exact Hop.not rfl rfl | exact Hop.ldP eF rfl rfl rfl rfl rfl rfl rfl) ?_ | refine Go.condT rfl ?_ | refine Go.condF rfl ?_ | refine Go.block ?_ | refine Go.unblk ?_ | refine Go.skip ?_
    · exact Go.nextK (ChgE.cut _ rfl eF.g rfl ⟨.inr rfl, .inl rfl, .inr rfl, .inl rfl, .inr rfl, trivial⟩ ⟨trivial, trivial, low_row rfl rfl, trivial, trivial, trivial⟩)
    · exact Go.stopR fun e he => ⟨⟨_, _, _, _, rfl, .inr (by rw [hG])⟩, (fun d q => by cases List.mem_singleton.1 q; rfl), by simp, rfl⟩
  · repeat' first | refine Go.region rfl ?_ | refine Ops.nil ?_ | refine Ops.val eF rfl rfl (by first | exact Want.no rfl | exact Want.tT rfl rfl rfl rfl | exact Want.fF rfl rfl rfl rfl) (by first | exact Hop.move rfl rfl | exact Hop.add rfl rfl rfl (by omega)) ?_ | refine Go.unblk ?_
    refine Go.nextB (by omega) ⟨rfl, rfl, rfl, rfl, rfl, trivial⟩ ⟨.inr ?_, .inl rfl, .inr rfl, trivial⟩ rfl (fun d q => by cases List.mem_singleton.1 q; exact ⟨by omega, rfl⟩) (by simp)
    rw [← hp1]; simp only [List.length_map]; rfl
end Go.Px.Fv
end
/- FvS -/
section
namespace Go.Proofs
open Go.Shelf
def Tryz.lays190_ren : Go.Shelf.Ren := ⟨fun | 190 => 12 | 125 => 23 | 258 => 22 | 128 => 61 | 129 => 62 | 302 => 52 | 303 => 53 | 304 => 54 | 305 => 55 | 306 => 56 | 307 => 57 | 308 => 58 | 309 => 59 | 310 => 60 | 333 => 86 | 329 => 87 | 330 => 88 | 334 => 89 | 335 => 90 | 336 => 91 | 344 => 111 | n => n, fun | 31 => 25 | 9 => 9 | 3 => 3 | 46 => 68 | 0 => 0 | 51 => 126 | 53 => 128 | 4 => 4 | 183 => 119 | 182 => 118 | 131 => 123 | 5 => 5 | 218 => 155 | 222 => 159 | 228 => 184 | 229 => 185 | n => n, fun | n => n⟩
theorem Tryz.lays190 : Go.Proofs.Lays.n190 Tryz.prog Tryz.lays190_ren := {
  mixed := by kernel_rfl
  f125 := Tryz.func23.trans (congrArg some (by kernel_rfl))
  f128 := Tryz.func61.trans (congrArg some (by kernel_rfl))
  f129 := Tryz.func62.trans (congrArg some (by kernel_rfl))
  f190 := Tryz.func12.trans (congrArg some (by kernel_rfl))
  f258 := Tryz.func22.trans (congrArg some (by kernel_rfl))
  f302 := Tryz.func52.trans (congrArg some (by kernel_rfl))
  f303 := Tryz.func53.trans (congrArg some (by kernel_rfl))
  f304 := Tryz.func54.trans (congrArg some (by kernel_rfl))
  f305 := Tryz.func55.trans (congrArg some (by kernel_rfl))
  f306 := Tryz.func56.trans (congrArg some (by kernel_rfl))
  f307 := Tryz.func57.trans (congrArg some (by kernel_rfl))
  f308 := Tryz.func58.trans (congrArg some (by kernel_rfl))
  f309 := Tryz.func59.trans (congrArg some (by kernel_rfl))
  f310 := Tryz.func60.trans (congrArg some (by kernel_rfl))
  f329 := Tryz.func87.trans (congrArg some (by kernel_rfl))
  f330 := Tryz.func88.trans (congrArg some (by kernel_rfl))
  f333 := Tryz.func86.trans (congrArg some (by kernel_rfl))
  f334 := Tryz.func89.trans (congrArg some (by kernel_rfl))
  f335 := Tryz.func90.trans (congrArg some (by kernel_rfl))
  f336 := Tryz.func91.trans (congrArg some (by kernel_rfl))
  f344 := Tryz.func111.trans (congrArg some (by kernel_rfl))
  t0 := Tryz.underlying0
  a0 := Tryz.isAgg0
  z0 := Tryz.sizeOf0
  v0 := Tryz.zeroValue0
  t3 := Tryz.underlying3
  a3 := Tryz.isAgg3
  z3 := Tryz.sizeOf3
  v3 := Tryz.zeroValue3
  t4 := Tryz.underlying4
  a4 := Tryz.isAgg4
  z4 := Tryz.sizeOf4
  v4 := Tryz.zeroValue4
  t5 := Tryz.underlying5
  a5 := Tryz.isAgg5
  z5 := Tryz.sizeOf5
  v5 := Tryz.zeroValue5
  t9 := Tryz.underlying9
  a9 := Tryz.isAgg9
  z9 := Tryz.sizeOf9
  v9 := Tryz.zeroValue9
  t31 := Tryz.underlying25
  a31 := Tryz.isAgg25
  z31 := Tryz.sizeOf25
  v31 := Tryz.zeroValue25
  t46 := Tryz.underlying68
  a46 := Tryz.isAgg68
  z46 := Tryz.sizeOf68
  v46 := Tryz.zeroValue68
  t51 := Tryz.underlying126
  a51 := Tryz.isAgg126
  z51 := Tryz.sizeOf126
  v51 := Tryz.zeroValue126
  t53 := Tryz.underlying128
  a53 := Tryz.isAgg128
  z53 := Tryz.sizeOf128
  v53 := Tryz.zeroValue128
  t131 := Tryz.underlying123
  a131 := Tryz.isAgg123
  z131 := Tryz.sizeOf123
  v131 := Tryz.zeroValue123
  t182 := Tryz.underlying118
  a182 := Tryz.isAgg118
  z182 := Tryz.sizeOf118
  v182 := Tryz.zeroValue118
  t183 := Tryz.underlying119
  a183 := Tryz.isAgg119
  z183 := Tryz.sizeOf119
  v183 := Tryz.zeroValue119
  t218 := Tryz.underlying155
  a218 := Tryz.isAgg155
  z218 := Tryz.sizeOf155
  v218 := Tryz.zeroValue155
  t222 := Tryz.underlying159
  a222 := Tryz.isAgg159
  z222 := Tryz.sizeOf159
  v222 := Tryz.zeroValue159
  t228 := Tryz.underlying184
  a228 := Tryz.isAgg184
  z228 := Tryz.sizeOf184
  v228 := Tryz.zeroValue184
  t229 := Tryz.underlying185
  a229 := Tryz.isAgg185
  z229 := Tryz.sizeOf185
  v229 := Tryz.zeroValue185 }
open Go.Sort Go.RowKit in
theorem Tryz.slices_Sort_string (blk off cap : Nat) (ss : List (List UInt8)) (w : World) (hH : Holds encStr w blk off ss.toArray) (hblk : blk < w.heap.size) (hsz : ss.length < 4611686018427387904) :
    Calls Tryz.prog 12 #[.slice (some ⟨blk, off, none⟩) ss.length cap] w fun e w' =>
      e = .returned (.tuple #[]) ∧ ∃ n os, w' = grow (putRow encStr (Sort.ahead w n) blk off (ss.mergeSort fun x y => decide (x ≤ y)).toArray) os := Any.slices_Sort_string Tryz.lays190 blk off cap ss w hH hblk hsz
def Tryz.lays194_ren : Go.Shelf.Ren := ⟨fun | 194 => 13 | n => n, fun | 31 => 25 | 9 => 9 | 3 => 3 | 4 => 4 | 0 => 0 | n => n, fun | n => n⟩
theorem Tryz.lays194 : Go.Proofs.Lays.n194 Tryz.prog Tryz.lays194_ren := {
  mixed := by kernel_rfl
  f194 := Tryz.func13.trans (congrArg some (by kernel_rfl))
  t0 := Tryz.underlying0
  a0 := Tryz.isAgg0
  z0 := Tryz.sizeOf0
  v0 := Tryz.zeroValue0
  t3 := Tryz.underlying3
  a3 := Tryz.isAgg3
  z3 := Tryz.sizeOf3
  v3 := Tryz.zeroValue3
  t4 := Tryz.underlying4
  a4 := Tryz.isAgg4
  z4 := Tryz.sizeOf4
  v4 := Tryz.zeroValue4
  t9 := Tryz.underlying9
  a9 := Tryz.isAgg9
  z9 := Tryz.sizeOf9
  v9 := Tryz.zeroValue9
  t31 := Tryz.underlying25
  a31 := Tryz.isAgg25
  z31 := Tryz.sizeOf25
  v31 := Tryz.zeroValue25 }
open Go.RowKit Go.Lib Go.Sort in
/-- slices.Compact at []string: "Compact replaces consecutive runs of equal elements with a single copy. This is like the uniq command found on Unix. Compact modifies the contents of the slice s and returns the modified slice, which may have a smaller length. Compact zeroes the elements between the new length and the original length. The result preserves the nilness of s.": IT RETURNS THE SLICE CUT TO 'Lib.compact zs'; ITS CELLS HOLD 'Lib.compact zs', THEN ZERO VALUES up to the old length; all else is as it was, but for the count of draws. IN THE WORDS OF slices.Sort's CONTRACT ('Holds', 'putRow'): so the everyday 'slices.Sort(xs); xs = slices.Compact(xs)' goes from the one contract to the other. It asks 'zs.length ≤ cap' (every slice's: the reslicing 's[:k]' looks at it). Length 0, nil: '.._empty'. (LAID: no walk: one application.) -/
theorem Tryz.slices_Compact_string (blk off cap : Nat) (zs : List (List UInt8)) (w : World) (hH : Holds encStr w blk off zs.toArray) (hsz : zs.length ≤ 9223372036854775807) (hcap : zs.length ≤ cap) :
    Calls Tryz.prog 13 #[.slice (some ⟨blk, off, none⟩) zs.length cap] w fun e w' => e = .returned (.slice (some ⟨blk, off, none⟩) (Lib.compact zs).length cap) ∧ ∃ q, w' = putRow encStr (Sort.ahead w q) blk off (Lib.compact zs ++ List.replicate (zs.length - (Lib.compact zs).length) []).toArray := Any.slices_Compact_string Tryz.lays194 blk off cap zs w hH hsz hcap
open Go.RowKit Go.Lib Go.Sort in
/-- The same at a slice of length 0, a nil one too: it comes back as it is. (LAID: no walk: one application.) -/
theorem Tryz.slices_Compact_string_empty (a : Option Addr) (cap : Nat) (w : World) :
    Calls Tryz.prog 13 #[.slice a 0 cap] w fun e w' => e = .returned (.slice a 0 cap) ∧ w' = w := Any.slices_Compact_string_empty Tryz.lays194 a cap w
open Go.RowKit Go.Sort in
/-- .. and plain. (LAID: no walk: one application.) -/
theorem Tryz.slices_Sort_string_none (p : Option Addr) (cap : Nat) (w : World) :
    Calls Tryz.prog 12 #[.slice p 0 cap] w fun e w' => e = .returned (.tuple #[]) ∧ w' = w := Any.slices_Sort_string_none Tryz.lays190 p cap w
end Go.Proofs
end
/- FvL -/
section
set_option linter.unusedVariables false
set_option linter.unusedSimpArgs false
namespace Go.Px
/-- a contract out of a quiet call -/
theorem KOk.quiet {c : Ctx} (k : CtxOk c) {f : FuncId} {fn : Func} (hf : c.P.funcs[f]? = some fn) (hb : fn.body.isSome = true) {args : List AV} {v : AV}
    (H : ∀ (F : Nat → List Value) (w : World) (A : List Value), FzW F w → VRs (fzm F) args A → ∃ z, Calls c.P f A.toArray w (fun e w' => e = .returned z ∧ w' = w) ∧ VR (fzm F) v z) : KOk c f args v := by
  intro F w A hF hA
  obtain ⟨z, hz, hv⟩ := H F w A hF hA
  have hnm : fn.name ≠ "runtime.NumGoroutine" := by simpa using k.names f fn hf
  obtain ⟨body, hbody⟩ := Option.isSome_iff_exists.1 hb
  refine ⟨.enter f A.toArray, w, by simp [callFunc, hf, hnm, hbody, Sem.run], ?_⟩
  refine (callsIn_wide.2 hz).mono fun e w' ⟨he, hw⟩ => ?_
  subst he; subst hw
  exact ⟨ExtW.refl w', F, fun _ _ _ e => e, fun _ _ => rfl, hF, hv⟩
end Go.Px
namespace Go.Px.Fv
open Go.Proofs
theorem sort34 : SortC cF 12 := fun blk cap ss w hH hB hs => Tryz.slices_Sort_string blk 0 cap ss w hH hB hs
theorem compact35 : CompactC cF 13 := fun blk cap ss w hH h1 h2 => Tryz.slices_Compact_string blk 0 cap ss w hH h1 h2
theorem empty_at {ρ : Map} {v : Value} (h : VR ρ (.rsl 0 1 []) v) : ∃ a C, v = .slice a 0 C := by
  obtain ⟨a, C, e, _⟩ := rsl_slice h
  exact ⟨a, C, e⟩
theorem k34n : KOk cF 12 [.rsl 0 1 []] (.tup []) := KOk.quiet cF_ok Tryz.func12 rfl fun F w A hF hA => by
  simp only [VRs] at hA
  obtain ⟨x, _, hx, rfl, rfl⟩ := hA
  obtain ⟨a, C, rfl⟩ := empty_at hx
  exact ⟨.tuple #[], Tryz.slices_Sort_string_none a C w, by simp only [VR, VRs]; exact ⟨[], rfl, rfl⟩⟩
theorem k35n : KOk cF 13 [.rsl 0 1 []] (.rsl 0 1 []) := KOk.quiet cF_ok Tryz.func13 rfl fun F w A hF hA => by
  simp only [VRs] at hA
  obtain ⟨x, _, hx, rfl, rfl⟩ := hA
  obtain ⟨a, C, rfl⟩ := empty_at hx
  exact ⟨.slice a 0 C, Tryz.slices_Compact_string_empty a C w, hx⟩
end Go.Px.Fv
end
/- PxVf -/
section
set_option linter.unusedVariables false
set_option linter.unusedSimpArgs false
open Go.Sort Go.Proofs
namespace Go.Px
theorem own0 {X : Cx} {ρ : Map} {h : Heap} {w : World} (p : PI X ρ h w) {id t z n : Nat} {l : List AV} (hg : h.get id = .arr t z n l) (hn : n = 0) {x : Value} (hx : VR ρ (.own id n z) x) (σ : Map) : VR σ (.rsl 0 z []) x ∧ l = [] := by
  subst hn
  have h0 := (p.hr.av id t z 0 l hg).1
  refine ⟨?_, List.length_eq_zero_iff.1 (by omega)⟩
  obtain ⟨a, C, rfl, _⟩ := own_slice hx
  simp only [VR]
  refine ⟨by simp, .inl ⟨trivial, ?_⟩⟩
  cases a with
  | none =>
    simp only [VR] at hx
    obtain ⟨_, ⟨_, a, q⟩ | ⟨B, D, q, _⟩⟩ := hx
    · cases q; exact .inl rfl
    · cases q
  | some a => exact .inr ⟨_, _, rfl⟩
theorem Chg.ownEmp {X : Cx} {sz : Nat} {rd : Option Nat} {L : List (Nat × AV)} {h : Heap} {m : List Nat} (t : Nat) {id ty z n : Nat} {l : List AV} (hl : lkO L t = some (.own id n z)) (hg : h.get id = .arr ty z n l) (hn : n = 0) : Chg X sz rd L h ((t, .rsl 0 z []) :: L) h m := fun ro ρ w e a h1 p h3 he h4 => by
  refine ⟨ρ, e.set und t (.rsl 0 z []), h1, p, ⟨h3.1, fun s => ?_⟩, he.set t _, h4⟩
  rw [get_set]
  by_cases hs : s = t
  · subst hs
    rw [if_pos rfl]
    have := h3.2 s
    rw [he s _ hl] at this
    exact (own0 p hg hn this ρ).1
  · rw [if_neg hs]; exact h3.2 s
end Go.Px
end
/- FvR -/
section
set_option linter.unusedVariables false
set_option linter.unusedSimpArgs false
set_option maxHeartbeats 4000000
set_option maxRecDepth 20000
namespace Go.Px.Fv
open Go.Proofs
attribute [local irreducible] Go.Px.KOk
noncomputable def ownV (c : Cl) : List Str := argV c.a ++ (bif isV c.o then [c.o] else [])
noncomputable def preV (l : List Cl) (j : Nat) : List Str := ((preL l).take j).flatMap ownV
theorem preV_succ {l : List Cl} {j : Nat} (h : j < (preL l).length) : preV l (j + 1) = preV l j ++ ownV ((preL l).getD j default) := by
  unfold preV
  rw [take_succ' h, List.flatMap_append]; simp
mutual
theorem pre_vars : ∀ c : Cl, c.pre.flatMap ownV = c.vars
  | .mk k n a o kids => by
    have := preL_vars kids
    simp only [Cl.pre, List.flatMap_cons, this, Cl.vars, ownV, Cl.a, Cl.o]
theorem preL_vars : ∀ l : List Cl, (preL l).flatMap ownV = varsL l
  | [] => rfl
  | c :: r => by
    have h1 := pre_vars c
    have h2 := preL_vars r
    simp only [preL, List.flatMap_append, h1, h2, varsL]
end
theorem preV_all (l : List Cl) : preV l (preL l).length = varsL l := by unfold preV; rw [List.take_length, preL_vars]
theorem preV_len (l : List Cl) (j : Nat) : (preV l j).length ≤ (varsL l).length := by
  have e : varsL l = preV l j ++ ((preL l).drop j).flatMap ownV := by
    unfold preV
    rw [← List.flatMap_append, List.take_append_drop, preL_vars]
  rw [e, List.length_append]; omega
mutual
theorem pre_ok : ∀ c : Cl, c.ok → ∀ d ∈ c.pre, d.ok
  | .mk k n a o kids, h, d, hd => by
    simp only [Cl.pre, List.mem_cons] at hd
    rcases hd with rfl | hd
    · exact h
    · exact preL_ok kids h.2.2.2 d hd
theorem preL_ok : ∀ l : List Cl, okL l → ∀ d ∈ preL l, d.ok
  | [], _, d, hd => by cases hd
  | c :: r, h, d, hd => by
    simp only [preL, List.mem_append] at hd
    rcases hd with hd | hd
    · exact pre_ok c h.1 d hd
    · exact preL_ok r h.2 d hd
end
mutual
theorem pre_cnt : ∀ c : Cl, ∀ d ∈ c.pre, d.a.length ≤ c.cnt
  | .mk k n a o kids, d, hd => by
    simp only [Cl.pre, List.mem_cons] at hd
    rcases hd with rfl | hd
    · show a.length ≤ 1 + a.length + cntL kids; omega
    · have := preL_cnt kids d hd
      show d.a.length ≤ 1 + a.length + cntL kids; omega
theorem preL_cnt : ∀ l : List Cl, ∀ d ∈ preL l, d.a.length ≤ cntL l
  | [], d, hd => by cases hd
  | c :: r, d, hd => by
    simp only [preL, List.mem_append] at hd
    simp only [cntL]
    rcases hd with hd | hd
    · have := pre_cnt c d hd; omega
    · have := preL_cnt r d hd; omega
end
theorem getD_mem {α : Type} [Inhabited α] {l : List α} {j : Nat} (h : j < l.length) : l.getD j default ∈ l := by
  rw [List.getD_eq_getElem?_getD, List.getElem?_eq_getElem h]; exact List.getElem_mem h
theorem flat_strC (l : List Str) : l.flatMap encS = strC l := by
  induction l with
  | nil => rfl
  | cons a l ih => rw [List.flatMap_cons, ih]; rfl
def VarsG (l : List Str) : List Str := Lib.compact (l.mergeSort sLe)
theorem k15 (l : List Cl) (hb : cntL l ≤ 400000) (hok : okL l) : KOk cF 6 [clsA l] (strsA (VarsG (varsL l))) := by
  have h1 := varsL_len l
  have h0 := k32 l
  refine KOk.of cF_ok eF.g Tryz.func6 rfl (Nat.le_of_ble_eq_true rfl) fun w F => ?_
  repeat' first | refine Go.seq ?_ | refine Go.region rfl ?_ | refine Ops.nil ?_ | refine Ops.val eF rfl rfl (by first | exact Want.no rfl | exact Want.tT rfl rfl rfl rfl | exact Want.fF rfl rfl rfl rfl) (by first | exact Hop.move rfl rfl | exact Hop.assign rfl rfl) ?_ | refine Ops.call eF rfl rfl (by first | exact Want.no rfl | exact Want.tT rfl rfl rfl rfl | exact Want.fF rfl rfl rfl rfl) rfl rfl rfl rfl (h0) rfl ?_ | refine Ops.rowAt eF 0 rfl rfl (by first | exact Want.no rfl | exact Want.tT rfl rfl rfl rfl | exact Want.fF rfl rfl rfl rfl) rfl (Hop.alloc eF rfl rfl rfl) ?_ | refine Go.block ?_
  refine Go.change (Chg.tokCell 1 0 9 1 rfl rfl rfl) ?_
  refine Go.to (M := [(3, .ptr 0 0), (8, .fn (.func 21) [] [.rptr [clsA l]])]) ?_ ⟨rfl, rfl, trivial⟩
  refine Go.rangeK eF 2 rfl rfl rfl (it48 (cntL l + 1) l (by omega) (by omega)) rfl (fun j => hq 3 [.row ⟨25, 1, .leaf, [.own 1 (preV l j).length 1], none⟩, .arr 9 1 (preV l j).length ((preV l j).flatMap encS), .dfr true])
    (fun b => ChgE.cut _ rfl eF.g rfl ⟨.inr rfl, .inr rfl, .inr rfl, trivial⟩ ⟨low_row rfl rfl, trivial, trivial, trivial⟩) (fun j v hv => by rw [(item_at hv).2]; rfl) rfl (fun j v hv b2 => ?_) ?_
  · obtain ⟨hj, rfl⟩ := item_at hv
    have hc := preL_ok l hok _ (getD_mem hj)
    have hn := preL_cnt l _ (getD_mem hj)
    have hs := preV_succ hj
    have hp := preV_len l j
    have hp2 := preV_len l (j + 1)
    rw [Cl.ok_eq] at hc
    generalize (preL l).getD j default = c at *
    repeat' first | refine Go.region rfl ?_ | refine Ops.nil ?_ | refine Ops.rowAt eF 3 rfl rfl (by first | exact Want.no rfl | exact Want.tT rfl rfl rfl rfl | exact Want.fF rfl rfl rfl rfl) rfl (Hop.alloc eF rfl rfl rfl) ?_ | refine Ops.unit eF rfl (by first | exact Want.no rfl | exact Want.tT rfl rfl rfl rfl | exact Want.fF rfl rfl rfl rfl) (Hop.store eF rfl rfl rfl rfl rfl rfl) (ArrKeep.put rfl) ?_
    refine Go.bodyK (fun b3 => ?_)
    repeat' first | refine Go.seq ?_ | refine Go.region rfl ?_ | refine Ops.nil ?_ | refine Ops.val eF rfl rfl (by first | exact Want.no rfl | exact Want.tT rfl rfl rfl rfl | exact Want.fF rfl rfl rfl rfl) (by first | exact Hop.move rfl rfl | exact Hop.faP eF rfl rfl rfl rfl rfl rfl rfl | exact Hop.ldP eF rfl rfl rfl rfl rfl rfl rfl | exact Hop.lenD eF rfl rfl rfl rfl rfl rfl rfl) ?_ | refine Go.block ?_
    refine Go.toHQ (N := 4) (bs := [.row ⟨25, 1, .leaf, [.own 1 (preV l j).length 1], none⟩, .arr 9 1 (preV l j).length ((preV l j).flatMap encS), .dfr true, .row ⟨30, 5, .leaf, encF c, none⟩]) (L' := [(3, .ptr 0 0), (4, .ptr 3 0), (11, argsA c.a), (12, .int .i64 c.a.length), (13, .int .i64 0)]) ?_ rfl eF.g ⟨rfl, rfl, rfl, rfl, rfl, trivial⟩ rfl rfl ⟨.inr rfl, .inr rfl, .inr rfl, .inr rfl, trivial⟩ ⟨low_row rfl rfl, trivial, trivial, low_row rfl rfl, trivial⟩ rfl rfl
    refine Go.loop (fun i : Nat => [(3, .ptr 0 0), (4, .ptr 3 0), (11, argsA c.a), (12, .int .i64 c.a.length), (13, .int .i64 i)]) (fun i => hq 4 [.row ⟨25, 1, .leaf, [.own 1 ((preV l j).length + (argV (c.a.take i)).length) 1], none⟩, .arr 9 1 ((preV l j).length + (argV (c.a.take i)).length) ((preV l j).flatMap encS ++ (argV (c.a.take i)).flatMap encS), .dfr true, .row ⟨30, 5, .leaf, encF c, none⟩]) (fun i => i ≤ c.a.length) (fun i => c.a.length - i) 0 (by omega) ⟨rfl, rfl, rfl, rfl, rfl, trivial⟩ (by simp [argV]) (fun i hi ih => ?_)
    have hav : (argV (c.a.take i)).length ≤ i := Nat.le_trans (argV_len _) (by rw [List.length_take]; omega)
    have k1 := k33 (c.a.getD i default).x (hc.2.1 i)
    have k2 := k33 c.o hc.2.2.1
    repeat' first | refine Go.seq ?_ | refine Go.region rfl ?_ | refine Ops.nil ?_ | refine Ops.val eF rfl rfl (by first | exact Want.no rfl | exact Want.tT rfl rfl rfl rfl | exact Want.fF rfl rfl rfl rfl) (by first | exact Hop.move rfl rfl | exact Hop.lss rfl rfl rfl | exact Hop.add rfl rfl rfl (by omega) | exact Hop.faP eF rfl rfl rfl rfl rfl rfl rfl | exact Hop.idx eF rfl rfl rfl rfl rfl rfl rfl (fun _ => rfl) (by omega) | exact Hop.ldRG eF rfl rfl rfl rfl rfl | exact Hop.ldP eF rfl rfl rfl rfl rfl rfl rfl) ?_ | refine Ops.call eF rfl rfl (by first | exact Want.no rfl | exact Want.tT rfl rfl rfl rfl | exact Want.fF rfl rfl rfl rfl) rfl rfl rfl rfl (k1) rfl ?_ | refine Ops.call eF rfl rfl (by first | exact Want.no rfl | exact Want.tT rfl rfl rfl rfl | exact Want.fF rfl rfl rfl rfl) rfl rfl rfl rfl (k2) rfl ?_ | refine Ops.data eF rfl rfl (by first | exact Want.no rfl | exact Want.tT rfl rfl rfl rfl | exact Want.fF rfl rfl rfl rfl) rfl (Hop.bslice eF rfl rfl rfl rfl rfl rfl rfl rfl rfl rfl rfl) rfl rfl ?_ | refine Ops.appendE eF rfl rfl (by first | exact Want.no rfl | exact Want.tT rfl rfl rfl rfl | exact Want.fF rfl rfl rfl rfl) rfl rfl rfl rfl rfl rfl rfl rfl rfl rfl rfl rfl rfl rfl rfl rfl (by repeat' first | exact trivial | refine And.intro ?_ ?_ | exact .inr trivial | exact .inr (ind_row rfl rfl) | exact .inr rfl | exact .inl rfl | exact .inr (hindL _ _)) rfl rfl rfl rfl rfl (by first | rfl | exact ones_flat (fun _ => rfl) _) (by omega) ?_ | refine Ops.rowAt eF 4 rfl rfl (by first | exact Want.no rfl | exact Want.tT rfl rfl rfl rfl | exact Want.fF rfl rfl rfl rfl) rfl (Hop.alloc eF rfl rfl rfl) ?_ | refine Ops.unit eF rfl (by first | exact Want.no rfl | exact Want.tT rfl rfl rfl rfl | exact Want.fF rfl rfl rfl rfl) (Hop.store eF rfl rfl rfl rfl rfl rfl) (ArrKeep.put rfl) ?_ | refine Go.condPt rfl (fun _ => ?_) (fun _ => ?_) | refine Go.block ?_ | refine Go.unblk ?_ | refine Go.skip ?_ | refine Go.exit rfl ?_
    all_goals try simp only [Int.toNat_natCast] at *
    · rename_i q1 q2
      have g := ih (i + 1) (by omega) (by omega)
      simp only [argV_succ (show i < c.a.length by omega), isV, bd_of q2, cond_true, List.length_append, List.length_cons, List.length_nil, Nat.zero_add, List.flatMap_append, List.flatMap_cons, List.flatMap_nil, List.append_nil, ← Nat.add_assoc, ← List.append_assoc] at g
      exact Go.toQ g rfl eF.g ⟨rfl, rfl, rfl, rfl, rfl, trivial⟩ rfl rfl ⟨.inr rfl, .inr rfl, .inr rfl, .inr rfl, trivial⟩ ⟨low_row rfl rfl, trivial, trivial, low_row rfl rfl, trivial⟩ rfl rfl
    · rename_i q1 q2
      have g := ih (i + 1) (by omega) (by omega)
      simp only [argV_succ (show i < c.a.length by omega), isV, bd_no q2, cond_false, List.append_nil] at g
      exact Go.toQ g rfl eF.g ⟨rfl, rfl, rfl, rfl, rfl, trivial⟩ rfl rfl ⟨.inr rfl, .inr rfl, .inr rfl, .inr rfl, trivial⟩ ⟨low_row rfl rfl, trivial, trivial, low_row rfl rfl, trivial⟩ rfl rfl
    · rename_i q1 q2
      have ei : c.a.take i = c.a := by rw [show i = c.a.length by omega, List.take_length]
      have e1 : (preV l (j + 1)).length = (preV l j).length + (argV (c.a.take i)).length + 1 := by simp [hs, ownV, isV, bd_of q2, ei]; omega
      have e2 : (preV l (j + 1)).flatMap encS = (preV l j).flatMap encS ++ (argV (c.a.take i)).flatMap encS ++ encS c.o := by simp [hs, ownV, isV, bd_of q2, ei]
      refine Go.nextK ?_
      rw [e1, e2]
      exact ChgE.cut _ rfl eF.g rfl ⟨.inr rfl, .inr rfl, .inr rfl, trivial⟩ ⟨low_row rfl rfl, trivial, trivial, trivial⟩
    · rename_i q1 q2
      have ei : c.a.take i = c.a := by rw [show i = c.a.length by omega, List.take_length]
      have e1 : (preV l (j + 1)).length = (preV l j).length + (argV (c.a.take i)).length := by simp [hs, ownV, isV, bd_no q2, ei]
      have e2 : (preV l (j + 1)).flatMap encS = (preV l j).flatMap encS ++ (argV (c.a.take i)).flatMap encS := by simp [hs, ownV, isV, bd_no q2, ei]
      refine Go.nextK ?_
      rw [e1, e2]
      exact ChgE.cut _ rfl eF.g rfl ⟨.inr rfl, .inr rfl, .inr rfl, trivial⟩ ⟨low_row rfl rfl, trivial, trivial, trivial⟩
  · rw [List.length_map, preV_all]
    by_cases hz : (varsL l).length = 0
    · have hz2 : varsL l = [] := List.length_eq_zero_iff.1 hz
      rw [hz2]
      have kn1 := k34n
      have kn2 := k35n
      repeat' first | refine Go.seq ?_ | refine Go.region rfl ?_ | refine Ops.nil ?_ | refine Ops.change (Chg.ownEmp 34 (id := 1) rfl rfl rfl) ?_ | refine Ops.change (Chg.ownEmp 36 (id := 1) rfl rfl rfl) ?_ | refine Ops.val eF rfl rfl (by first | exact Want.no rfl | exact Want.tT rfl rfl rfl rfl | exact Want.fF rfl rfl rfl rfl) (by first | exact Hop.assign rfl rfl | exact Hop.ldP eF rfl rfl rfl rfl rfl rfl rfl) ?_ | refine Ops.call eF rfl rfl (by first | exact Want.no rfl | exact Want.tT rfl rfl rfl rfl | exact Want.fF rfl rfl rfl rfl) rfl rfl rfl rfl (kn1) rfl ?_ | refine Ops.call eF rfl rfl (by first | exact Want.no rfl | exact Want.tT rfl rfl rfl rfl | exact Want.fF rfl rfl rfl rfl) rfl rfl rfl rfl (kn2) rfl ?_ | refine Go.unblk ?_ | refine Go.retFm rfl rfl ?_ rfl
      have e : VarsG [] = [] := by simp [VarsG, Lib.compact, Lib.compactUpTo]
      rw [e]; rfl
    · rw [flat_strC]
      repeat' first | refine Go.seq ?_ | refine Go.region rfl ?_ | refine Ops.nil ?_ | refine Ops.sortS (ss := varsL l) eF rfl rfl (by first | exact Want.no rfl | exact Want.tT rfl rfl rfl rfl | exact Want.fF rfl rfl rfl rfl) rfl rfl rfl rfl Tryz.func12 rfl rfl hz (by omega) sort34 ?_ | refine Ops.compactS (ss := (varsL l).mergeSort sLe) eF rfl rfl (by first | exact Want.no rfl | exact Want.tT rfl rfl rfl rfl | exact Want.fF rfl rfl rfl rfl) rfl rfl rfl rfl rfl Tryz.func13 rfl rfl hz (by omega) compact35 (fun _ => (by repeat' first | exact trivial | refine And.intro ?_ ?_ | exact .inr trivial | exact .inr (ind_row rfl rfl) | exact .inr rfl | exact .inl rfl)) rfl rfl (by simp) rfl (fun h' hh => ?_) | refine Ops.val eF rfl rfl (by first | exact Want.no rfl | exact Want.tT rfl rfl rfl rfl | exact Want.fF rfl rfl rfl rfl) (by first | exact Hop.assign rfl rfl | exact Hop.ldP eF rfl rfl rfl rfl rfl rfl rfl) ?_ | refine Go.unblk ?_
      subst hh
      repeat' first | refine Go.retFm rfl rfl ?_ rfl
      simp only [strsA, VarsG, dsl, flat_strC]; rfl
end Go.Px.Fv
end
/- FvT -/
section
set_option linter.unusedVariables false
set_option linter.unusedSimpArgs false
namespace Go.Px.Fv
open Go.Proofs
theorem s_lt_of {x y : Str} (h : ¬ y < x) (hn : x ≠ y) : x < y := by
  by_cases q : x < y
  · exact q
  · exact absurd (List.le_antisymm (show x ≤ y from h) (show y ≤ x from q)) hn
theorem s_le_lt {x y z : Str} (h1 : ¬ y < x) (h2 : y < z) : x < z := by
  by_cases q : x = y
  · rw [q]; exact h2
  · exact List.lt_trans (s_lt_of h1 q) h2
theorem s_ne {x y : Str} (h : x < y) : x ≠ y := fun e => by subst e; exact List.lt_irrefl _ h
/-- in order, each once -/
abbrev Srt (l : List Str) : Prop := l.Pairwise (· < ·)
theorem srt_eq : ∀ {a b : List Str}, Srt a → Srt b → (∀ x, x ∈ a ↔ x ∈ b) → a = b
  | [], [], _, _, _ => rfl
  | [], y :: b, _, _, h => by have := (h y).2 List.mem_cons_self; cases this
  | x :: a, [], _, _, h => by have := (h x).1 List.mem_cons_self; cases this
  | x :: a, y :: b, ha, hb, h => by
    obtain ⟨a1, a2⟩ := List.pairwise_cons.1 ha
    obtain ⟨b1, b2⟩ := List.pairwise_cons.1 hb
    have hxy : x = y := by
      rcases List.mem_cons.1 ((h x).1 List.mem_cons_self) with q | q
      · exact q
      · rcases List.mem_cons.1 ((h y).2 List.mem_cons_self) with r | r
        · exact r.symm
        · exact absurd (List.lt_trans (b1 x q) (a1 y r)) (List.lt_irrefl _)
    subst hxy
    congr 1
    refine srt_eq a2 b2 fun z => ⟨fun hz => ?_, fun hz => ?_⟩
    · rcases List.mem_cons.1 ((h z).1 (List.mem_cons_of_mem _ hz)) with q | q
      · exact absurd q (Ne.symm (s_ne (a1 z hz)))
      · exact q
    · rcases List.mem_cons.1 ((h z).2 (List.mem_cons_of_mem _ hz)) with q | q
      · exact absurd q (Ne.symm (s_ne (b1 z hz)))
      · exact q
theorem getD_eq {l : List Str} {i : Nat} (h : i < l.length) : l.getD i default = l[i] := by
  rw [List.getD_eq_getElem?_getD, List.getElem?_eq_getElem h]; rfl
theorem keeps_iff (d : Array Str) (j : Nat) : Lib.keeps d j = true ↔ j = 0 ∨ d[j]! ≠ d[j - 1]! := by
  unfold Lib.keeps; simp
theorem compact_mem (zs : List Str) (y : Str) : y ∈ Lib.compact zs ↔ y ∈ zs := by
  unfold Lib.compact Lib.compactUpTo
  simp only [List.mem_map, List.mem_filter, List.mem_range]
  have hg : ∀ j, j < zs.length → zs.toArray[j]! = zs.getD j default := fun j hj => by
    rw [getD_eq hj]; simp [hj]
  constructor
  · rintro ⟨j, ⟨hj, _⟩, e⟩
    rw [hg j hj, getD_eq hj] at e
    rw [← e]; exact List.getElem_mem hj
  · intro hy
    obtain ⟨i, hi, e⟩ := List.getElem_of_mem hy
    have key : ∀ n, n < zs.length → zs.getD n default = y → ∃ j, (j < zs.length ∧ Lib.keeps zs.toArray j = true) ∧ zs.toArray[j]! = y := by
      intro n
      induction n with
      | zero => exact fun h0 e0 => ⟨0, ⟨h0, by rw [keeps_iff]; exact .inl rfl⟩, by rw [hg 0 h0]; exact e0⟩
      | succ n ih =>
        intro hn en
        by_cases q : zs.getD n default = y
        · exact ih (by omega) q
        · refine ⟨n + 1, ⟨hn, ?_⟩, by rw [hg _ hn]; exact en⟩
          rw [keeps_iff]
          right
          rw [hg _ hn, Nat.add_sub_cancel, hg _ (by omega), en]
          exact fun e2 => q e2.symm
    exact key i hi (by rw [getD_eq hi]; exact e)
theorem compact_srt {zs : List Str} (h : zs.Pairwise (fun a b => ¬ b < a)) : Srt (Lib.compact zs) := by
  unfold Lib.compact Lib.compactUpTo Srt
  rw [List.pairwise_map]
  refine List.Pairwise.imp_of_mem (R := (· < ·)) ?_ (List.Pairwise.filter _ List.pairwise_lt_range)
  intro i j hi hj hij
  simp only [List.mem_filter, List.mem_range] at hi hj
  have hg : ∀ j, j < zs.length → zs.toArray[j]! = zs.getD j default := fun j hj => by
    rw [getD_eq hj]; simp [hj]
  rw [keeps_iff] at hj
  have hk := hj.2.resolve_left (by omega)
  rw [hg j hj.1, hg (j - 1) (by omega), getD_eq hj.1, getD_eq (by omega)] at hk
  rw [hg i hi.1, hg j hj.1, getD_eq hi.1, getD_eq hj.1]
  have h1 : ¬ zs[j] < zs[j - 1] := List.pairwise_iff_getElem.1 h (j - 1) j (by omega) hj.1 (by omega)
  have h2 : zs[j - 1] < zs[j] := s_lt_of h1 (Ne.symm hk)
  rcases Nat.lt_or_ge i (j - 1) with q | q
  · exact s_le_lt (List.pairwise_iff_getElem.1 h i (j - 1) hi.1 (by omega) q) h2
  · have e : i = j - 1 := by omega
    subst e; exact h2
theorem varsG_spec (l : List Str) : Srt (VarsG l) ∧ ∀ y, y ∈ VarsG l ↔ y ∈ l := by
  unfold VarsG
  refine ⟨compact_srt ?_, fun y => by rw [compact_mem, List.mem_mergeSort]⟩
  have := List.pairwise_mergeSort (le := sLe) (fun a b c h1 h2 => by
    unfold sLe at *
    simp only [decide_eq_true_eq] at *
    exact List.le_trans h1 h2) (fun a b => by
    unfold sLe
    simp only [Bool.or_eq_true, decide_eq_true_eq]
    exact List.le_total a b) l
  refine this.imp fun {a b} q => ?_
  unfold sLe at q
  exact of_decide_eq_true q
theorem Srt.sub {a : List Str} (h : Srt a) (p : Str → Bool) : Srt (a.filter p) := List.Pairwise.filter p h
/-- one whose texts are all in another one is no longer -/
theorem srt_le {a b : List Str} (ha : Srt a) (hb : Srt b) (h : ∀ x ∈ a, x ∈ b) : a.length ≤ b.length := by
  have e : a = b.filter (fun x => decide (x ∈ a)) := srt_eq ha (hb.sub _) fun x => by
    rw [List.mem_filter]
    simp only [decide_eq_true_eq]
    exact ⟨fun q => ⟨h x q, q⟩, fun q => q.2⟩
  rw [e]
  exact List.length_filter_le _ _
theorem filter_len {α : Type} (p : α → Bool) : ∀ l : List α, l.length = (l.filter p).length + (l.filter fun x => !p x).length
  | [] => rfl
  | x :: l => by
    have := filter_len p l
    cases q : p x <;> simp [q] <;> omega
theorem srt_add {a b d : List Str} (ha : Srt a) (hb : Srt b) (hd : Srt d) (h : ∀ x ∈ d, x ∈ a ∨ x ∈ b) : d.length ≤ a.length + b.length := by
  have h1 := srt_le (hd.sub (fun x => decide (x ∈ a))) ha fun x hx => by
    have := (List.mem_filter.1 hx).2
    simpa using this
  have h2 := srt_le (hd.sub (fun x => !decide (x ∈ a))) hb fun x hx => by
    obtain ⟨q1, q2⟩ := List.mem_filter.1 hx
    rcases h x q1 with r | r
    · simp [r] at q2
    · exact r
  have h3 := filter_len (fun x => decide (x ∈ a)) d
  omega
mutual
theorem vars_var : ∀ (c : Cl) (x : Str), x ∈ c.vars → VarP x
  | .mk k n a o kids, x, h => by
    simp only [Cl.vars, List.mem_append] at h
    rcases h with (h | h) | h
    · exact bd_iff.1 (List.mem_filter.1 h).2
    · by_cases q : VarP o
      · rw [show isV o = true from bd_of q] at h
        rcases List.mem_singleton.1 h with rfl
        exact q
      · rw [show isV o = false from bd_no q] at h
        cases h
    · exact varsL_var kids x h
theorem varsL_var : ∀ (l : List Cl) (x : Str), x ∈ varsL l → VarP x
  | [], x, h => by cases h
  | c :: r, x, h => by
    simp only [varsL, List.mem_append] at h
    rcases h with h | h
    · exact vars_var c x h
    · exact varsL_var r x h
end
theorem okL_app : ∀ {a b : List Cl}, okL a → okL b → okL (a ++ b)
  | [], b, _, h => h
  | c :: a, b, h1, h2 => ⟨h1.1, okL_app h1.2 h2⟩
theorem cntL_app' : ∀ a b : List Cl, cntL (a ++ b) = cntL a + cntL b
  | [], b => by simp [cntL]
  | c :: a, b => by
    have := cntL_app' a b
    simp only [List.cons_append, cntL, this]; omega
/-- a not's variables are those within it -/
theorem vars_not (l : List Cl) : varsL [.mk 5 [] [] [] l] = varsL l := by
  have : isV [] = false := bd_no fun h => by have := h.1; simp at this
  simp [varsL, Cl.vars, argV, this]
theorem varsG_two (l m : List Cl) (x : Str) : x ∈ VarsG (varsL (l ++ m)) ↔ x ∈ VarsG (varsL l) ∨ x ∈ VarsG (varsL m) := by
  rw [(varsG_spec _).2, (varsG_spec _).2, (varsG_spec _).2, varsL_app, List.mem_append]
end Go.Px.Fv
end
/- PxVg -/
section
set_option linter.unusedVariables false
set_option linter.unusedSimpArgs false
namespace Go.Px
section
variable {X : Cx} {tb : List (Nat × TE)} (E : Env X.c tb) {sz : Nat} {rd : Option Nat} {all : Array Oper} {o : Oper} {rest : List Oper} {k : List It} {L : List (Nat × AV)} {h : Heap} {m : List Nat} {Q : Post}
include E
omit E in
theorem flat_set {α : Type} {z : Nat} {enc : α → List AV} (henc : ∀ a, (enc a).length = z) : ∀ {l : List α} {i : Nat} {b : α}, i < l.length → (l.set i b).flatMap enc = (l.flatMap enc).take (i * z) ++ enc b ++ (l.flatMap enc).drop (i * z + z)
  | [], i, b, hi => by simp at hi
  | a :: l, 0, b, hi => by
    have : List.drop z (enc a ++ l.flatMap enc) = l.flatMap enc := by rw [List.drop_append_of_le_length (by rw [henc]; exact Nat.le_refl _), List.drop_of_length_le (by rw [henc]; exact Nat.le_refl _), List.nil_append]
    simp [this]
  | a :: l, i + 1, b, hi => by
    have ih := flat_set henc (l := l) (i := i) (b := b) (by simpa using hi)
    rw [List.set_cons_succ, List.flatMap_cons, ih, List.flatMap_cons]
    have e1 : (i + 1) * z = (enc a).length + i * z := by rw [henc, Nat.succ_mul, Nat.add_comm]
    rw [e1, Nat.add_assoc, List.take_append, List.drop_append]
    rw [List.take_of_length_le (l := enc a) (by omega), List.drop_of_length_le (l := enc a) (by omega)]
    simp
end
end Go.Px
end
/- PxVh -/
section
set_option linter.unusedVariables false
set_option linter.unusedSimpArgs false
namespace Go.Px
/-- slots that name this number say nothing any more -/
def dropI (id : Nat) : List (Nat × AV) → List (Nat × AV)
  | [] => []
  | (t, v) :: r => (match indB id v with | true => (t, v) | false => (t, .bad)) :: dropI id r
/-- ITS FIRST ELEMENTS, under a number of their own; the old number says nothing any more -/
theorem PI.reid {X : Cx} {ρ : Map} {h : Heap} {w : World} (p : PI X ρ h w) {id ty z n q : Nat} {l : List AV} (hg0 : h.get id = .arr ty z n l) (hi : HInd id h) (hq : q ≤ n) (hG : indsB id X.gv = true) (hz : X.g = none ∨ Nat.ble 1 h.nxt = true) {a0 : Option Addr} {C0 : Nat} (hv : ρ.V id n = some (.slice a0 n C0)) :
    ∃ ρ', PI X ρ' ((h.put id .none).new (.arr ty z q (l.take (q * z)))) w ∧ SubX id ρ ρ' ∧ ρ'.V h.nxt q = some (.slice a0 q C0) ∧ (∀ i, i ≠ id → i ≠ h.nxt → ρ' i = ρ i) := by
  obtain ⟨hlen, hcase⟩ := p.hr.av id ty z n l hg0
  have hlt : id < h.nxt := by
    rcases Nat.lt_or_ge id h.nxt with x | x
    · exact x
    · rw [p.wf.fresh id x] at hg0; cases hg0
  have hok0 : h.ok id := by unfold Heap.ok; rw [hg0]; trivial
  let ρ' : Map := ⟨fun i => if i = h.nxt then ρ id else if i = id then none else ρ i, ρ.F, fun j r => if j = h.nxt ∧ r = q then some (.slice a0 q C0) else ρ.V j r⟩
  have mN : ρ' h.nxt = ρ id := if_pos rfl
  have mI : ρ' id = none := by show (if id = h.nxt then _ else if id = id then _ else _) = _; rw [if_neg (by omega), if_pos rfl]
  have mO : ∀ i, i ≠ id → i ≠ h.nxt → ρ' i = ρ i := fun i a b => by show (if i = h.nxt then _ else if i = id then _ else _) = _; rw [if_neg b, if_neg a]
  have v1 : ρ'.V h.nxt q = some (.slice a0 q C0) := if_pos ⟨rfl, rfl⟩
  have v2 : ∀ j r, ¬ (j = h.nxt ∧ r = q) → ρ'.V j r = ρ.V j r := fun j r a => if_neg a
  have vm : ∀ j r v, ρ.V j r = some v → ρ'.V j r = some v := fun j r v e => by
    by_cases hh : j = h.nxt ∧ r = q
    · rw [hh.1, p.vf h.nxt (Nat.le_refl _)] at e; cases e
    · rw [v2 j r hh]; exact e
  have hne : ∀ i B N, ρ i = some (B, N) → i ≠ h.nxt := fun i B N e x => by rw [x, p.fr.1 h.nxt (Nat.le_refl _)] at e; cases e
  have sx : SubX id ρ ρ' := ⟨fun i p' x e => by obtain ⟨B, N⟩ := p'; rw [mO i x (hne i B N e)]; exact e, fun _ _ _ e => e, vm⟩
  let h' := (h.put id .none).new (.arr ty z q (l.take (q * z)))
  have hnx : h'.nxt = h.nxt + 1 := rfl
  have gN : h'.get h.nxt = .arr ty z q (l.take (q * z)) := by show ((h.put id .none).new _).get _ = _; rw [Heap.get_new]; exact if_pos rfl
  have gI : h'.get id = .none := by show ((h.put id .none).new _).get _ = _; rw [Heap.get_new, if_neg (show ¬ id = (h.put id .none).nxt from Nat.ne_of_lt hlt), Heap.get_put, if_pos rfl]
  have gO : ∀ j, j ≠ id → j ≠ h.nxt → h'.get j = h.get j := fun j a b => by show ((h.put id .none).new _).get _ = _; rw [Heap.get_new, if_neg (show ¬ j = (h.put id .none).nxt from b), Heap.get_put, if_neg a]
  have ho : ∀ j, j ≠ id → j ≠ h.nxt → (h'.ok j ↔ h.ok j) := fun j a b => Heap.ok_same (gO j a b) (fun _ _ _ _ => rfl)
  -- where a number comes from
  have src : ∀ i B N, ρ' i = some (B, N) → h'.ok i → ∃ j, ρ j = some (B, N) ∧ h.ok j ∧ ((i = h.nxt ∧ j = id) ∨ (i ≠ id ∧ i ≠ h.nxt ∧ j = i)) := fun i B N e o => by
    by_cases x : i = h.nxt
    · subst x; rw [mN] at e; exact ⟨id, e, hok0, .inl ⟨rfl, rfl⟩⟩
    · by_cases y : i = id
      · subst y; rw [mI] at e; cases e
      · rw [mO i y x] at e; exact ⟨i, e, (ho i y x).1 o, .inr ⟨y, x, rfl⟩⟩
  have any : ∀ i B N, ρ' i = some (B, N) → ∃ j, ρ j = some (B, N) := fun i B N e => by
    by_cases x : i = h.nxt
    · subst x; rw [mN] at e; exact ⟨id, e⟩
    · by_cases y : i = id
      · subst y; rw [mI] at e; cases e
      · rw [mO i y x] at e; exact ⟨i, e⟩
  have hmul : q * z ≤ n * z := Nat.mul_le_mul_right z hq
  have hlen2 : (l.take (q * z)).length = q * z := by rw [List.length_take]; omega
  refine ⟨ρ', ⟨⟨fun i B N e => ?_, fun i B N e o => ?_, fun i j B N M hij e1 e2 k1 k2 => ?_, fun i r x => ?_, p.hr.fz, fun i B N e o => ?_, fun i t' z' n' l' x => ?_⟩, ⟨fun i hi' => ?_, fun i r s a b => ?_, fun i r s t a b c => ?_, fun s hs => ?_⟩, ⟨fun i hi' => ?_, fun i r x => ?_⟩, fun i hi' r => ?_, fun i t' z' n' l' x m' hm' => ?_, p.ext, fun i B N e => ?_, p.sub, p.old, inds_ok sx _ hG p.keep, hz.elim (fun x G e => by rw [x] at e; cases e) fun x => p.gh.go (fun t' z' n' l' y => ?_) (Same.refl w) (fun _ _ _ => rfl) (fun i B N e o => ?_) (fun _ _ _ => rfl) (fun B N e => ?_) (fun _ _ => rfl) (fun _ _ _ e => e) (fun v e => vm _ _ _ e)⟩, sx, v1, mO⟩
  · obtain ⟨j, e'⟩ := any i B N e; exact p.hr.lt j B N e'
  · obtain ⟨j, e', o', ⟨rfl, rfl⟩ | ⟨y, x, rfl⟩⟩ := src i B N e o
    · have hb := p.hr.ok _ B N e' hok0
      rw [hg0] at hb
      have ro : RowOk ρ.d ⟨ty, n * z, .leaf, l, none⟩ B N w := hb
      rw [gN]
      show RowOk ρ.d ⟨ty, q * z, .leaf, l.take (q * z), none⟩ B N w
      refine ⟨ro.1, Nat.le_trans hmul ro.2.1, ro.2.2.1, fun j hj => ?_⟩
      have hj : j < q * z := hj
      obtain ⟨v, a, b⟩ := ro.2.2.2 j (by show j < n * z; omega)
      refine ⟨v, a, ?_⟩
      rw [Row.get_new, Nat.mod_eq_of_lt (by omega)] at b
      rw [Row.get_new, Nat.mod_eq_of_lt (by omega), List.getElem?_take, if_pos hj]
      exact b
    · rw [gO j y x]; exact (p.hr.ok j B N e' o').ind sx (hi.at_ p.wf y)
  · obtain ⟨i', e1', o1, d1⟩ := src i B N e1 k1
    obtain ⟨j', e2', o2, d2⟩ := src j B M e2 k2
    rcases d1 with ⟨rfl, rfl⟩ | ⟨y1, x1, rfl⟩
    · rcases d2 with ⟨rfl, rfl⟩ | ⟨y2, x2, rfl⟩
      · exact absurd rfl hij
      · obtain ⟨r, s, x, a, _⟩ := p.hr.inj i' j' B N M (Ne.symm y2) e1' e2' o1 o2
        rw [hg0] at a; cases a
    · rcases d2 with ⟨rfl, rfl⟩ | ⟨y2, x2, rfl⟩
      · obtain ⟨r, s, x, _, a, _⟩ := p.hr.inj i' j' B N M y1 e1' e2' o1 o2
        rw [hg0] at a; cases a
      · obtain ⟨r, s, x, a, b, c⟩ := p.hr.inj i' j' B N M hij e1' e2' o1 o2
        exact ⟨r, s, x, by rw [gO i' y1 x1]; exact a, by rw [gO j' y2 x2]; exact b, c⟩
  · by_cases y : i = id
    · subst y; rw [gI] at x; cases x
    · by_cases y2 : i = h.nxt
      · subst y2; rw [gN] at x; cases x
      · rw [gO i y y2] at x
        obtain ⟨N, hN⟩ := p.hr.gl i r x
        exact ⟨N, by rw [mO i y y2]; exact hN⟩
  · obtain ⟨j, e', o', d⟩ := src i B N e o
    rcases p.hr.sep j B N e' o' with x | ⟨r, x⟩
    · exact .inl x
    · rcases d with ⟨rfl, rfl⟩ | ⟨y, y2, rfl⟩
      · rw [hg0] at x; cases x
      · exact .inr ⟨r, by rw [gO j y y2]; exact x⟩
  · by_cases y : i = id
    · subst y; rw [gI] at x; cases x
    · by_cases y2 : i = h.nxt
      · subst y2; rw [gN] at x; cases x
        refine ⟨hlen2, ?_⟩
        rcases hcase with ⟨rfl, a, e⟩ | ⟨B, N, C, e1, e2, e3, e4⟩
        · obtain rfl : q = 0 := by omega
          rw [e] at hv; cases hv
          exact .inl ⟨rfl, _, v1⟩
        · rw [e2] at hv; cases hv
          exact .inr ⟨B, N, C0, mN.trans e1, v1, by omega, e4⟩
      · rw [gO i y y2] at x
        obtain ⟨a1, ⟨a, b, c⟩ | ⟨B2, N2, C2, e1, e2, e3⟩⟩ := p.hr.av i t' z' n' l' x
        · exact ⟨a1, .inl ⟨a, b, vm _ _ _ c⟩⟩
        · exact ⟨a1, .inr ⟨B2, N2, C2, by rw [mO i y y2]; exact e1, vm _ _ _ e2, e3⟩⟩
  · have hi' : h.nxt + 1 ≤ i := hi'
    rw [gO i (by omega) (by omega)]; exact p.wf.fresh i (by omega)
  · by_cases y : i = id
    · subst y; rw [gI] at a; cases a
    · by_cases y2 : i = h.nxt
      · subst y2; rw [gN] at a; cases a
      · rw [gO i y y2] at a; exact Nat.lt_succ_of_lt (p.wf.root i r s a b)
  · by_cases y : i = id
    · subst y; rw [gI] at a; cases a
    · by_cases y2 : i = h.nxt
      · subst y2; rw [gN] at a; cases a
      · rw [gO i y y2] at a
        obtain ⟨u, u1, u2⟩ := p.wf.tip i r s t a b c
        exact ⟨u, by rw [gO t (fun e => by subst e; rw [hg0] at u1; cases u1) (fun e => by subst e; rw [p.wf.fresh _ (Nat.le_refl _)] at u1; cases u1)]; exact u1, u2⟩
  · exact p.wf.tipr s (Nat.le_of_succ_le hs)
  · have hi' : h.nxt + 1 ≤ i := hi'
    rw [mO i (by omega) (by omega)]; exact p.fr.1 i (by omega)
  · have := p.fr.2 i r x
    rw [gO i (fun e => by subst e; rw [hg0] at this; cases this) (fun e => by subst e; rw [p.wf.fresh _ (Nat.le_refl _)] at this; cases this)]; exact this
  · have hi' : h.nxt + 1 ≤ i := hi'
    rw [v2 i r (fun a => by omega)]; exact p.vf i (by omega) r
  · by_cases y : i = id
    · subst y; rw [gI] at x; cases x
    · by_cases y2 : i = h.nxt
      · subst y2; rw [gN] at x; cases x
        rw [v2 _ m' (fun a => by omega)]; exact p.vf _ (Nat.le_refl _) m'
      · rw [gO i y y2] at x
        rw [v2 i m' (fun a => y2 a.1)]; exact p.vu i t' z' n' l' x m' hm'
  · obtain ⟨j, e'⟩ := any i B N e; exact p.mine j B N e'
  · have h0 : 0 ≠ h.nxt := by have := bleT x; omega
    by_cases y3 : 0 = id
    · subst y3; rw [gI] at y; cases y
    · rw [gO 0 y3 h0] at y; exact ⟨_, _, _, y⟩
  · obtain ⟨j, e', o', _⟩ := src i B N e o
    exact .inr ⟨j, N, e', o'⟩
  · by_cases y : 1 = id
    · subst y; exact .inr hok0
    · exact .inl ⟨N, by rw [mO 1 y (hne 1 B N e)]; exact e⟩
section
variable {X : Cx} {tb : List (Nat × TE)} (E : Env X.c tb) {sz : Nat} {rd : Option Nat} {all : Array Oper} {o : Oper} {rest : List Oper} {k : List It} {L : List (Nat × AV)} {h : Heap} {m : List Nat} {Q : Post}
include E
omit E in
theorem reps_eq {α : Type} (enc : α → List AV) (d : α) : ∀ n, reps n (enc d) = (List.replicate n d).flatMap enc
  | 0 => rfl
  | n + 1 => by rw [List.replicate_succ, List.flatMap_cons, ← reps_eq enc d n]; rfl
omit E in
theorem ones_app : ∀ {a b : List AV}, ones a = true → ones b = true → ones (a ++ b) = true
  | [], b, _, h => h
  | x :: a, b, h1, h2 => by
    have h1 : (match x.one with | true => ones a | false => false) = true := h1
    show (match x.one with | true => ones (a ++ b) | false => false) = true
    cases hx : x.one <;> rw [hx] at h1
    · cases h1
    · exact ones_app h1 h2
omit E in
theorem dats_app : ∀ {a b : List AV}, datsB a = true → datsB b = true → datsB (a ++ b) = true
  | [], b, _, h => h
  | x :: a, b, h1, h2 => by
    simp only [datsB] at h1
    simp only [List.cons_append, datsB]
    cases hx : datB x <;> rw [hx] at h1
    · cases h1
    · exact dats_app h1 h2
omit E in
theorem dats_rep {α : Type} {enc : α → List AV} {d : α} (h : datsB (enc d) = true) : ∀ n, datsB ((List.replicate n d).flatMap enc) = true
  | 0 => rfl
  | n + 1 => by rw [List.replicate_succ, List.flatMap_cons]; exact dats_app h (dats_rep h n)
omit E in
theorem ones_rep {α : Type} {enc : α → List AV} {d : α} (h : ones (enc d) = true) : ∀ n, ones ((List.replicate n d).flatMap enc) = true
  | 0 => rfl
  | n + 1 => by rw [List.replicate_succ, List.flatMap_cons]; exact ones_app h (ones_rep h n)

omit E in
/-- a slot's slice without room, as an array of one's own in which nothing stands -/
theorem Chg.tokS (n0 t ty z : Nat) {u : AV} (hn0 : h.nxt = n0) (hu : noRoom u = true) (hl : lkO L t = some u) (hz : X.g = none ∨ Nat.ble 1 n0 = true := by first | exact .inl rfl | exact .inr rfl) : Chg X sz rd L h ((t, .own n0 0 z) :: L) (newAt n0 h (.arr ty z 0 [])) m := by
  subst hn0
  rw [← new_at rfl]
  exact Chg.tokU t ty z hu hl hz
end
open Go.Sort Go.Proofs in
/-- Compact of texts: what is left stays an array of one's own -/
theorem KM.compactO {c : Ctx} (k : CtxOk c) (hg0 : ∀ i r, c.g0.get i ≠ .gl r) {f : FuncId} {fn : Func} (hfn : c.P.funcs[f]? = some fn) (hb : fn.body.isSome = true) (hk : CompactC c f) (h0 : ∀ (a : Option Addr) (C : Nat) (w : World), Calls c.P f #[.slice a 0 C] w fun e w' => e = .returned (.slice a 0 C) ∧ w' = w) {n t : Nat} {ss : List (List UInt8)} (hsm : n ≤ 1000000) : KM c f [.arr t 1 n (strC ss)] [.own 0 n 1] (.own 1 (Lib.compact ss).length 1) [.no, .arr t 1 (Lib.compact ss).length (strC (Lib.compact ss))] := by
  refine ⟨Nat.le_succ _, rfl, rfl, rfl, rfl, rfl, fun ρ w A gx p hA => ?_⟩
  simp only [VRs] at hA
  obtain ⟨x, r0, hx, rfl, rfl⟩ := hA
  have hg : (hq 1 [AB.arr t 1 n (strC ss)]).get 0 = .arr t 1 n (strC ss) := rfl
  have hnm : fn.name ≠ "runtime.NumGoroutine" := by simpa using k.names f fn hfn
  obtain ⟨body, hbody⟩ := Option.isSome_iff_exists.1 hb
  -- the end, in both cases
  have fin : ∀ (w' : World) (a0 : Option Addr) (C : Nat) (h' : Heap) (l : List AV) (hnx : h'.nxt = 1) (hg' : h'.get 0 = .arr t 1 n l) (hi' : HInd 0 h') (hl : l.take ((Lib.compact ss).length * 1) = strC (Lib.compact ss)) (hle : (Lib.compact ss).length ≤ n) (hV : ρ.V 0 n = some (.slice a0 n C)) (hnC : n ≤ C) (hsh : (n = 0 ∧ ∃ a, Value.slice a0 n C = .slice a 0 0) ∨ ∃ B D, Value.slice a0 n C = .slice (some ⟨B, 0, none⟩) n D ∧ n ≤ D) (p2 : PI ⟨c, w, ρ.F, opnOf ρ, none, none, [], [], gx⟩ ρ h' w'),
      ∃ ρ', PI ⟨c, w, ρ.F, opnOf ρ, none, none, [], [], gx⟩ ρ' (hq 2 [.none, .arr t 1 (Lib.compact ss).length (strC (Lib.compact ss))]) w' ∧ VR ρ' (.own 1 (Lib.compact ss).length 1) (.slice a0 (Lib.compact ss).length C) := fun w' a0 C h' l hnx hg' hi' hl hle hV hnC hsh p2 => by
    obtain ⟨ρ2, r1, r2, r3, r4⟩ := p2.reid hg' hi' hle rfl (.inl rfl) hV
    rw [hl] at r1
    have r5 := r1.canon hg0 (bs := [.no, .arr t 1 (Lib.compact ss).length (strC (Lib.compact ss))]) ⟨trivial, by
      show Heap.get (Heap.new (h'.put 0 .none) _) 1 = _
      rw [Heap.get_new, if_pos (show 1 = (h'.put 0 .none).nxt from hnx.symm)], trivial⟩ rfl rfl rfl
    refine ⟨_, r5, ?_⟩
    simp only [VR]
    refine ⟨(cutN_V (show 1 < 2 by omega) _).trans (by rw [← hnx]; exact r3), ?_⟩
    rcases hsh with ⟨h0, a, e⟩ | ⟨B, D, e, hD⟩
    · cases e; exact .inl ⟨by omega, a0, by rw [show (Lib.compact ss).length = 0 by omega]⟩
    · cases e; exact .inr ⟨B, _, rfl, by omega⟩
  have hxs := hx
  simp only [VR] at hxs
  obtain ⟨hV0, hsh⟩ := hxs
  by_cases hn : n = 0
  · obtain ⟨a, C, rfl, hC⟩ := own_slice hx
    have hl := (own0 p hg hn hx ρ).2
    have hss : ss = [] := by simpa [strC] using hl
    subst hss
    have hcalls := h0 a C w
    have hce : Lib.compact ([] : List (List UInt8)) = [] := by simp [Lib.compact, Lib.compactUpTo]
    refine ⟨.enter f _, w, by simp [callFunc, hfn, hnm, hbody, Sem.run]; rfl, ?_⟩
    subst hn
    refine (callsIn_wide.2 hcalls).mono fun e w' ⟨hz, hw'⟩ => ?_
    subst hz; subst hw'
    have := fin w' a C _ (strC []) rfl hg ⟨.inl rfl, trivial⟩ (by rw [hce]; rfl) (by rw [hce]; exact Nat.le_refl _) hV0 hC hsh p
    rw [hce] at this ⊢
    exact this
  · obtain ⟨B, C, rfl, hV⟩ := own_at p.hr hg hn hx
    obtain ⟨_, hH, hB, hlen, hnC⟩ := Good.texts (ss' := ss) (m := 0) (os := #[]) p.hr p.wf hg hV hn rfl rfl
    have hcalls := hk B C ss w hH (by omega) (by omega)
    rw [hlen] at hcalls
    refine ⟨.enter f _, w, by simp [callFunc, hfn, hnm, hbody, Sem.run]; rfl, ?_⟩
    refine (callsIn_wide.2 hcalls).mono fun e w' ⟨hz, q, hw'⟩ => ?_
    subst hz
    have hcl := compact_le ss
    have gd := (Good.texts (ss' := Lib.compact ss ++ List.replicate (n - (Lib.compact ss).length) []) (w' := w') (m := q) (os := #[]) p.hr p.wf hg hV hn (by rw [hlen] at hcl; simp; omega) (by rw [hw', grow_empty])).1
    have p2 := p.good gd (ArrKeep.arr hg)
    have := fin w' (some ⟨B, 0, none⟩) C _ (strC (Lib.compact ss ++ List.replicate (n - (Lib.compact ss).length) [])) rfl (by rw [Heap.get_put, if_pos rfl]) (by exact ⟨.inl rfl, trivial⟩) (by
      unfold strC
      rw [Nat.mul_one, List.map_append, List.take_append_of_le_length (by simp), List.take_of_length_le (by simp)]) (by omega) hV hnC (.inr ⟨B, C, rfl, hnC⟩) p2
    exact this
end Go.Px
end
/- PxVi -/
section
set_option linter.unusedVariables false
set_option linter.unusedSimpArgs false
namespace Go.Px
section
variable {X : Cx} {sz : Nat} {rd : Option Nat} {L : List (Nat × AV)} {h : Heap} {m : List Nat}
end
section
variable {X : Cx} {tb : List (Nat × TE)} (E : Env X.c tb) {sz : Nat} {rd : Option Nat} {all : Array Oper} {o : Oper} {rest : List Oper} {k : List It} {L : List (Nat × AV)} {h : Heap} {m : List Nat} {Q : Post}
include E
omit E in
/-- arguments, an array of one's own read as data -/
def RdA (id n z : Nat) (l : List AV) : List AV → List AV → Prop
  | [], [] => True
  | a :: r, b :: s => (a = b ∨ (a = .own id n z ∧ b = .rsl n z l)) ∧ RdA id n z l r s
  | _, _ => False
omit E in
/-- values that name no memory -/
def flat1 : AV → Bool
  | .bool _ => true
  | .int _ _ => true
  | .str _ => true
  | _ => false
omit E in
def flats : List AV → Bool
  | [] => true
  | a :: l => (match flat1 a with | true => flats l | false => false)
omit E in
def flatV (v : AV) : Bool := match v with | .tup l => flats l | v => flat1 v
omit E in
theorem flat1_ok {ρ σ : Map} {v : AV} (h : flat1 v = true) {x : Value} (q : VR ρ v x) : VR σ v x := by
  cases v <;> simp only [flat1] at h <;> first | (cases h; done) | skip
  · simpa [VR] using q
  · simpa [VR] using q
  · simpa [VR] using q
omit E in
theorem flats_ok {ρ σ : Map} : ∀ {l : List AV} {L : List Value}, flats l = true → VRs ρ l L → VRs σ l L
  | [], L, _, q => by simpa [VRs] using q
  | a :: l, L, h, q => by
    simp only [flats] at h
    split at h
    · rename_i ha
      simp only [VRs] at q ⊢
      obtain ⟨x, r, e1, e2, e3⟩ := q
      exact ⟨x, r, flat1_ok ha e1, flats_ok h e2, e3⟩
    · cases h
omit E in
theorem flat_ok {ρ σ : Map} {v : AV} (h : flatV v = true) {x : Value} (q : VR ρ v x) : VR σ v x := by
  unfold flatV at h
  split at h
  · simp only [VR] at q ⊢
    obtain ⟨L, hl, e⟩ := q
    exact ⟨L, flats_ok h hl, e⟩
  · exact flat1_ok h q
omit E in
theorem rdA_ok {ρ σ : Map} {id n z : Nat} {l : List AV} (hs : Sub ρ.d σ.d) (hr : ∀ S, VR ρ (.own id n z) S → VR σ.d (.rsl n z l) S) : ∀ {a b : List AV} {A : List Value}, RdA id n z l a b → datsB b = true → VRs ρ a A → VRs σ.d b A
  | [], [], A, _, _, h => by simpa [VRs] using h
  | [], _ :: _, A, h, _, _ => h.elim
  | _ :: _, [], A, h, _, _ => h.elim
  | u :: a, v :: b, A, ⟨h1, h2⟩, hd, h => by
    simp only [datsB] at hd
    split at hd
    · rename_i hv
      simp only [VRs] at h ⊢
      obtain ⟨x, r, e1, e2, e3⟩ := h
      refine ⟨x, r, ?_, rdA_ok hs hr h2 hd e2, e3⟩
      rcases h1 with rfl | ⟨rfl, rfl⟩
      · exact VR.mono hs _ (dat_ok _ hv e1)
      · exact hr x e1
    · cases hd
end
end Go.Px
end
/- PxVj -/
section
set_option linter.unusedVariables false
set_option linter.unusedSimpArgs false
namespace Go.Px
section
variable {X : Cx} {sz : Nat} {rd : Option Nat} {all : Array Oper} {k : List It} {L : List (Nat × AV)} {h : Heap} {m : List Nat} {Q : Post}
end
end Go.Px
end
/- PxVm -/
section
set_option linter.unusedVariables false
set_option linter.unusedSimpArgs false
namespace Go.Px
theorem ExtW.trans {a b d : World} (x : ExtW a b) (y : ExtW b d) : ExtW a d := ⟨x.1.trans y.1, fun i hi => (y.2 i (Nat.lt_of_lt_of_le hi x.1.size)).trans (x.2 i hi)⟩
/-- a contract in the worlds behind W -/
def KOkW (c : Ctx) (W : World) (f : FuncId) (args : List AV) (v : AV) : Prop :=
  ∀ (F : Nat → List Value) (w : World) (A : List Value), ExtW W w → FzW F w → VRs (fzm F) args A →
    ∃ nx w1, (callFunc f A.toArray).run c.P w = .ok nx w1 ∧ NextOk c.P (fun z w' => ExtW w w' ∧ ∃ F', (∀ (b j : Nat) (x : Value), (F b)[j]? = some x → (F' b)[j]? = some x) ∧ (∀ b, b < w.heap.size → F' b = F b) ∧ FzW F' w' ∧ VR (fzm F') v z) nx w1
theorem KOkW.of {c : Ctx} (W : World) (k : CtxOk c) (hg0 : ∀ i r, c.g0.get i ≠ .gl r) {f : FuncId} {fn : Func} {body : Code} (hf : c.P.funcs[f]? = some fn) (hb : fn.body = some body) {args : List AV} {v : AV} (hlen : args.length ≤ fn.ntmps)
    (H : ∀ w F, ExtW W w → Go ⟨c, w, F, fun _ => False, none, none, [], [], []⟩ fn.ntmps none [.code body] (argsL args 0) hS [] (Fin c fn.results.toList v)) : KOkW c W f args v := by
  intro F w A hE hF hA
  have hnm : fn.name ≠ "runtime.NumGoroutine" := by simpa using k.names f fn hf
  refine ⟨.enter f A.toArray, w, by simp [callFunc, hf, hnm, hb, Sem.run], ?_⟩
  refine callsIn_of_wp_marks hf hb trivial ?_
  have hpi : PI ⟨c, w, F, fun _ => False, none, none, [], [], []⟩ (fzm F) hS w := by
    refine ⟨bare_hr 0 (fun i B N e => by cases e) hF, bare_wf 0, ⟨fun _ _ => rfl, fun i r e => absurd e (hg0 i r)⟩, fun _ _ _ => rfl, (fun i t z n l e => by cases e), ⟨Same.refl w, fun _ _ => rfl⟩, (fun i B N e => by cases e), fun _ _ _ e => e, fun _ _ => rfl, (by simp only [VRs]), (fun G q => by cases q)⟩
  have h := (H w F hE).run (T.put und args (env0 und fn.ntmps) 0) (argsL_has args _ 0)
  have ht : Tri ⟨c, w, F, fun _ => False, none, none, [], [], []⟩ fn.ntmps none body ⟨T.put und args (env0 und fn.ntmps) 0, hS, []⟩ (Fin c fn.results.toList v) := h
  refine ht none (fzm F) w _ _ rfl hpi (args_er hA hlen) ⟨[], rfl, rfl⟩ fun x s' a' w' ρ' ⟨hx, h', vs, q1, q2, q3, q4⟩ g1 g2 g3 g4 => ?_
  have hfin : LeavesInM Fence.wide 0 c.P fn a'.tmps (EndR fun z w' => ExtW w w' ∧ ∃ F', (∀ (b j : Nat) (x : Value), (F b)[j]? = some x → (F' b)[j]? = some x) ∧ (∀ b, b < w.heap.size → F' b = F b) ∧ FzW F' w' ∧ VR (fzm F') v z) a'.defers .returning w' := by
    refine leave_ok g2.hr g2.wf (g4.nil rfl) q1 fun w2 g => ?_
    have g5 := g2.good g (ArrKeep.leave q1)
    obtain ⟨z, z1, z2⟩ := results_ok k g5.hr g3 q2
    rw [q3] at z2
    exact ⟨z, z1, ⟨g5.ext.1, fun b hb => g5.ext.2 b ⟨hb, fun q => q⟩⟩, ρ'.F, g5.sub, fun b hb => g5.old b ⟨hb, fun q => q⟩, g5.hr.fz, dat_ok v q4 z2⟩
  rcases hx with rfl | rfl
  · exact hfin
  · exact hfin
section
variable {X : Cx} {tb : List (Nat × TE)} {sz : Nat} {rd : Option Nat} {all : Array Oper} {o : Oper} {rest : List Oper} {k : List It} {L : List (Nat × AV)} {h : Heap} {m : List Nat} {Q : Post}
theorem OpT.callW {s : St} (kc : CtxOk X.c) {W : World} (hE : ExtW W X.w0) (hop : ∀ b, ¬ X.opn b) {o : Oper} {cl : Call} {f : Operand} {g : FuncId} {vs : List AV} {v : AV} {K : AV → St → Prop} (ho : o.op = .call cl) (hc : cl.callee = .value f) (hf : ev s.e f = .fn (.func g) [] [])
    (hv : cl.args.toList.map (ev s.e) = vs) (hd : datsB vs = true) (hk : KOkW X.c W g vs v) (hK : K v s) : OpT X sz rd o s K := fun ro ρ w a next Q' h1 h2 h3 h4 h5 => by
  refine ⟨fun _ _ => trivial, ?_⟩
  rw [show (wideR ro).round = ro from rfl, Oper.semAt_eq ro a.eval o (by rw [ho]; intro d q; cases q)]
  have hfv := ev_ok h3 f
  rw [hf] at hfv
  simp only [VR, VRs, FR] at hfv
  obtain ⟨f', F, C, e1, rfl, rfl, e4⟩ := hfv
  subst e1
  have hargs := evs_ok h3 cl.args.toList
  rw [hv] at hargs
  obtain ⟨nx, w1, q1, q2⟩ := hk ρ.F w (cl.args.toList.map a.eval) (hE.trans ⟨h2.ext.1, fun b hb => h2.ext.2 b ⟨hb, hop b⟩⟩) h2.hr.fz (dats_ok vs hd hargs)
  have hrun : (execOp a.eval o).run X.c.P w = .ok nx w1 := by
    rw [← q1]
    simp only [execOp, ho, resolve, hc, e4, Deferred.ofValue, Sem.run_bind, Sem.run_pure, Result.andThen_ok, invoke]
    congr 2
    apply Array.ext'; simp
  rw [hrun]
  refine uponIn_of_next q2 fun z w' ⟨x, F', f1, f2, f3, f4⟩ => ?_
  have hs : Sub ρ ⟨ρ.m, F', ρ.V⟩ := ⟨fun _ _ e => e, f1, fun _ _ _ e => e⟩
  refine h5 v s z w' ⟨ρ.m, F', ρ.V⟩ hK (h1.mono hs) (h2.frz x f1 f2 f3) (h3.mono hs) (h4.mono hs) ?_
  exact VR.mono (ρ := fzm F') (σ := ⟨ρ.m, F', ρ.V⟩) ⟨(fun _ _ e => by cases e), fun _ _ _ e => e, (fun _ _ _ e => by cases e)⟩ v f4
theorem Ops.callW (E : Env X.c tb) {W : World} {d : Nat} {v : AV} {cl : Call} {f : Operand} {g : FuncId} {vs : List AV} (hE : ExtW W X.w0) (hop : ∀ b, ¬ X.opn b) (hd : o.dst = some d) (hs : Nat.ble (d + 1) sz = true) (hw : Want all L o true) (ho : o.op = .call cl) (hc : cl.callee = .value f) (hf : evL L f = some (.fn (.func g) [] []))
    (hv : evsL L cl.args.toList = some vs) (hk : KOkW X.c W g vs v) (hdt : datsB vs = true) (n : Ops X sz rd all rest k ((d, v) :: L) h m Q) : Ops X sz rd all (o :: rest) k L h m Q := ⟨fun e he =>
  TriOps.cons (hw e he) (OpT.callW E.k hE hop ho hc (he.ev hf) (he.evs hv) hdt hk ⟨e.set und d v, by rw [hd]; exact setD_some hs, n.run _ (he.set d v)⟩)⟩
end
/-! ## packages' variables as a heap -/
/-- a heap of variables alone -/
structure BaseOk (g0 : Heap) : Prop where
  wf : WF g0
  only : ∀ i, g0.get i = .none ∨ ∃ r, g0.get i = .gl r
noncomputable def mapG (g0 : Heap) (F : Nat → List Value) : Map := ⟨fun i => match g0.get i with | .gl _ => some (i, 0) | _ => none, F, fun _ _ => none⟩
theorem mapG_some {g0 : Heap} {F : Nat → List Value} {i B N : Nat} (h : (mapG g0 F) i = some (B, N)) : B = i ∧ ∃ r, g0.get i = .gl r := by
  have h : (match g0.get i with | .gl _ => some (i, 0) | _ => none) = some (B, N) := h
  split at h
  · rename_i r hr; cases h; exact ⟨rfl, r, hr⟩
  · cases h
theorem mapG_of {g0 : Heap} {F : Nat → List Value} {i : Nat} {r : Row} (h : g0.get i = .gl r) : (mapG g0 F) i = some (i, 0) := by
  show (match g0.get i with | .gl _ => some (i, 0) | _ => none) = _
  rw [h]
/-- a world's variables hold what the heap says -/
def GlobP (g0 : Heap) (w : World) : Prop := ∀ i r, g0.get i = .gl r → i < w.heap.size ∧ ∀ j, j < r.n → ∃ x, w.cell? ⟨i, j, none⟩ = some x ∧ VR (fzm fun _ => []) (r.get j) x
theorem GlobP.ext {g0 : Heap} {W w : World} (h : GlobP g0 W) (x : ExtW W w) : GlobP g0 w := fun i r e => by
  obtain ⟨h1, h2⟩ := h i r e
  refine ⟨Nat.lt_of_lt_of_le h1 x.1.size, fun j hj => ?_⟩
  obtain ⟨y, y1, y2⟩ := h2 j hj
  refine ⟨y, ?_, y2⟩
  rw [← y1]
  unfold World.cell?
  rw [x.2 i h1]
/-- A RUN FROM THE VARIABLES ALONE: a contract. -/
theorem KOkW.run {c cG : Ctx} (hP : cG.P = c.P) (k : CtxOk cG) (kn : ∀ f, cG.kn.get none f = none) (hm : cG.P.follows .mixedOrders = true) (hb : BaseOk cG.g0) {W : World} (hW : GlobP cG.g0 W) {ext : Ext} (hx : ExtOk cG ext) {f : FuncId} {b : Bool} {lim n : Nat}
    (hrun : ∃ h', app cG drawA lim ext n (.f f) [] cG.g0 = .ok (.bool b) h') : KOkW c W f [] (.bool b) := by
  obtain ⟨h', hr⟩ := hrun
  intro F w A hE hF hA
  have hw := hW.ext hE
  have hhr : HR (mapG cG.g0 F) cG.g0 w := by
    refine ⟨fun i B N e => ?_, fun i B N e o => ?_, fun i j B N M hij e1 e2 _ _ => ?_, fun i r e => ⟨0, mapG_of e⟩, hF, fun i B N e o => ?_, fun k t z n l e => ?_⟩
    · obtain ⟨rfl, r, hr⟩ := mapG_some e; exact (hw _ r hr).1
    · obtain ⟨rfl, r, hr⟩ := mapG_some e
      rw [hr]
      exact fun j hj => by
        obtain ⟨x, x1, x2⟩ := (hw _ r hr).2 j hj
        exact ⟨x, x1, VR.mono (ρ := fzm fun _ => []) (σ := mapG cG.g0 F) ⟨(fun _ _ q => by cases q), (fun _ _ _ q => by simp [fzm] at q), (fun _ _ _ q => by cases q)⟩ _ x2⟩
    · obtain ⟨h1, _⟩ := mapG_some e1
      obtain ⟨h2, _⟩ := mapG_some e2
      exact absurd (h1.symm.trans h2) hij
    · obtain ⟨rfl, r, hr⟩ := mapG_some e
      exact .inr ⟨r, hr⟩
    · rcases hb.only k with q | ⟨r, q⟩ <;> rw [q] at e <;> cases e
  have hfr : FreeUp cG (mapG cG.g0 F) cG.g0 := ⟨fun i hi => by
    show (match cG.g0.get i with | .gl _ => some (i, 0) | _ => none) = none
    rw [hb.wf.fresh i hi], fun i r e => e⟩
  simp only [VRs] at hA
  subst hA
  obtain ⟨nx, w1, q1, q2⟩ := app_ok k kn drawA_calm (drawA_sound k hm) hx n (.f f) [] cG.g0 (.bool b) h' hr (mapG cG.g0 F) w [] hhr hb.wf hfr (by simp only [VRs])
  rw [← hP]
  refine ⟨nx, w1, q1, q2.mono fun z w' ⟨ρ', g, hz⟩ => ⟨⟨g.same, fun i hlt => ?_⟩, F, fun _ _ _ e => e, fun _ _ => rfl, fun B j x e => g.hr.fz B j x (g.sub.F B j x e), ?_⟩⟩
  · rcases hb.only i with e | ⟨r, e⟩
    · refine g.frame i hlt fun j N q => ?_
      obtain ⟨rfl, r, hr⟩ := mapG_some q
      rw [e] at hr; cases hr
    · exact g.glw i r e
  · simp only [VR] at hz ⊢
    exact hz
def rowG (cells : List AV) : Row := ⟨0, cells.length, .leaf, cells, none⟩
noncomputable def glHeap (G : Nat) (l : List (Nat × List AV)) : Heap := List.rec (motive := fun _ => Heap) ⟨G, .tab4 .none, .leaf, []⟩ (fun p _ h => h.put p.1 (.gl (rowG p.2))) l
theorem glHeap_nxt (G : Nat) : ∀ l, (glHeap G l).nxt = G
  | [] => rfl
  | p :: l => glHeap_nxt G l
theorem glHeap_tip (G : Nat) : ∀ l q, (glHeap G l).tip q = none
  | [], q => rfl
  | p :: l, q => glHeap_tip G l q
theorem glHeap_get (G : Nat) : ∀ l i, (glHeap G l).get i = .none ∨ ∃ cells, (i, cells) ∈ l ∧ (glHeap G l).get i = .gl (rowG cells)
  | [], i => .inl (get_tab4 _ i)
  | p :: l, i => by
    rw [show glHeap G (p :: l) = (glHeap G l).put p.1 (.gl (rowG p.2)) from rfl, Heap.get_put]
    by_cases e : i = p.1
    · rw [if_pos e]; exact .inr ⟨p.2, by rw [e]; exact List.mem_cons_self, rfl⟩
    · rw [if_neg e]
      rcases glHeap_get G l i with h | ⟨c, h1, h2⟩
      · exact .inl h
      · exact .inr ⟨c, List.mem_cons_of_mem _ h1, h2⟩
theorem rowG_get (cells : List AV) {j : Nat} (h : j < cells.length) : cells[j]? = some ((rowG cells).get j) := by
  unfold Row.get rowG
  simp only []
  rw [get_leaf]
  simp only []
  rw [Nat.mod_eq_of_lt h, nth_eq, List.getElem?_eq_getElem h]
theorem glHeap_base {G : Nat} {l : List (Nat × List AV)} (h : ∀ p ∈ l, p.1 < G) : BaseOk (glHeap G l) := by
  refine ⟨⟨fun i hi => ?_, fun i r q e => ?_, fun i r q t e => ?_, fun q _ => glHeap_tip G l q⟩, fun i => ?_⟩
  · rw [glHeap_nxt] at hi
    rcases glHeap_get G l i with e | ⟨c, e1, _⟩
    · exact e
    · have := h _ e1
      exact absurd this (by show ¬ i < G; omega)
  · rcases glHeap_get G l i with e' | ⟨c, _, e'⟩ <;> rw [e'] at e <;> cases e
  · rcases glHeap_get G l i with e' | ⟨c, _, e'⟩ <;> rw [e'] at e <;> cases e
  · rcases glHeap_get G l i with e' | ⟨c, _, e'⟩
    · exact .inl e'
    · exact .inr ⟨_, e'⟩
theorem rowG_one (v : AV) : (rowG [v]).get 0 = v := by
  have := rowG_get [v] (j := 0) (by simp)
  simpa using this.symm
/-- a variable of one cell -/
theorem glob_cell {w : World} {g : Nat} {x : Value} {v : AV} (h : w.cell? ⟨g, 0, none⟩ = some x) (hv : VR (fzm fun _ => []) v x) :
    g < w.heap.size ∧ ∀ j, j < [v].length → ∃ y, w.cell? ⟨g, j, none⟩ = some y ∧ VR (fzm fun _ => []) ((rowG [v]).get j) y := by
  refine ⟨lt_of_cell h, fun j hj => ?_⟩
  have : j = 0 := by
    have : j < 1 := hj
    omega
  subst this
  exact ⟨x, h, by rw [rowG_one]; exact hv⟩
/-- what is asked of a world, variable for variable -/
theorem glob_intro {G : Nat} {l : List (Nat × List AV)} {w : World}
    (h : ∀ p ∈ l, p.1 < w.heap.size ∧ ∀ j, j < p.2.length → ∃ v, w.cell? ⟨p.1, j, none⟩ = some v ∧ VR (fzm fun _ => []) ((rowG p.2).get j) v) : GlobP (glHeap G l) w := fun i r e => by
  rcases glHeap_get G l i with e' | ⟨c, e1, e'⟩
  · rw [e'] at e; cases e
  · rw [e'] at e; cases e
    exact h _ e1
end Go.Px
end
