/- Parts of the proof in YthlbnmohaeeccaaFin: PxTj, PxTk, PxTl, PxTm, PxTn, PxTo, PxTp, PxTq, PxTr, FsA, FsB, FsD, FsH, FsE, FsI, FsF, FsG, FsJ, FsK, FsL, FsM, FsN, FsC, FsO, PxTs, FsJa, FsP, FsQ, FsR, FsT, FsV, FsW, FsZ, FsS. -/
import Derived.Test.YthlbnmohaeeccaaK3
import Derived.Lib.Bytealg
import Derived.Laws.Externs
import Derived.Test.YthlbnmohaeeccaaChecked
/- PxTj -/
section
set_option linter.unusedVariables false
set_option linter.unusedSimpArgs false
namespace Go.Px

/-- each slot once -/
def onceB : List (Nat × AV) → Bool
  | [] => true
  | (t, _) :: r => (match r.all fun p => !Nat.beq p.1 t with | true => onceB r | false => false)
theorem once_lk : ∀ {L : List (Nat × AV)}, onceB L = true → ∀ p ∈ L, lkO L p.1 = some p.2
  | [], _, p, h => by cases h
  | (t, v) :: r, h, p, hp => by
    simp only [onceB] at h
    split at h
    · rename_i hr
      rw [List.all_eq_true] at hr
      unfold lkO
      rcases List.mem_cons.1 hp with rfl | hp
      · simp only [Nat.beq_refl]
      · have := hr p hp
        rw [beqF (nb this)]
        exact once_lk h p hp
    · cases h
theorem lk_mem : ∀ {L : List (Nat × AV)} {t : Nat} {v : AV}, lkO L t = some v → (t, v) ∈ L
  | [], _, _, h => by cases h
  | (s, u) :: r, t, v, h => by
    unfold lkO at h
    split at h
    · rename_i hs; cases h; rw [beqT hs]; exact List.mem_cons_self
    · exact List.mem_cons_of_mem _ (lk_mem h)
/-- what a caller holds: its slots, its marks, its round -/
def rdA (rd : Option Nat) : List AV := match rd with | some l => [.ptr l 0] | none => []
def held (L : List (Nat × AV)) (m : List Nat) (rd : Option Nat) : List AV := L.map (·.2) ++ (m.map (fun d => AV.ptr d 0) ++ rdA rd)
theorem held_in {ρ : Map} {L : List (Nat × AV)} {m : List Nat} {rd ro : Option Nat} {e : T AV} {tm : Array Value} {sz : Nat} {D : List Deferred} (h1 : RoOk ρ rd ro) (er : ER ρ e tm sz) (he : Has e L) (ho : onceB L = true) (h4 : MR ρ m D) :
    ∃ gx, VRs ρ (held L m rd) gx ∧ ∀ σ, VRs σ (held L m rd) gx → RoOk σ rd ro ∧ MR σ m D ∧ ∀ t v, lkO L t = some v → VR σ v (tm.getD t undef) := by
  -- slots
  have s1 : VRs ρ (L.map (·.2)) (L.map fun p => tm.getD p.1 undef) := VRs.map _ _ L fun p hp => by
    have := er.2 p.1
    rwa [he p.1 p.2 (once_lk ho p hp)] at this
  have s2 : ∀ σ, VRs σ (L.map (·.2)) (L.map fun p => tm.getD p.1 undef) → ∀ t v, lkO L t = some v → VR σ v (tm.getD t undef) := fun σ q t v hl => by
    obtain ⟨i, hi⟩ := List.getElem?_of_mem (lk_mem hl)
    exact (VRs.iff.1 q).2 i v _ (by rw [List.getElem?_map, hi]; rfl) (by rw [List.getElem?_map, hi]; rfl)
  -- marks
  have m1 : ∃ mx, VRs ρ (m.map fun d => AV.ptr d 0) mx ∧ ∀ σ, VRs σ (m.map fun d => AV.ptr d 0) mx → MR σ m D := by
    clear s1 s2
    induction m generalizing D with
    | nil => exact ⟨[], by simp [VRs], fun σ _ => h4⟩
    | cons d m ih =>
      obtain ⟨B, N, r, q1, q2, rfl⟩ := h4
      obtain ⟨mx, i1, i2⟩ := ih q2
      refine ⟨.pointer (some ⟨B, 0, none⟩) :: mx, ?_, fun σ q => ?_⟩
      · simp only [List.map_cons, VRs, VR]; exact ⟨_, _, ⟨B, N, q1, rfl⟩, i1, rfl⟩
      · simp only [List.map_cons, VRs, VR] at q
        obtain ⟨x, y, ⟨B', N', q3, q4⟩, q5, q6⟩ := q
        cases q6
        cases q4
        exact ⟨B, N', r, q3, i2 σ q5, rfl⟩
  obtain ⟨mx, m2, m3⟩ := m1
  have r1 : ∃ rx, VRs ρ (rdA rd) rx ∧ ∀ σ, VRs σ (rdA rd) rx → RoOk σ rd ro := by
    cases rd with
    | none => exact ⟨[], by simp [rdA, VRs], fun σ _ => h1⟩
    | some l =>
      obtain ⟨B, N, q1, q2⟩ := h1
      refine ⟨[.pointer (some ⟨B, 0, none⟩)], by simp only [rdA, VRs, VR]; exact ⟨_, _, ⟨B, N, q1, rfl⟩, rfl, rfl⟩, fun σ q => ?_⟩
      simp only [rdA, VRs, VR] at q
      obtain ⟨x, y, ⟨B', N', q3, q4⟩, q5, q6⟩ := q
      cases q6
      cases q4
      exact ⟨B, N', q3, q2⟩
  obtain ⟨rx, r2, r3⟩ := r1
  refine ⟨(L.map fun p => tm.getD p.1 undef) ++ (mx ++ rx), s1.append (m2.append r2), fun σ q => ?_⟩
  have split : ∀ {a b : List AV} {A B : List Value}, a.length = A.length → VRs σ (a ++ b) (A ++ B) → VRs σ a A ∧ VRs σ b B := fun {a b A B} hl q => by
    obtain ⟨q1, q2⟩ := VRs.iff.1 q
    constructor
    · refine VRs.iff.2 ⟨hl, fun i x y hx hy => q2 i x y ?_ ?_⟩
      · rw [List.getElem?_append_left (List.getElem?_eq_some_iff.1 hx).1]; exact hx
      · rw [List.getElem?_append_left (List.getElem?_eq_some_iff.1 hy).1]; exact hy
    · refine VRs.iff.2 ⟨by simp only [List.length_append] at q1; omega, fun i x y hx hy => q2 (a.length + i) x y ?_ ?_⟩
      · rw [List.getElem?_append_right (by omega), show a.length + i - a.length = i by omega]; exact hx
      · rw [List.getElem?_append_right (by omega), show a.length + i - A.length = i by omega]; exact hy
  obtain ⟨q1, q2⟩ := split (by simp) q
  obtain ⟨q3, q4⟩ := split m2.length q2
  exact ⟨r3 σ q4, m3 σ q3, s2 σ q1⟩

theorem VRs.split {σ : Map} {a b : List AV} {A B : List Value} (hl : a.length = A.length) (q : VRs σ (a ++ b) (A ++ B)) : VRs σ a A ∧ VRs σ b B := by
  obtain ⟨q1, q2⟩ := VRs.iff.1 q
  constructor
  · refine VRs.iff.2 ⟨hl, fun i x y hx hy => q2 i x y ?_ ?_⟩
    · rw [List.getElem?_append_left (List.getElem?_eq_some_iff.1 hx).1]; exact hx
    · rw [List.getElem?_append_left (List.getElem?_eq_some_iff.1 hy).1]; exact hy
  · refine VRs.iff.2 ⟨by simp only [List.length_append] at q1; omega, fun i x y hx hy => q2 (a.length + i) x y ?_ ?_⟩
    · rw [List.getElem?_append_right (by omega), show a.length + i - a.length = i by omega]; exact hx
    · rw [List.getElem?_append_right (by omega), show a.length + i - A.length = i by omega]; exact hy
theorem PI.more {X : Cx} {ρ : Map} {h : Heap} {w : World} (p : PI X ρ h w) {gv : List AV} {gx : List Value} (q : VRs ρ gv gx) : PI ⟨X.c, X.w0, X.F0, gv ++ X.gv, gx ++ X.gx⟩ ρ h w :=
  { p with keep := q.append p.keep }
theorem PI.less {X : Cx} {ρ : Map} {h : Heap} {w : World} {gv : List AV} {gx : List Value} (p : PI ⟨X.c, X.w0, X.F0, gv ++ X.gv, gx ++ X.gx⟩ ρ h w) (hl : gv.length = gx.length) : PI X ρ h w ∧ VRs ρ gv gx :=
  ⟨{ p with keep := (VRs.split hl p.keep).2 }, (VRs.split hl p.keep).1⟩

/-- a callee has come to its end -/
def FinI (c : Ctx) (res : List ResultVar) (K : AV → Heap → Prop) : Post := fun x s => (x = .normal ∨ x = .ret) ∧ ∃ h' vs, leave s.h s.m = some h' ∧ resA c h' s.e res = some vs ∧ K (one vs) h'

section
variable {X : Cx} {tb : List (Nat × TE)} (E : Env X.c tb) {sz : Nat} {rd : Option Nat} {all : Array Oper} {o : Oper} {rest : List Oper} {k : List It} {L : List (Nat × AV)} {h : Heap} {m : List Nat} {Q : Post}
include E
/-- a body gone through for a caller that holds something -/
theorem callee {g : FuncId} {fn : Func} {body : Code} (hf : X.c.P.funcs[g]? = some fn) (hb : fn.body = some body) {args : List AV} (hlen : args.length ≤ fn.ntmps) {gv : List AV} {K : AV → Heap → Prop}
    (H : ∀ gx, Go ⟨X.c, X.w0, X.F0, gv ++ X.gv, gx ++ X.gx⟩ fn.ntmps none [.code body] (argsL args 0) h [] (FinI X.c fn.results.toList K))
    {ρ : Map} {w : World} (p : PI X ρ h w) {A : List Value} (hA : VRs ρ args A) {gx : List Value} (hg : VRs ρ gv gx) {R : Value → World → Prop} (hR : ∀ v h' z w' ρ', K v h' → PI X ρ' h' w' → VRs ρ' gv gx → VR ρ' v z → R z w') :
    (callFunc g A.toArray).run X.c.P w = .ok (.enter g A.toArray) w ∧ CallsIn Fence.wide 0 X.c.P g A.toArray w (EndR R) := by
  have hnm : fn.name ≠ "runtime.NumGoroutine" := by simpa using E.k.names g fn hf
  refine ⟨by simp [callFunc, hf, hnm, hb, Sem.run], callsIn_of_wp_marks hf hb trivial ?_⟩
  have hrun := (H gx).run (T.put und args (env0 und fn.ntmps) 0) (argsL_has args _ 0)
  have ht : Tri ⟨X.c, X.w0, X.F0, gv ++ X.gv, gx ++ X.gx⟩ fn.ntmps none body ⟨T.put und args (env0 und fn.ntmps) 0, h, []⟩ (FinI X.c fn.results.toList K) := hrun
  refine ht none ρ w _ _ rfl (p.more hg) (args_er hA hlen) rfl fun x s' a' w' ρ' ⟨hx, h', vs, q1, q2, q3⟩ g1 g2 g3 g4 => ?_
  have hfin : LeavesInM Fence.wide 0 X.c.P fn a'.tmps (EndR R) a'.defers .returning w' := by
    refine leave_ok g2.hr g2.wf g4 q1 fun w2 gg => ?_
    have g5 := g2.good gg (ArrKeep.leave q1)
    obtain ⟨z, z1, z2⟩ := results_ok E.k g5.hr g3 q2
    obtain ⟨g6, g7⟩ := g5.less hg.length
    exact ⟨z, z1, hR _ _ z w2 ρ' q3 g6 g7 z2⟩
  rcases hx with rfl | rfl
  · exact hfin
  · exact hfin

/-- A CALL OF A FUNCTION VALUE, in place. -/
theorem Ops.inl {d : Nat} {cl : Call} {f : Operand} {g : FuncId} {fn : Func} {body : Code} {first cap vs : List AV} (hd : o.dst = some d) (hs : Nat.ble (d + 1) sz = true) (hw : Want all L o true) (ho : o.op = .call cl) (hc : cl.callee = .value f) (hfv : evL L f = some (.fn (.func g) first cap))
    (hv : evsL L cl.args.toList = some vs) (hf : X.c.P.funcs[g]? = some fn) (hb : fn.body = some body) (hlen : Nat.ble (first ++ vs ++ cap).length fn.ntmps = true) (hon : onceB L = true)
    (H : ∀ gx, Go ⟨X.c, X.w0, X.F0, held L m rd ++ X.gv, gx ++ X.gx⟩ fn.ntmps none [.code body] (argsL (first ++ vs ++ cap) 0) h [] (FinI X.c fn.results.toList fun v h' => Ops X sz rd all rest k ((d, v) :: L) h' m Q)) : Ops X sz rd all (o :: rest) k L h m Q := ⟨fun e0 he => by
  refine TriOps.cons (hw e0 he) (K := fun s' => RunK X sz rd k Q .normal s') ?_
  intro ro ρ w a next Q' h1 p h3 h4 h5
  refine ⟨fun _ _ => trivial, ?_⟩
  rw [show (wideR ro).round = ro from rfl, Oper.semAt_eq ro a.eval o (by rw [ho]; intro d q; cases q)]
  have hfv' := ev_ok h3 f
  rw [he.ev hfv] at hfv'
  simp only [VR, FR] at hfv'
  obtain ⟨f', F, C, e1, e2, e3, e4⟩ := hfv'
  subst e1
  have hargs := evs_ok h3 cl.args.toList
  rw [he.evs hv] at hargs
  have hA := VRs.append (VRs.append e2 hargs) e3
  obtain ⟨gx, g1, g2⟩ := held_in h1 h3 he hon h4
  obtain ⟨q1, q2⟩ := callee E hf hb (bleT hlen) H p hA g1 (R := fun z w' => next (a.put o.dst z) w') (fun v h' z w' ρ' hK hp hgv hz => by
    obtain ⟨r1, r2, r3⟩ := g2 ρ' hgv
    obtain ⟨e', he', er'⟩ := known_env (σ := ρ') (L := L) (tm := a.tmps) (sz := sz) h3.1 r3
    exact h5 v ⟨e', h', m⟩ z w' ρ' ⟨e'.set und d v, by rw [hd]; exact setD_some hs, hK.run _ (he'.set d v)⟩ r1 hp er' r2 hz)
  have hrun : (execOp a.eval o).run X.c.P w = .ok (.enter g (F ++ cl.args.toList.map a.eval ++ C).toArray) w := by
    rw [← q1]
    simp only [execOp, ho, resolve, hc, e4, Deferred.ofValue, Sem.run_bind, Sem.run_pure, Result.andThen_ok, invoke]
    congr 2
    apply Array.ext'; simp
  rw [hrun]
  exact uponIn_of_next (R := fun z w' => next (a.put o.dst z) w') (nx := .enter g _) q2 fun z w' r => r⟩
omit E in
theorem Go.retI {X' : Cx} {sz' : Nat} {k' : List It} {L' : List (Nat × AV)} {c : Ctx} {res : List ResultVar} {vs : List AV} {K : AV → Heap → Prop} (hr : resL L' res = some vs) (n : K (one vs) h) : Go X' sz' none (.code .ret :: k') L' h [] (FinI c res K) :=
  Go.ret fun e he => ⟨.inr rfl, h, vs, rfl, resL_ok he hr, n⟩
omit E in
theorem Go.endI {X' : Cx} {sz' : Nat} {L' : List (Nat × AV)} {c : Ctx} {res : List ResultVar} {vs : List AV} {K : AV → Heap → Prop} (hr : resL L' res = some vs) (n : K (one vs) h) : Go X' sz' none [] L' h [] (FinI c res K) :=
  Go.nil fun e he => ⟨.inl rfl, h, vs, rfl, resL_ok he hr, n⟩
end
end Go.Px
end
/- PxTk -/
section
set_option linter.unusedVariables false
set_option linter.unusedSimpArgs false
namespace Go.Px

/-- an activation's slots, as far as they are known -/
noncomputable def envLs (L : List (Nat × AV)) (sz : Nat) : List AV := (List.range sz).map fun t => (lkO L t).getD .bad
theorem envLs_er {ρ : Map} {L : List (Nat × AV)} {e : T AV} {tm : Array Value} {sz : Nat} (er : ER ρ e tm sz) (he : Has e L) : ER ρ (T.put und (envLs L sz) .leaf 0) tm sz := by
  refine ⟨er.1, fun t => ?_⟩
  rw [get_put]
  simp only [Nat.zero_le, if_true, Nat.sub_zero, get_leaf]
  by_cases ht : t < sz
  · unfold envLs
    rw [List.getElem?_map, List.getElem?_range ht]
    simp only [Option.map_some, Option.getD_some]
    cases hl : lkO L t with
    | none => simp [VR]
    | some v =>
      have := er.2 t
      rw [he t v hl] at this
      exact this
  · rw [List.getElem?_eq_none (by simp [envLs]; omega)]
    have : tm.getD t undef = undef := by rw [Array.getD_eq_getD_getElem?, Array.getElem?_eq_none (by rw [er.1]; omega)]; rfl
    rw [this]; exact und_ok ρ
/-- the loop's block, laid -/
noncomputable def loopH (h : Heap) (L : List (Nat × AV)) (sz : Nat) (ps : List Tmp) (assign body : Code) : Heap :=
  (h.new (.dfr true)).new (.loop ⟨.ready, none, 0, T.put und (envLs L sz) .leaf 0, sz, ps, assign, body, h.nxt⟩)
/-- a parameter's slots, set -/
def setL : List Tmp → List AV → List (Nat × AV) → List (Nat × AV)
  | p :: ps, a :: avs, L => setL ps avs ((p, a) :: L)
  | _, _, L => L
theorem setPs_has : ∀ {ps : List Tmp} {avs : List AV} {e e' : T AV} {sz : Nat} {L : List (Nat × AV)}, setPs e ps avs sz = some e' → Has e L → Has e' (setL ps avs L)
  | [], [], e, e', sz, L, q, h => by
    have q' : some e = some e' := q
    cases q'; exact h
  | [], a :: avs, e, e', sz, L, q, h => by
    have q' : (none : Option (T AV)) = some e' := q
    cases q'
  | p :: ps, [], e, e', sz, L, q, h => by
    have q' : (none : Option (T AV)) = some e' := q
    cases q'
  | p :: ps, a :: avs, e, e', sz, L, q, h => by
    have q' : (match Nat.ble (p + 1) sz with | true => setPs (e.set und p a) ps avs sz | false => none) = some e' := q
    split at q'
    · exact setPs_has (L := (p, a) :: L) q' (h.set p a)
    · cases q'
theorem setPs_some : ∀ {ps : List Tmp} {avs : List AV} {sz : Nat} (e : T AV), Nat.beq ps.length avs.length = true → (ps.all fun p => Nat.ble (p + 1) sz) = true → ∃ e', setPs e ps avs sz = some e'
  | [], [], sz, e, _, _ => ⟨e, rfl⟩
  | [], a :: avs, sz, e, h, _ => by cases h
  | p :: ps, [], sz, e, h, _ => by cases h
  | p :: ps, a :: avs, sz, e, h, k => by
    simp only [List.all_cons, Bool.and_eq_true] at k
    obtain ⟨e', q⟩ := setPs_some (ps := ps) (avs := avs) (e.set und p a) h k.2
    refine ⟨e', ?_⟩
    show (match Nat.ble (p + 1) sz with | true => setPs (e.set und p a) ps avs sz | false => none) = some e'
    rw [k.1]; exact q

section
variable {X : Cx} {tb : List (Nat × TE)} (E : Env X.c tb) {sz : Nat} {all : Array Oper} {o : Oper} {rest : List Oper} {k : List It} {L : List (Nat × AV)} {h : Heap} {m : List Nat} {Q : Post}
include E

/-- behind the iterator's end -/
def AfterR (X : Cx) (sz : Nat) (rd : Option Nat) (k : List It) (L : List (Nat × AV)) (l : Nat) (m : List Nat) (Q : Post) (h : Heap) : Prop :=
  ∃ r, h.get l = .loop r ∧ r.state ≠ .busy ∧ ∀ e, Has e L → RunK X sz rd k Q (match r.pending with | none => .normal | some x => x) ⟨e, h.put l (.loop { r with state := .exhausted }), m⟩
/-- A RANGE OVER A FUNCTION. -/
theorem Go.range {f : Operand} {ps : Array Tmp} {assign body bodyG : Code} {g : FuncId} {fn : Func} {first cap : List AV} (hfv : evL L f = some (.fn (.func g) first cap)) (hf : X.c.P.funcs[g]? = some fn) (hb : fn.body = some bodyG)
    (hlen : Nat.ble (first ++ [AV.fn (.yield (h.nxt + 1)) [] []] ++ cap).length fn.ntmps = true) (hon : onceB L = true)
    (H : ∀ gx, Go ⟨X.c, X.w0, X.F0, (held L (h.nxt :: m) none ++ [AV.ptr (h.nxt + 1) 0]) ++ X.gv, gx ++ X.gx⟩ fn.ntmps none [.code bodyG] (argsL (first ++ [AV.fn (.yield (h.nxt + 1)) [] []] ++ cap) 0) (loopH h L sz ps.toList assign body) []
      (FinI X.c fn.results.toList fun _ h' => AfterR X sz none k L (h.nxt + 1) (h.nxt :: m) Q h')) : Go X sz none (.code (.rangeFunc f ps assign body) :: k) L h m Q := ⟨fun e0 he => by
  intro ro ρ w a Q' h1 p h3 h4 h5
  refine wpIn_rangeFunc fun fn' _ => ?_
  have hE := envLs_er h3 he
  have hel : enterLoop h 0 (T.put und (envLs L sz) .leaf 0) sz ps.toList assign body none = some (h.nxt + 1, [h.nxt], loopH h L sz ps.toList assign body) := rfl
  obtain ⟨B, N, mark, w1, ρ1, q1, g1, hl1, hm1⟩ := enterLoop_ok (c := X.c) (P := X.c.P) (fn' := fn') p.hr p.wf p.fr hE h1 hel
  have p1 : PI X ρ1 (loopH h L sz ps.toList assign body) w1 := p.good g1 ((ArrKeep.new rfl).trans (ArrKeep.new rfl))
  have hm2 : MR ρ1 (h.nxt :: m) (mark ++ a.defers) := MR.append (m := [h.nxt]) hm1 (h4.mono g1.sub)
  obtain ⟨gx, b1, b2⟩ := held_in (L := L) (h1.mono g1.sub) (h3.mono g1.sub) he hon hm2
  have b3 : VRs ρ1 (held L (h.nxt :: m) none ++ [AV.ptr (h.nxt + 1) 0]) (gx ++ [.pointer (some ⟨B, 0, none⟩)]) := b1.append (by simp only [VRs, VR]; exact ⟨_, _, ⟨B, N, hl1, rfl⟩, rfl, rfl⟩)
  have hfv' := VR.mono g1.sub _ (ev_ok h3 f)
  rw [he.ev hfv] at hfv'
  simp only [VR, FR] at hfv'
  obtain ⟨f', F, C, e1, e2, e3, e4⟩ := hfv'
  subst e1
  have hy : VRs ρ1 [AV.fn (.yield (h.nxt + 1)) [] []] [Value.func (.yield B) #[] #[]] := by
    simp only [VRs, VR, FR]
    exact ⟨_, _, ⟨_, [], [], ⟨B, N, hl1, rfl⟩, rfl, rfl, rfl⟩, rfl, rfl⟩
  have hA := VRs.append (VRs.append e2 hy) e3
  obtain ⟨c1, c2⟩ := callee E hf hb (bleT hlen) H p1 hA b3 (R := fun z w2 => ∃ ρ2 h2, AfterR X sz none k L (h.nxt + 1) (h.nxt :: m) Q h2 ∧ PI X ρ2 h2 w2 ∧ VRs ρ2 (held L (h.nxt :: m) none ++ [AV.ptr (h.nxt + 1) 0]) (gx ++ [.pointer (some ⟨B, 0, none⟩)])) (fun v h' z w' ρ' hK hp hgv hz => ⟨ρ', h', hK, hp, hgv⟩)
  have harr : (F.toArray ++ #[Value.func (.yield B) #[] #[]] ++ C.toArray) = (F ++ [Value.func (.yield B) #[] #[]] ++ C).toArray := by apply Array.ext'; simp
  refine ⟨B, mark, w1, { target := .fn (.func g) C.toArray, args := F.toArray ++ #[Value.func (.yield B) #[] #[]] }, w1, g, F.toArray ++ #[Value.func (.yield B) #[] #[]] ++ C.toArray, w1, q1, ?_, fun _ _ => trivial, ?_, fun q => by simp [wideR, Fence.wide] at q, ?_⟩
  · simp only [resolve, e4, Deferred.ofValue, Sem.run_pure]
    simp [Act.eval]
  · simp only [invoke]
    have hcf : (callFunc g (F.toArray ++ #[Value.func (.yield B) #[] #[]] ++ C.toArray)).run X.c.P w1 = .ok (.enter g (F ++ [Value.func (.yield B) #[] #[]] ++ C).toArray) w1 := by rw [harr]; exact c1
    rw [harr] at hcf ⊢
    exact hcf
  · rw [harr]
    refine CallsIn.mono (callsIn_ro c2) fun e w' r => ?_
    cases e with
    | panicked ch => exact r.elim
    | outgrown => exact r.elim
    | returned z =>
      obtain ⟨ρ2, h2, ⟨r, hg, hnb, hrun⟩, hp, hgv⟩ := r
      obtain ⟨v1, v2⟩ := VRs.split b1.length hgv
      simp only [VRs, VR] at v2
      obtain ⟨x, y, ⟨B', N', v3, v4⟩, _, v5⟩ := v2
      cases v5
      cases v4
      obtain ⟨r1, r2, r3⟩ := b2 ρ2 v1
      obtain ⟨fn0, tm, D, M, t1, t2, t3⟩ := ALoop.get hp.hr v3 hg
      have hlt := hp.hr.lt _ B N' v3
      have g3 := Good.putBlock hp.hr hp.wf v3 (.loop r) (.loop { r with state := .exhausted })
        (.loop { state := .exhausted, pending := pendOf r.pending, fn := fn0, tmps := tm, params := r.params.toArray, assign := r.assign, body := r.body, defers := D }) hg rfl (by simp) rfl
        (by simp only [ABR]; exact ⟨fn0, tm, D, M, World.putObj_heap_same hlt, t2, t3⟩)
      have hp3 := hp.good g3 (ArrKeep.put rfl)
      refine ⟨pendOf r.pending, _, run_endLoop t1 hnb, ?_⟩
      obtain ⟨e', he', er'⟩ := known_env (σ := ρ2) (L := L) (tm := a.tmps) (sz := sz) h3.1 r3
      have hrun' := hrun e' he'
      have fin := fun (x : Ex) (hx : (match r.pending with | none => Ex.normal | some x => x) = x) => h5 x ⟨e', h2.put (h.nxt + 1) (.loop { r with state := .exhausted }), h.nxt :: m⟩ { a with defers := mark ++ a.defers } _ ρ2 (hx ▸ hrun') r1 hp3 er' r2
      cases hpd : r.pending with
      | none =>
        have := fin .normal (by rw [hpd])
        simp only [hpd, pendOf] at this ⊢
        exact this
      | some x =>
        cases x with
        | normal =>
          have := fin .normal (by rw [hpd])
          simp only [hpd, pendOf, exCode] at this ⊢
          exact this
        | exit id =>
          have := fin (.exit id) (by rw [hpd])
          simp only [hpd, pendOf, exCode] at this ⊢
          exact wpIn_exit this
        | ret =>
          have := fin .ret (by rw [hpd])
          simp only [hpd, pendOf, exCode] at this ⊢
          exact wpIn_ret this⟩

/-- behind a round -/
def AfterB (X : Cx) (sz : Nat) (rd : Option Nat) (all : Array Oper) (rest : List Oper) (k : List It) (L : List (Nat × AV)) (d l : Nat) (m : List Nat) (Q : Post) : Post := fun x s =>
  ∃ r, s.h.get l = .loop r ∧ (match x with
    | .normal => Ops X sz rd all rest k ((d, .bool true) :: L) (s.h.put l (.loop { r with state := .ready, pending := none })) m Q
    | x => Ops X sz rd all rest k ((d, .bool false) :: L) (s.h.put l (.loop { r with state := .done, pending := some x })) m Q)
/-- behind the parameters' assigning -/
def AfterA (X : Cx) (sz l : Nat) (body : Code) (Q : Post) : Post := fun x s => x = .normal ∧ ∃ r, s.h.get l = .loop r ∧ r.state = .ready ∧ RunK X sz (some l) [.code body] Q .normal ⟨s.e, s.h.put l (.loop { r with state := .busy }), s.m⟩
omit E in
theorem Go.body {X' : Cx} {sz' l : Nat} {L' : List (Nat × AV)} {body : Code} {r : ALoop} (hl : h.get l = .loop r) (hs : r.state = .ready) (n : Go X' sz' (some l) [.code body] L' (h.put l (.loop { r with state := .busy })) m Q) : Go X' sz' (some l) [] L' h m (AfterA X' sz' l body Q) :=
  Go.nil fun e he => ⟨rfl, r, hl, hs, n.run e he⟩
omit E in
theorem Go.roundN {X' X : Cx} {sz' sz l d : Nat} {rd : Option Nat} {L' : List (Nat × AV)} {m' : List Nat} {r : ALoop} (hl : h.get l = .loop r) (n : Ops X sz rd all rest k ((d, .bool true) :: L) (h.put l (.loop { r with state := .ready, pending := none })) m Q) : Go X' sz' (some l) [] L' h m' (AfterB X sz rd all rest k L d l m Q) :=
  Go.nil fun e he => ⟨r, hl, n⟩
omit E in
theorem Go.roundX {X' X : Cx} {sz' sz l d id : Nat} {rd : Option Nat} {L' : List (Nat × AV)} {m' : List Nat} {r : ALoop} {k' : List It} (hx : xit id k' = none) (hl : h.get l = .loop r) (n : Ops X sz rd all rest k ((d, .bool false) :: L) (h.put l (.loop { r with state := .done, pending := some (.exit id) })) m Q) : Go X' sz' (some l) (.code (.exit id) :: k') L' h m' (AfterB X sz rd all rest k L d l m Q) := ⟨fun e he => Tri.exit (by
  have key : ∀ {k' : List It}, xit id k' = none → RunK X' sz' (some l) k' (AfterB X sz rd all rest k L d l m Q) (.exit id) ⟨e, h, m'⟩ := by
    intro k'
    induction k' with
    | nil => intro _; exact ⟨r, hl, n⟩
    | cons x k' ih =>
      intro q
      cases x with
      | code c => exact ih q
      | lp c => exact ih q
      | blk i =>
        unfold xit at q
        rw [show RunK X' sz' (some l) (.blk i :: k') (AfterB X sz rd all rest k L d l m Q) (.exit id) ⟨e, h, m'⟩ = (match Nat.beq id i with | true => RunK X' sz' (some l) k' (AfterB X sz rd all rest k L d l m Q) .normal ⟨e, h, m'⟩ | false => RunK X' sz' (some l) k' (AfterB X sz rd all rest k L d l m Q) (.exit id) ⟨e, h, m'⟩) from rfl]
        cases hi : Nat.beq id i with
        | true => rw [hi] at q; cases q
        | false => rw [hi] at q; exact ih q
  exact key hx)⟩
omit E in
theorem Go.roundR {X' X : Cx} {sz' sz l d : Nat} {rd : Option Nat} {L' : List (Nat × AV)} {m' : List Nat} {r : ALoop} {k' : List It} (hl : h.get l = .loop r) (n : Ops X sz rd all rest k ((d, .bool false) :: L) (h.put l (.loop { r with state := .done, pending := some .ret })) m Q) : Go X' sz' (some l) (.code .ret :: k') L' h m' (AfterB X sz rd all rest k L d l m Q) :=
  Go.ret fun e he => ⟨r, hl, n⟩

omit E in
/-- A ROUND: the iterator hands on what it has. -/
theorem Ops.round {rd : Option Nat} {d l : Nat} {cl : Call} {f : Operand} {vs lst : List AV} {r : ALoop} (hd : o.dst = some d) (hs : Nat.ble (d + 1) sz = true) (hw : Want all L o true) (ho : o.op = .call cl) (hc : cl.callee = .value f) (hfv : evL L f = some (.fn (.yield l) [] [])) (hv : evsL L cl.args.toList = some vs)
    (hl : h.get l = .loop r) (hrs : r.state = .ready) (hre : r.e = T.put und lst .leaf 0) (hps : Nat.beq r.params.length vs.length = true) (hps2 : (r.params.all fun p => Nat.ble (p + 1) r.sz) = true) (hon : onceB L = true)
    (H : ∀ gx, Go ⟨X.c, X.w0, X.F0, (held L m rd ++ [AV.ptr l 0]) ++ X.gv, gx ++ X.gx⟩ r.sz (some l) [.code r.assign] (setL r.params vs (argsL lst 0)) h [] (AfterA ⟨X.c, X.w0, X.F0, (held L m rd ++ [AV.ptr l 0]) ++ X.gv, gx ++ X.gx⟩ r.sz l r.body (AfterB X sz rd all rest k L d l m Q))) : Ops X sz rd all (o :: rest) k L h m Q := ⟨fun e0 he => by
  refine TriOps.cons (hw e0 he) (K := fun s' => RunK X sz rd k Q .normal s') ?_
  intro ro ρ w a next Q' h1 p h3 h4 h5
  refine ⟨fun _ _ => trivial, ?_⟩
  rw [show (wideR ro).round = ro from rfl, Oper.semAt_eq ro a.eval o (by rw [ho]; intro d q; cases q)]
  have hfv' := ev_ok h3 f
  rw [he.ev hfv] at hfv'
  simp only [VR, VRs, FR] at hfv'
  obtain ⟨f', F, C, ⟨B, N, hB, rfl⟩, rfl, rfl, e4⟩ := hfv'
  have hargs := evs_ok h3 cl.args.toList
  rw [he.evs hv] at hargs
  obtain ⟨gx0, b1, b2⟩ := held_in h1 h3 he hon h4
  have b3 : VRs ρ (held L m rd ++ [AV.ptr l 0]) (gx0 ++ [.pointer (some ⟨B, 0, none⟩)]) := b1.append (by simp only [VRs, VR]; exact ⟨_, _, ⟨B, N, hB, rfl⟩, rfl, rfl⟩)
  obtain ⟨fn0, tm, D, M, p1, p2, p3⟩ := ALoop.get p.hr hB hl
  obtain ⟨e, hpe⟩ := setPs_some (sz := r.sz) r.e hps hps2
  obtain ⟨hlen, her⟩ := setPs_ok hpe hargs p2
  have hhas : Has e (setL r.params vs (argsL lst 0)) := setPs_has hpe (by rw [hre]; exact argsL_has lst .leaf 0)
  have hy := run_yield (P := X.c.P) (args := (cl.args.toList.map a.eval).toArray) p1 (by simpa using hlen)
  have hrun : (execOp a.eval o).run X.c.P w = (Instr.yield B (cl.args.toList.map a.eval).toArray).run X.c.P w := by
    simp only [execOp, ho, resolve, hc, e4, Deferred.ofValue, Sem.run_bind, Sem.run_pure, Result.andThen_ok, invoke]
    congr 2
    apply Array.ext'; simp
  rw [hrun, hy]
  refine uponIn_of_next (R := fun z w' => next (a.put o.dst z) w') ?_ fun z w' r => r
  refine roundIn_of_wpIn trivial ?_
  have hz : (r.params.toArray.zip (cl.args.toList.map a.eval).toArray).foldl (fun tmps (p : Tmp × Value) => tmps.setIfInBounds p.1 p.2) tm = (r.params.zip (cl.args.toList.map a.eval)).foldl (fun tmps (p : Tmp × Value) => tmps.setIfInBounds p.1 p.2) tm := by
    simp
  have hA := (H (gx0 ++ [.pointer (some ⟨B, 0, none⟩)])).run e hhas
  have htA : Tri ⟨X.c, X.w0, X.F0, (held L m rd ++ [AV.ptr l 0]) ++ X.gv, (gx0 ++ [.pointer (some ⟨B, 0, none⟩)]) ++ X.gx⟩ r.sz (some l) r.assign ⟨e, h, []⟩ (AfterA ⟨X.c, X.w0, X.F0, (held L m rd ++ [AV.ptr l 0]) ++ X.gv, (gx0 ++ [.pointer (some ⟨B, 0, none⟩)]) ++ X.gx⟩ r.sz l r.body (AfterB X sz rd all rest k L d l m Q)) := hA
  refine htA (some B) ρ w _ _ ⟨B, N, hB, rfl⟩ (p.more b3) (by rw [hz]; exact her) rfl fun x s' a1 w1 ρ1 ⟨hx, r1, hg1, hst, hrunB⟩ g1 g2 g3 g4 => ?_
  subst hx
  obtain ⟨B1, N1, hB1, hB1'⟩ := g1
  cases hB1'
  obtain ⟨fn1, tm1, D1, M1, q1, q2, q3⟩ := ALoop.get g2.hr hB1 hg1
  have g5 := Good.putBlock g2.hr g2.wf hB1 (.loop r1) (.loop { r1 with state := .busy })
    (.loop { state := .busy, pending := pendOf r1.pending, fn := fn1, tmps := tm1, params := r1.params.toArray, assign := r1.assign, body := r1.body, defers := D1 }) hg1 rfl (by simp) rfl
    (by simp only [ABR]; exact ⟨fn1, tm1, D1, M1, World.putObj_heap_same (g2.hr.lt l _ N1 hB1), q2, q3⟩)
  have g6 := g2.good g5 (ArrKeep.put rfl)
  refine ⟨_, run_beginRound q1 hst, ?_⟩
  have htB : Tri ⟨X.c, X.w0, X.F0, (held L m rd ++ [AV.ptr l 0]) ++ X.gv, (gx0 ++ [.pointer (some ⟨B, 0, none⟩)]) ++ X.gx⟩ r.sz (some l) r.body ⟨s'.e, s'.h.put l (.loop { r1 with state := .busy }), s'.m⟩ (AfterB X sz rd all rest k L d l m Q) := hrunB
  refine htB (some B) ρ1 _ a1 _ ⟨B, N1, hB1, rfl⟩ g6 g3 g4 fun x s2 a2 w2 ρ2 ⟨r2, hg2, hK⟩ k1 k2 k3 k4 => ?_
  obtain ⟨B2, N2, hB2, hB2'⟩ := k1
  cases hB2'
  obtain ⟨fn2, tm2, D2, M2, t1, t2, t3⟩ := ALoop.get k2.hr hB2 hg2
  have hlt := k2.hr.lt l _ N2 hB2
  have g7 := fun (st : LoopState) (pd : Option Ex) => Good.putBlock k2.hr k2.wf hB2 (.loop r2) (.loop { r2 with state := st, pending := pd })
    (.loop { state := st, pending := pendOf pd, fn := fn2, tmps := tm2, params := r2.params.toArray, assign := r2.assign, body := r2.body, defers := D2 }) hg2 rfl (by simp) rfl
    (by simp only [ABR]; exact ⟨fn2, tm2, D2, M2, World.putObj_heap_same hlt, t2, t3⟩)
  have fin := fun (st : LoopState) (pd : Option Ex) (b : Bool) (hops : Ops X sz rd all rest k ((d, .bool b) :: L) (s2.h.put l (.loop { r2 with state := st, pending := pd })) m Q) => show next (a.put o.dst (.bool b)) (w2.putObj B (.loop { state := st, pending := pendOf pd, fn := fn2, tmps := tm2, params := r2.params.toArray, assign := r2.assign, body := r2.body, defers := D2 })) from by
    have k5 := k2.good (g7 st pd) (ArrKeep.put rfl)
    obtain ⟨k6, k7⟩ := k5.less b3.length
    obtain ⟨v1, v2⟩ := VRs.split b1.length k7
    obtain ⟨u1, u2, u3⟩ := b2 ρ2 v1
    obtain ⟨e', he', er'⟩ := known_env (σ := ρ2) (L := L) (tm := a.tmps) (sz := sz) h3.1 u3
    exact h5 (.bool b) ⟨e', _, m⟩ (.bool b) _ ρ2 ⟨e'.set und d (.bool b), by rw [hd]; exact setD_some hs, hops.run _ (he'.set d _)⟩ u1 k6 er' u2 (by simp only [VR])
  cases x with
  | normal => exact ⟨_, _, run_endRound none t1, fin .ready none true hK⟩
  | exit id => exact ⟨_, _, run_endRound (some (.exit id)) t1, fin .done (some (.exit id)) false hK⟩
  | ret => exact ⟨_, _, run_endRound (some .ret) t1, fin .done (some .ret) false hK⟩⟩
end
end Go.Px
end
/- PxTl -/
section
set_option linter.unusedVariables false
set_option linter.unusedSimpArgs false
namespace Go.Px

/-- one slot's value, said more weakly -/
theorem Chg.weak {X : Cx} {sz : Nat} {rd : Option Nat} {L : List (Nat × AV)} {h : Heap} {m : List Nat} (t : Nat) {u v : AV} (hl : lkO L t = some u) (H : ∀ ρ x, VR ρ u x → VR ρ v x) : Chg X sz rd L h ((t, v) :: L) h m := fun ro ρ w e a h1 p h3 he h4 =>
  ⟨ρ, e.set und t v, h1, p, ⟨h3.1, fun s => by
    rw [get_set]
    by_cases hst : s = t
    · subst hst
      rw [if_pos rfl]
      have := h3.2 s
      rw [he s _ hl] at this
      exact H ρ _ this
    · rw [if_neg hst]; exact h3.2 s⟩, he.set t v, h4⟩
theorem weak_nil (z : Nat) : ∀ ρ x, VR ρ .nilsl x → VR ρ (.rsl 0 z []) x := fun ρ x q => by
  simp only [VR] at q
  subst q
  simp [VR]
theorem weak_csl (id off z : Nat) : ∀ ρ x, VR ρ (.sl id off 0 (some 0) z) x → VR ρ .csl x := fun ρ x q => by
  simp only [VR] at q ⊢
  obtain ⟨B, N, C, _, rfl, _, h, _⟩ := q
  rw [h 0 rfl]
  exact .inr ⟨_, rfl⟩
theorem weak_csl0 (z : Nat) : ∀ ρ x, VR ρ .csl x → VR ρ (.rsl 0 z []) x := fun ρ x q => by
  simp only [VR] at q
  rcases q with rfl | ⟨a, rfl⟩ <;> simp [VR]

section
variable {X : Cx} {tb : List (Nat × TE)} (E : Env X.c tb) {sz : Nat} {rd : Option Nat} {all : Array Oper} {o : Oper} {rest : List Oper} {k : List It} {L : List (Nat × AV)} {h : Heap} {m : List Nat} {Q : Post}
include E
/-- new data, that nobody writes from now on; by an operation that would do the same with an empty memory -/
theorem Ops.dataB {d len z : Nat} {cap : Option Nat} {cs : List AV} {ty : TypeId} (hd : o.dst = some d) (hs : Nat.ble (d + 1) sz = true) (hw : Want all L o true) (hop : Hop X L (bare h.nxt) o (.sl h.nxt 0 len cap z) (newRow (bare h.nxt) ty cs.length .leaf cs)) (hlen : cs.length = len * z) (hdt : datsB cs = true)
    (nx : Ops X sz rd all rest k ((d, .rsl len z cs) :: L) h m Q) : Ops X sz rd all (o :: rest) k L h m Q := ⟨fun e0 he => by
  refine TriOps.cons (hw e0 he) (K := fun s' => RunK X sz rd k Q .normal s') ?_
  intro ro ρ w a next Q' h1 p h3 h4 h5
  refine ⟨fun _ _ => trivial, ?_⟩
  have hopA : opA X.c e0 (bare h.nxt) o.op = some (.v (.sl h.nxt 0 len cap z) ((bare h.nxt).new (.row ⟨ty, cs.length, .leaf, cs, none⟩))) := hop e0 he
  rw [show (wideR ro).round = ro from rfl, Oper.semAt_eq ro a.eval o (opA_defer hopA)]
  have hbr : HR ρ (bare h.nxt) w := bare_hr h.nxt p.hr.lt p.hr.fz
  obtain ⟨nx', w', ρ1, q1, q2, q3⟩ := opA_ok E.k hbr (bare_wf _) (fun i a b => p.fr.1 i a) h3 hopA
  have hblk : ∀ B, B < w.heap.size → w'.heap[B]? = w.heap[B]? := fun B hB => q2.frame B hB (fun i N _ => bare_no _ i)
  have hFo : ∀ B, B < w.heap.size → ρ1.F B = ρ.F B := fun B hB => q2.fold B hB (fun i N _ => bare_no _ i)
  have hgetn : ((bare h.nxt).new (.row ⟨ty, cs.length, .leaf, cs, none⟩)).get h.nxt = .row ⟨ty, cs.length, .leaf, cs, none⟩ := by
    have := Heap.get_new (bare h.nxt) h.nxt (.row ⟨ty, cs.length, .leaf, cs, none⟩)
    rw [this]; exact if_pos rfl
  have hokn : ((bare h.nxt).new (.row ⟨ty, cs.length, .leaf, cs, none⟩)).ok h.nxt := by
    unfold Heap.ok; rw [hgetn]; simp only []; rw [Heap.row_of hgetn]; rfl
  -- its value
  rcases q3 with ⟨S, rfl, q3⟩ | ⟨_, q3⟩
  · simp only [VR] at q3
    obtain ⟨B, N, C, e1, rfl, hC, _, _⟩ := q3
    have hro := q2.hr.ok h.nxt B N e1 hokn
    rw [hgetn] at hro
    have hro : RowOk ρ1 ⟨ty, cs.length, .leaf, cs, none⟩ B N w' := hro
    obtain ⟨L0, l1, l2, l3⟩ := RowOk.reads hro cs.length 0 (by simp)
    rw [read_whole ty cs cs.length rfl] at l1
    have hFB : ρ1.F B = [] := q2.hr.F_row e1 hokn (fun r => by rw [hgetn]; exact fun q => by cases q)
    have hBge : w.heap.size ≤ B := by
      rcases q2.newb h.nxt B N e1 (p.fr.1 _ (Nat.le_refl _)) with r | ⟨j, M, _, r⟩
      · exact r
      · exact absurd r (bare_no _ j)
    have g1 : ∀ b, b ≠ B → (fun b => if b = B then L0 else ρ1.F b) b = ρ1.F b := fun b q => if_neg q
    have g2 : (fun b => if b = B then L0 else ρ1.F b) B = L0 := if_pos rfl
    have f1 : ∀ (b j : Nat) (x : Value), (ρ1.F b)[j]? = some x → ((fun b => if b = B then L0 else ρ1.F b) b)[j]? = some x := fun b j x q => by
      by_cases hb : b = B
      · subst hb; rw [hFB] at q; simp at q
      · rw [g1 b hb]; exact q
    have f0 : ∀ (b j : Nat) (x : Value), (ρ.F b)[j]? = some x → ((fun b => if b = B then L0 else ρ1.F b) b)[j]? = some x := fun b j x q => f1 b j x (q2.sub.F b j x q)
    have f3 : FzW (fun b => if b = B then L0 else ρ1.F b) w' := fun b j x q => by
      by_cases hb : b = B
      · subst hb; rw [g2] at q
        have := l3 j x q; rwa [Nat.zero_add] at this
      · rw [g1 b hb] at q; exact q2.hr.fz b j x q
    have hsub : Sub ρ ⟨ρ.m, fun b => if b = B then L0 else ρ1.F b, ρ.V⟩ := ⟨fun _ _ e => e, f0, fun _ _ _ e => e⟩
    have hpi := p.frz ⟨q2.same, hblk⟩ f0 (fun b hb => (g1 b (by omega)).trans (hFo b hb)) f3
    rw [q1]
    refine h5 (.rsl len z cs) ⟨e0, h, m⟩ _ w' _ ⟨e0.set und d (.rsl len z cs), by rw [hd]; exact setD_some hs, nx.run _ (he.set d _)⟩ (h1.mono hsub) hpi (h3.mono hsub) (h4.mono hsub) ?_
    simp only [VR]
    refine ⟨hlen, .inr ⟨B, 0, C, L0, rfl, hC, ?_, fun j x q => ?_⟩⟩
    · exact VRs.mono (ρ := ρ1.d) (σ := (⟨ρ.m, fun b => if b = B then L0 else ρ1.F b, ρ.V⟩ : Map).d) ⟨(fun _ _ e => by cases e), f1, (fun _ _ _ e => by cases e)⟩ cs (dats_ok cs hdt l1)
    · show ((fun b => if b = B then L0 else ρ1.F b) B)[0 + j]? = some x
      rw [g2, Nat.zero_add]; exact q
  · simp only [VR] at q3
    obtain ⟨B, N, C, e1, e2, _⟩ := q3
    cases e2⟩

omit E in
theorem dats_flat {α : Type} {enc : α → List AV} (he : ∀ a, datsB (enc a) = true) : ∀ l : List α, datsB (l.flatMap enc) = true
  | [] => rfl
  | a :: l => by
    have happ : ∀ x y : List AV, datsB x = true → datsB y = true → datsB (x ++ y) = true := by
      intro x y hx hy
      induction x with
      | nil => exact hy
      | cons v x ih =>
        have hx' : (match datB v with | true => datsB x | false => false) = true := hx
        show (match datB v with | true => datsB (x ++ y) | false => false) = true
        split at hx'
        · exact ih hx'
        · cases hx'
    rw [List.flatMap_cons]
    exact happ _ _ (he a) (dats_flat he l)
/-- a text's bytes -/
def encU (c : UInt8) : List AV := [.int .u8 (c.toNat : Int)]
omit E in
theorem encU_map : ∀ b : List UInt8, ((b.map UInt8.toNat).map fun n => AV.int .u8 (.ofNat (n % 256))) = b.flatMap encU
  | [] => rfl
  | c :: b => by
    have h : c.toNat % 256 = c.toNat := Nat.mod_eq_of_lt c.toNat_lt
    rw [List.flatMap_cons, ← encU_map b]
    simp only [List.map_cons, encU, h]
    rfl
omit E in
theorem TOk.it {c : Ctx} {t : Nat} {e : TE} {kk : IntKind} (h : TOk c t e) (k : e.k = .int kk) : c.under t = some (.int kk) := by
  obtain ⟨d, h1, h2⟩ := h.kd
  rw [k] at h2
  cases d <;> simp only [tkOf] at h2 <;> first | (cases h2; done) | (cases h2; exact h1)
theorem Ops.bytes {d s t el : Nat} {x : Operand} {b : List UInt8} {es e ee : TE} (hd : o.dst = some d) (hs : Nat.ble (d + 1) sz = true) (hw : Want all L o true) (ho : o.op = .convert s t x) (hx : evL L x = some (sA b)) (hst : lkT tb s = some es) (hks : es.k = .str) (ht : lkT tb t = some e) (hk : e.k = .slice el) (hel : lkT tb el = some ee) (hkel : ee.k = .int .u8)
    (nx : Ops X sz rd all rest k ((d, dsl 1 encU b) :: L) h m Q) : Ops X sz rd all (o :: rest) k L h m Q :=
  Ops.dataB E hd hs hw (len := b.length) (z := 1) (cap := none) (cs := b.flatMap encU) (ty := el) (fun e' he => by
    have h1 := (E.t s es hst).st hks
    have h2 := (E.t t e ht).sl hk
    have h3 := (E.t el ee hel).it hkel
    rw [ho]; simp only [opA]; rw [he.ev hx]
    simp only [sA, oConvert, h1, h2, h3, valH]
    rw [encU_map, flat_len (z := 1) (fun _ => rfl), List.length_map, Nat.mul_one]
    rfl) (flat_len (z := 1) (enc := encU) (fun _ => rfl) b) (dats_flat (fun _ => rfl) b) nx
/-- data appended to nothing: a copy of one's own, that nobody writes -/
theorem Ops.clone {d : Nat} {cl : Call} {x y : Operand} {t t1 el q z : Nat} {xv : AV} {cs : List AV} {e e1 ee : TE} (hd : o.dst = some d) (hs : Nat.ble (d + 1) sz = true) (hw : Want all L o true) (ho : o.op = .call cl) (hc : cl.callee = .builtin .append) (ha : cl.args.toList = [x, y])
    (hts0 : nth1 cl.argTypes.toList 0 = some t) (hts1 : nth1 cl.argTypes.toList 1 = some t1) (hx : evL L x = some xv) (hxv : (match xv with | .csl => true | .nilsl => true | _ => false) = true) (hy : evL L y = some (.rsl q z cs)) (ht : lkT tb t = some e) (hk : e.k = .slice el) (hel : lkT tb el = some ee) (hz : Nat.beq ee.s z = true) (hz0 : Nat.beq z 0 = false) (hb : Nat.ble ee.b 1000 = true)
    (ht1 : lkT tb t1 = some e1) (hk1 : (match e1.k with | .slice _ => true | .str => true | _ => false) = true) (hzz : (match ee.z with | .bad => false | v => Nat.beq v.cells.length ee.s) = true) (hdt : datsB cs = true) (hlen : cs.length = q * z) (hq : q ≠ 0) (hsm : q ≤ 1000000)
    (nx : Ops X sz rd all rest k ((d, .rsl q z cs) :: L) h m Q) : Ops X sz rd all (o :: rest) k L h m Q :=
  Ops.dataB E hd hs hw (len := q) (z := z) (cap := none) (cs := cs) (ty := el) (fun e' he => by
    have hz := beqT hz
    obtain ⟨ie, i1, i2, i3⟩ := (E.t el ee hel).si
    have hnb : ee.z ≠ .bad := fun q => by rw [q] at hzz; cases hzz
    have hzl : ee.z.cells.length = ee.s := by
      cases hv : ee.z <;> rw [hv] at hzz <;> first | (cases hzz; done) | exact beqT hzz
    have hzc : X.c.zcells el = some ee.z.cells := by
      unfold Ctx.zcells
      rw [(E.t el ee hel).z]
      cases hv : ee.z <;> first | exact absurd hv hnb | rfl
    have hu := (E.t t e ht).sl hk
    obtain ⟨d1, u1, u2⟩ := (E.t t1 e1 ht1).kd
    have hu1 := u1
    have hni : ∀ kk, d1 ≠ .int kk := fun kk qq => by
      subst qq
      rw [← u2] at hk1
      cases hk1
    rw [nth1_eq] at hts0 hts1
    obtain ⟨q', rfl⟩ : ∃ q', q = q' + 1 := ⟨q - 1, by omega⟩
    have happ : oAppend X.c (bare h.nxt) t xv (.rsl (q' + 1) z cs) = some (.sl h.nxt 0 (q' + 1) none z, newRow (bare h.nxt) el cs.length .leaf cs) := by
      have hbz : Nat.beq ie.size ee.z.cells.length = true := by rw [i2, hzl]; exact Nat.beq_refl _
      have hb0 : Nat.beq ie.size 0 = false := by rw [i2, hz]; exact hz0
      have hbb : Nat.ble ie.bytes 1000 = true := by rw [i3]; exact hb
      have hcz : Nat.beq ie.size z = true := by rw [i2, hz]; exact Nat.beq_refl _
      have hsc : srcCells (bare h.nxt) (.rsl (q' + 1) z cs) ie.size = some cs := by
        unfold srcCells
        simp only [hcz]
      have hgn : growNew (bare h.nxt) el ie.size (q' + 1) cs = some (.sl h.nxt 0 (q' + 1) none z, newRow (bare h.nxt) el cs.length .leaf cs) := by
        unfold growNew
        rw [Nat.ble_eq_true_of_le hsm]
        simp only []
        rw [i2, hz, hlen]
        rfl
      unfold oAppend
      simp only [hu, i1, hzc, hbz, hb0, hbb, srcLen, hsc]
      unfold appCells
      cases xv <;> first | (cases hxv; done) | exact hgn
    rw [ho]; simp only [opA, oCall, hc]
    rw [ha]
    simp only [List.map_cons, List.map_nil, he.ev hx, he.ev hy, oBuiltin, nth_eq, hts0, hts1, hu1]
    cases d1 <;> first | exact absurd rfl (hni _) | (simp only [happ])) hlen hdt nx
end

/-- TWO TEXTS COMPARED, by what stands below the program. -/
theorem KOk.cmp {c : Ctx} {f : FuncId} {fn : Func} (hf : c.P.funcs[f]? = some fn) (h1 : (fn.name == "runtime.NumGoroutine") = false) (hb : fn.body.isNone = true) (hn : Extern.findNext fn = none) (he : Extern.find fn = some Extern.BytealgCompare.compare) (a b : List UInt8) : KOk c f [sA a, sA b] (.int .i64 (Lib.compareBytes a b)) := fun F w A hF hA => by
  simp only [sA, VRs, VR] at hA
  obtain ⟨_, _, rfl, ⟨_, _, rfl, rfl, rfl⟩, rfl⟩ := hA
  have hbs : ∀ l : List UInt8, (bs (l.map UInt8.toNat)).data.toList = l := fun l => by
    simp only [bs]
    rw [List.map_map]
    have : (UInt8.ofNat ∘ UInt8.toNat) = id := by funext x; simp
    rw [this, List.map_id]
  refine ⟨_, w, by rw [run_callFunc_extern hf h1 hb hn he, Lib.run_compareString, hbs, hbs]; rfl, ?_⟩
  exact ⟨ExtW.refl w, F, fun _ _ _ e => e, fun _ _ => rfl, hF, by simp only [VR]⟩
end Go.Px
end
/- PxTm -/
section
set_option linter.unusedVariables false
set_option linter.unusedSimpArgs false
namespace Go.Px

/-- the same memory -/
theorem PI.same {X : Cx} {ρ : Map} {h h' : Heap} {w : World} (p : PI X ρ h w) (hg : ∀ i, h'.get i = h.get i) (hn : h'.nxt = h.nxt) (ht : ∀ q, h'.tip q = h.tip q) : PI X ρ h' w := by
  have ho : ∀ j, h'.ok j ↔ h.ok j := fun j => Heap.ok_same (hg j) (fun _ q _ _ => by rw [ht q])
  refine ⟨⟨p.hr.lt, fun i B N e q => by rw [hg i]; exact p.hr.ok i B N e ((ho i).1 q), fun i j B N M hij e1 e2 k1 k2 => ?_, fun i r q => p.hr.gl i r (by rw [← hg i]; exact q), p.hr.fz, fun i B N e q => by rw [hg i]; exact p.hr.sep i B N e ((ho i).1 q), fun i t z n l q => p.hr.av i t z n l (by rw [← hg i]; exact q)⟩,
    ⟨fun i hi => by rw [hg i]; exact p.wf.fresh i (by omega), fun i r q a b => by rw [hn]; exact p.wf.root i r q (by rw [← hg i]; exact a) b, fun i r q t a b c => by rw [hg t]; exact p.wf.tip i r q t (by rw [← hg i]; exact a) b (by rw [← ht q]; exact c), fun q hq => by rw [ht q]; exact p.wf.tipr q (by omega)⟩,
    ⟨fun i hi => p.fr.1 i (by omega), fun i r q => by rw [hg i]; exact p.fr.2 i r q⟩, fun i hi n => p.vf i (by omega) n, fun i t z n l q => p.vu i t z n l (by rw [← hg i]; exact q), p.ext, p.mine, p.sub, p.old, p.keep⟩
  obtain ⟨r, s, q, a, b, c⟩ := p.hr.inj i j B N M hij e1 e2 ((ho i).1 k1) ((ho j).1 k2)
  exact ⟨r, s, q, by rw [hg i]; exact a, by rw [hg j]; exact b, c⟩

section
variable {X : Cx} {tb : List (Nat × TE)} (E : Env X.c tb) {sz : Nat} {rd : Option Nat} {all : Array Oper} {o : Oper} {rest : List Oper} {k : List It} {L : List (Nat × AV)} {h : Heap} {m : List Nat} {Q : Post}
include E
/-- NOTHING APPENDED to an array of one's own -/
theorem Ops.append0 {d : Nat} {cl : Call} {x y : Operand} {t t1 el id n z q : Nat} {l cs : List AV} {e e1 ee : TE} (hd : o.dst = some d) (hs : Nat.ble (d + 1) sz = true) (hw : Want all L o true) (ho : o.op = .call cl) (hc : cl.callee = .builtin .append) (ha : cl.args.toList = [x, y])
    (hts0 : nth1 cl.argTypes.toList 0 = some t) (hts1 : nth1 cl.argTypes.toList 1 = some t1) (hx : evL L x = some (.own id n z)) (hy : evL L y = some (.rsl q z cs)) (ht : lkT tb t = some e) (hk : e.k = .slice el) (hel : lkT tb el = some ee) (hz : Nat.beq ee.s z = true) 
    (ht1 : lkT tb t1 = some e1) (hk1 : (match e1.k with | .slice _ => true | .str => true | _ => false) = true) (hg : h.get id = .arr el z n l)
    (hq : q = 0) (nx : Ops X sz rd all rest k ((d, .own id (n + q) z) :: L) (h.put id (.arr el z (n + q) (l ++ cs))) m Q) : Ops X sz rd all (o :: rest) k L h m Q := ⟨fun e0 he => by
  refine TriOps.cons (hw e0 he) (K := fun s' => RunK X sz rd k Q .normal s') ?_
  intro ro ρ w a next Q' h1 p h3 h4 h5
  refine ⟨fun _ _ => trivial, ?_⟩
  rw [show (wideR ro).round = ro from rfl, Oper.semAt_eq ro a.eval o (by rw [ho]; intro d q; cases q)]
  have hz := beqT hz
  have hS : VR ρ (.own id n z) (a.eval x) := by rw [← he.ev hx]; exact ev_ok h3 x
  have hY : VR ρ (.rsl q z cs) (a.eval y) := by rw [← he.ev hy]; exact ev_ok h3 y
  subst hq
  have hcs : cs = [] := by
    simp only [VR] at hY
    exact List.length_eq_zero_iff.1 (by rw [hY.1]; omega)
  subst hcs
  obtain ⟨ie, i1, i2, i3⟩ := (E.t el ee hel).si
  have hsz : ie.size = z := i2.trans hz
  obtain ⟨s1, news, s2, s3, s4⟩ := src_ok (P := X.c.P) (h := h) (z := z) (m := 0) (cs := []) p.hr hY rfl (by simp [srcCells])
  have hnn : news = [] := List.length_eq_zero_iff.1 (by rw [s3]; omega)
  subst hnn
  have hu := under_eq E.k ((E.t t e ht).sl hk)
  obtain ⟨d1, u1, u2⟩ := (E.t t1 e1 ht1).kd
  have hu1 := under_eq E.k u1
  have hni : ∀ kk, d1 ≠ .int kk := fun kk qq => by
    subst qq
    rw [← u2] at hk1
    cases hk1
  rw [nth1_eq] at hts0 hts1
  have hS' := hS
  simp only [VR] at hS'
  have key : (Builtin.append_ cl.argTypes o.type #[a.eval x, a.eval y]).run X.c.P w = .ok (a.eval x) w := by
    have hf : (Builtin.firstCells ie.size 0 (a.eval y)).run X.c.P w = .ok ([] : List Value).toArray w := by
      have := s4 w rfl 0 (Nat.le_refl _)
      rw [hsz]; simpa using this
    obtain ⟨hv, ⟨hn0, he0⟩ | ⟨B, C, he0, hC⟩⟩ := hS'
    · rw [he0]
      have := append_room (P := X.c.P) w cl.argTypes o.type t t1 el d1 ie (by simpa using hts0) (by simpa using hts1) hu1 hni hu (E.k.tys _ _ i1) none 0 0 0 (a.eval y) [] [] (s1 w) hf (Nat.le_refl _) (w' := w) rfl
      simpa using this
    · rw [he0]
      have := append_room (P := X.c.P) w cl.argTypes o.type t t1 el d1 ie (by simpa using hts0) (by simpa using hts1) hu1 hni hu (E.k.tys _ _ i1) (some ⟨B, 0, none⟩) n C 0 (a.eval y) [] [] (s1 w) hf (by omega) (w' := w) (by simp [storeCells])
      simpa using this
  have hrun : (execOp a.eval o).run X.c.P w = .ok (.value (a.eval x)) w := by
    obtain ⟨CS, hCS⟩ : ∃ CS, (execOp a.eval o).run X.c.P w = (builtin .append cl.argTypes o.type CS (cl.args.map a.eval)).run X.c.P w :=
      ⟨_, by simp only [execOp, ho, resolve, hc, Sem.run_bind, Sem.run_pure, Result.andThen_ok, invoke]; rfl⟩
    have hargs : cl.args.map a.eval = #[a.eval x, a.eval y] := by apply Array.ext'; simp [ha]
    rw [hCS, hargs]
    simp [builtin, key]
  rw [hrun]
  rw [List.append_nil, Nat.add_zero] at nx
  have hpi : PI X ρ (h.put id (.arr el z n l)) w := p.same (fun i => by
    rw [Heap.get_put]
    by_cases hi : i = id
    · subst hi; rw [if_pos rfl, hg]
    · rw [if_neg hi]) rfl (fun q => rfl)
  exact h5 (.own id n z) ⟨e0, h.put id (.arr el z n l), m⟩ (a.eval x) w ρ ⟨e0.set und d (.own id n z), by rw [hd]; exact setD_some hs, nx.run _ (he.set d _)⟩ h1 hpi h3 h4 hS⟩

/-- APPENDED, be it nothing -/
theorem Ops.appendE {d : Nat} {cl : Call} {x y : Operand} {t t1 el id n z q : Nat} {l cs : List AV} {e e1 ee : TE} (hd : o.dst = some d) (hs : Nat.ble (d + 1) sz = true) (hw : Want all L o true) (ho : o.op = .call cl) (hc : cl.callee = .builtin .append) (ha : cl.args.toList = [x, y])
    (hts0 : nth1 cl.argTypes.toList 0 = some t) (hts1 : nth1 cl.argTypes.toList 1 = some t1) (hx : evL L x = some (.own id n z)) (hy : evL L y = some (.rsl q z cs)) (ht : lkT tb t = some e) (hk : e.k = .slice el) (hel : lkT tb el = some ee) (hz : Nat.beq ee.s z = true) (hz0 : Nat.beq z 0 = false) (hb : Nat.ble ee.b 1000 = true)
    (ht1 : lkT tb t1 = some e1) (hk1 : (match e1.k with | .slice _ => true | .str => true | _ => false) = true) (hg : h.get id = .arr el z n l) (hi : HInd id h) (hL : indL id L = true) (hm : (m.all fun i => !Nat.beq i id) = true) (hrd : rdNot id rd = true) (hG : indsB id X.gv = true)
    (hzz : (match ee.z with | .bad => false | v => Nat.beq v.cells.length ee.s) = true) (hones : ones cs = true) (hsm : n + q ≤ 1000000) (nx : Ops X sz rd all rest k ((d, .own id (n + q) z) :: L) (h.put id (.arr el z (n + q) (l ++ cs))) m Q) : Ops X sz rd all (o :: rest) k L h m Q := by
  by_cases hq : q = 0
  · exact Ops.append0 E hd hs hw ho hc ha hts0 hts1 hx hy ht hk hel hz ht1 hk1 hg hq nx
  · exact Ops.append E hd hs hw ho hc ha hts0 hts1 hx hy ht hk hel hz hz0 hb ht1 hk1 hg hi hL hm hrd hG hzz hones hq hsm nx
end

/-- no slot but t holds it -/
def indLx (k t : Nat) : List (Nat × AV) → Bool
  | [] => true
  | (s, v) :: r => (match (match Nat.beq s t with | true => true | false => indB k v) with | true => indLx k t r | false => false)
theorem indLx_at {k t : Nat} : ∀ {L : List (Nat × AV)}, indLx k t L = true → ∀ s v, s ≠ t → lkO L s = some v → indB k v = true
  | (s', u) :: r, h, s, v, hs, q => by
    have h' : (match (match Nat.beq s' t with | true => true | false => indB k u) with | true => indLx k t r | false => false) = true := h
    split at h'
    · rename_i h1
      unfold lkO at q
      split at q
      · rename_i h2
        cases q
        have h2 := beqT h2
        subst h2
        rw [beqF hs] at h1
        exact h1
      · exact indLx_at h' s v hs q
    · cases h'
/-- A NEW ROW, that nobody writes from now on -/
theorem Chg.frzR {X : Cx} {sz : Nat} {rd : Option Nat} {L : List (Nat × AV)} {h : Heap} {m : List Nat} (t : Nat) {id n z : Nat} {cap : Option Nat} {ty : TypeId} {cs : List AV} (hl : lkO L t = some (.sl id 0 n cap z)) (hg0 : h.get id = .row ⟨ty, cs.length, .leaf, cs, none⟩) (hlen : cs.length = n * z) (hdt : datsB cs = true) (hi : HInd id h) (hL : indLx id t L = true)
    (hm : (m.all fun i => !Nat.beq i id) = true) (hrd : rdNot id rd = true) (hG : indsB id X.gv = true := by rfl) : Chg X sz rd L h ((t, .rsl n z cs) :: L) (h.put id .none) m := fun ro ρ w e a h1 p h3 he h4 => by
  have hok0 : h.ok id := by unfold Heap.ok; rw [hg0]; simp only []; rw [Heap.row_of hg0]; rfl
  have key : ∃ (F : Nat → List Value), (∀ (b j : Nat) (x : Value), (ρ.F b)[j]? = some x → (F b)[j]? = some x) ∧ (∀ b, (∀ M, ρ id ≠ some (b, M)) → F b = ρ.F b) ∧ FzW F w ∧ ∀ S, VR ρ (.sl id 0 n cap z) S → VR ⟨fun _ => none, F, fun _ _ => none⟩ (.rsl n z cs) S := by
    have hv := h3.2 t
    rw [he t _ hl] at hv
    simp only [VR] at hv
    obtain ⟨B, N, C, e1, e2, e3, _, _⟩ := hv
    have hro := p.hr.ok id B N e1 hok0
    rw [hg0] at hro
    have hro : RowOk ρ ⟨ty, cs.length, .leaf, cs, none⟩ B N w := hro
    obtain ⟨L0, l1, l2, l3⟩ := RowOk.reads hro cs.length 0 (by simp)
    rw [read_whole ty cs cs.length rfl] at l1
    have hFB : ρ.F B = [] := p.hr.F_row e1 hok0 (fun r => by rw [hg0]; exact fun q => by cases q)
    have g1 : ∀ b, b ≠ B → (fun b => if b = B then L0 else ρ.F b) b = ρ.F b := fun b q => if_neg q
    have g2 : (fun b => if b = B then L0 else ρ.F b) B = L0 := if_pos rfl
    have f1 : ∀ (b j : Nat) (x : Value), (ρ.F b)[j]? = some x → ((fun b => if b = B then L0 else ρ.F b) b)[j]? = some x := fun b j x q => by
      by_cases hb : b = B
      · subst hb; rw [hFB] at q; simp at q
      · rw [g1 b hb]; exact q
    refine ⟨fun b => if b = B then L0 else ρ.F b, f1, fun b q => g1 b (fun e => q N (e ▸ e1)), fun b j x q => ?_, fun S hS => ?_⟩
    · by_cases hb : b = B
      · subst hb; rw [g2] at q
        have := l3 j x q; rwa [Nat.zero_add] at this
      · rw [g1 b hb] at q; exact p.hr.fz b j x q
    · simp only [VR] at hS
      obtain ⟨B', N', C', e1', rfl, hC', _, _⟩ := hS
      rw [e1] at e1'
      cases e1'
      simp only [VR]
      refine ⟨hlen, .inr ⟨B, 0, C', L0, rfl, hC', ?_, fun j x q => ?_⟩⟩
      · exact VRs.mono (ρ := ρ.d) (σ := (⟨fun _ => none, fun b => if b = B then L0 else ρ.F b, fun _ _ => none⟩ : Map).d) ⟨(fun _ _ e => by cases e), f1, (fun _ _ _ e => by cases e)⟩ cs (dats_ok cs hdt l1)
      · show ((fun b => if b = B then L0 else ρ.F b) B)[0 + j]? = some x
        rw [g2, Nat.zero_add]; exact q
  obtain ⟨F, f1, f2, f3, f4⟩ := key
  let ρ' : Map := ⟨fun i => if i = id then none else ρ i, F, ρ.V⟩
  have m1 : ρ' id = none := if_pos rfl
  have m2 : ∀ i, i ≠ id → ρ' i = ρ i := fun i q => if_neg q
  have sx : SubX id ρ ρ' := ⟨fun i p' q e => by rw [m2 i q]; exact e, f1, fun _ _ _ e => e⟩
  have hg : ∀ j, j ≠ id → (h.put id .none).get j = h.get j := fun j q => by rw [Heap.get_put, if_neg q]
  have hn : (h.put id .none).get id = .none := by rw [Heap.get_put, if_pos rfl]
  have ho : ∀ j, j ≠ id → ((h.put id .none).ok j ↔ h.ok j) := fun j q => Heap.ok_same (hg j q) (fun _ _ _ _ => rfl)
  have hne : ∀ i B N, ρ' i = some (B, N) → i ≠ id ∧ ρ i = some (B, N) := fun i B N e => by
    by_cases q : i = id
    · subst q; rw [m1] at e; cases e
    · rw [m2 i q] at e; exact ⟨q, e⟩
  have hpi : PI X ρ' (h.put id .none) w := by
    refine ⟨⟨fun i B N e => p.hr.lt i B N (hne i B N e).2, fun i B N e q => ?_, fun i j B N M hij e1 e2 k1 k2 => ?_, fun i r q => ?_, f3, fun i B N e q => ?_, fun i t' z' n' l' q => ?_⟩, ⟨fun i hi' => ?_, fun i r q a b => ?_, fun i r q t' a b c => ?_, p.wf.tipr⟩, ⟨fun i hi => ?_, fun i r q => ?_⟩, p.vf, fun i t' z' n' l' q m' hm' => ?_, p.ext, fun i B N e => p.mine i B N (hne i B N e).2, fun b j x e => f1 b j x (p.sub b j x e), fun b hb => ?_, inds_ok sx _ hG p.keep⟩
    · obtain ⟨hi', e'⟩ := hne i B N e
      rw [hg i hi']; exact (p.hr.ok i B N e' ((ho i hi').1 q)).ind sx (hi.at_ p.wf hi')
    · obtain ⟨hi', e1'⟩ := hne i B N e1
      obtain ⟨hj', e2'⟩ := hne j B M e2
      obtain ⟨r, s, q, a, b, c⟩ := p.hr.inj i j B N M hij e1' e2' ((ho i hi').1 k1) ((ho j hj').1 k2)
      exact ⟨r, s, q, by rw [hg i hi']; exact a, by rw [hg j hj']; exact b, c⟩
    · by_cases hi' : i = id
      · subst hi'; rw [hn] at q; cases q
      · rw [hg i hi'] at q
        obtain ⟨N, hN⟩ := p.hr.gl i r q
        exact ⟨N, by rw [m2 i hi']; exact hN⟩
    · obtain ⟨hi', e'⟩ := hne i B N e
      rw [hg i hi']
      have q' := (ho i hi').1 q
      show F B = [] ∨ _
      rw [f2 B (fun M ee => ?_)]
      · exact p.hr.sep i B N e' q'
      · obtain ⟨r, s, q'', x, y, z', _⟩ := p.hr.inj id i B M N (Ne.symm hi') ee e' hok0 q'
        rw [hg0] at x; cases x; cases z'
    · by_cases hi' : i = id
      · subst hi'; rw [hn] at q; cases q
      · rw [hg i hi'] at q
        obtain ⟨a1, ⟨a, b⟩ | ⟨a, B2, N2, C2, e1, e2⟩⟩ := p.hr.av i t' z' n' l' q
        · exact ⟨a1, .inl ⟨a, b⟩⟩
        · exact ⟨a1, .inr ⟨a, B2, N2, C2, by rw [m2 i hi']; exact e1, e2⟩⟩
    · have hi2 : h.nxt ≤ i := hi'
      by_cases hii : i = id
      · subst hii; exact hn
      · rw [hg i hii]; exact p.wf.fresh i hi2
    · by_cases hii : i = id
      · subst hii; rw [hn] at a; cases a
      · rw [hg i hii] at a; exact p.wf.root i r q a b
    · by_cases hii : i = id
      · subst hii; rw [hn] at a; cases a
      · rw [hg i hii] at a
        obtain ⟨s, x, y, z'⟩ := p.wf.tip i r q t' a b c
        exact ⟨s, by rw [hg t' (fun e => by subst e; rw [hg0] at x; cases x; cases y)]; exact x, y, z'⟩
    · by_cases hi' : i = id
      · subst hi'; exact m1
      · rw [m2 i hi']; exact p.fr.1 i hi
    · have := p.fr.2 i r q
      rw [hg i (fun k => by subst k; rw [hg0] at this; cases this)]; exact this
    · by_cases hi' : i = id
      · subst hi'; rw [hn] at q; cases q
      · rw [hg i hi'] at q; exact p.vu i t' z' n' l' q m' hm'
    · show F b = _
      rw [f2 b (fun M ee => by have := p.mine id b M ee; omega)]; exact p.old b hb
  obtain ⟨e', he', er'⟩ := known_env (σ := ρ') (L := (t, .rsl n z cs) :: L) (tm := a.tmps) (sz := sz) h3.1 (fun s v q => by
    unfold lkO at q
    split at q
    · rename_i hs
      have hs := beqT hs
      cases q
      subst hs
      have := h3.2 s
      rw [he s _ hl] at this
      exact VR.mono (ρ := ⟨fun _ => none, F, fun _ _ => none⟩) ⟨(fun _ _ e => by cases e), fun _ _ _ e => e, (fun _ _ _ e => by cases e)⟩ _ (f4 _ this)
    · rename_i hs
      have := h3.2 s
      rw [he s _ q] at this
      exact ind_ok sx v (indLx_at hL s v (beqN hs) q) this)
  refine ⟨ρ', e', ?_, hpi, er', he', ?_⟩
  · cases rd with
    | none => exact h1
    | some r =>
      obtain ⟨B, N, q1, q2⟩ := h1
      exact ⟨B, N, by rw [m2 r (nb (show (!Nat.beq r id) = true from hrd))]; exact q1, q2⟩
  · have hmr : ∀ {m : List Nat} {D : List Deferred}, (m.all fun i => !Nat.beq i id) = true → MR ρ m D → MR ρ' m D := by
      intro m
      induction m with
      | nil => intro D _ q; exact q
      | cons d m ih =>
        intro D hh q
        simp only [List.all_cons, Bool.and_eq_true] at hh
        obtain ⟨B, N, r, q1, q2, q3⟩ := q
        exact ⟨B, N, r, by rw [m2 d (nb hh.1)]; exact q1, ih hh.2 q2, q3⟩
    exact hmr hm h4

/-! ## places in one's own arrays -/
theorem flat_get {α : Type} {z : Nat} {enc : α → List AV} (he : ∀ a, (enc a).length = z) (d : α) {l : List α} {i f : Nat} (hi : i < l.length) (hf : f < z) : (l.flatMap enc)[i * z + f]? = (enc (l.getD i d))[f]? := by
  rw [← flat_at he d l i hi, List.getElem?_take, if_pos hf, List.getElem?_drop]
theorem flat_split {α : Type} {z : Nat} {enc : α → List AV} (he : ∀ a, (enc a).length = z) : ∀ {l : List α} {i f : Nat} {b : α} {v : AV}, i < l.length → f < z → enc b = (enc (l.getD i b)).set f v → (l.flatMap enc).set (i * z + f) v = (l.set i b).flatMap enc
  | [], i, f, b, v, hi, _, _ => by simp at hi
  | a :: l, 0, f, b, v, hi, hf, hb => by
    simp only [List.flatMap_cons, Nat.zero_mul, Nat.zero_add, List.set_cons_zero]
    rw [List.set_append_left _ _ (by rw [he]; exact hf)]
    rw [hb]; rfl
  | a :: l, i + 1, f, b, v, hi, hf, hb => by
    simp only [List.flatMap_cons, List.set_cons_succ]
    rw [show (i + 1) * z + f = (enc a).length + (i * z + f) by rw [he, Nat.succ_mul]; omega, List.set_append_right _ _ (Nat.le_add_right _ _), Nat.add_sub_cancel_left]
    rw [flat_split he (l := l) (i := i) (f := f) (b := b) (v := v) (by simpa using hi) hf (by simpa using hb)]
theorem set_cut (l : List AV) (i : Nat) (v : AV) (hi : i < l.length) : l.take i ++ [v] ++ l.drop (i + 1) = l.set i v := by
  rw [List.set_eq_take_append_cons_drop, if_pos hi, List.append_assoc]; rfl

section
variable {X : Cx} {tb : List (Nat × TE)} (E : Env X.c tb) {L : List (Nat × AV)} {h : Heap} {o : Oper}
include E
/-- what stands in an array of one's own -/
theorem Hop.ldF {α : Type} [Inhabited α] {t : Nat} {x : Operand} {id n i f off ty z : Nat} {enc : α → List AV} {l : List α} {v : AV} {e : TE} (ho : o.op = .load t x) (hx : evL L x = some (.optr id n off)) (hoff : off = i * z + f) (ht : lkT tb t = some e) (ha : e.k.isAgg = false) (hg : h.get id = .arr ty z n (l.flatMap enc)) (henc : ∀ a, (enc a).length = z) (hf : Nat.ble (f + 1) z = true) (hv : nth1 (enc (l.getD i default)) f = some v) (hi : i < l.length) : Hop X L h o v h :=
  Hop.ldO E ho hx ht ha hg (by rw [hoff, flat_get henc default hi (bleT hf), ← nth1_eq]; exact hv)
/-- a place written -/
theorem Hop.stF {α : Type} [Inhabited α] {t : Nat} {x y : Operand} {id n i f off ty z : Nat} {enc : α → List AV} {l : List α} {v : AV} {e : TE} (b : α) (ho : o.op = .store t x y) (hx : evL L x = some (.optr id n off)) (hy : evL L y = some v) (hoff : off = i * z + f) (ht : lkT tb t = some e) (hl : Nat.beq e.s 1 = true) (hg : h.get id = .arr ty z n (l.flatMap enc)) (henc : ∀ a, (enc a).length = z) (hc : v.cells = [v]) (h1 : ones [v] = true) (h2 : datsB [v] = true)
    (hf : Nat.ble (f + 1) z = true) (hb : enc b = (enc (l.getD i b)).set f v) (hi : i < l.length) : Hop X L h o und (h.put id (.arr ty z n ((l.set i b).flatMap enc))) := by
  have hfl : (l.flatMap enc).length = l.length * z := flat_len henc l
  have hlt : i * z + f < (l.flatMap enc).length := by
    have h3 : f < z := bleT hf
    have h4 : (i + 1) * z ≤ l.length * z := Nat.mul_le_mul_right z hi
    rw [Nat.succ_mul] at h4
    omega
  have := Hop.storeO E (off := off) ho hx hy ht (by rw [hc]; exact hl) hg (by rw [hc]; exact h1) (by rw [hc]; exact h2) (by rw [hc, hoff]; exact hlt)
  rw [hc, hoff] at this
  rw [← flat_split henc hi (bleT hf) hb, ← set_cut _ _ _ hlt]
  exact this
end

/-! ## halves -/
section
variable {X : Cx} {tb : List (Nat × TE)} (E : Env X.c tb) {L : List (Nat × AV)} {h : Heap} {o : Oper}
theorem Hop.quo {x y : Operand} {t u : Nat} {a b : Int} (ho : o.op = .binOp .quo t x y u) (hx : evL L x = some (.int .i64 a)) (hy : evL L y = some (.int .i64 b)) (hb : ieq b 0 = false) (hr : 0 ≤ a ∧ a < 9223372036854775808 ∧ 0 ≤ a / b ∧ a / b < 9223372036854775808) : Hop X L h o (.int .i64 (a / b)) h :=
  opA_bin ho hx hy ⟨by simp, by simp⟩ (by simp only [intOp, hb]; rw [Int.tdiv_eq_ediv_of_nonneg hr.1, wr_i64 ⟨by omega, hr.2.2.2⟩])
theorem Hop.rem {x y : Operand} {t u : Nat} {a b : Int} (ho : o.op = .binOp .rem t x y u) (hx : evL L x = some (.int .i64 a)) (hy : evL L y = some (.int .i64 b)) (hb : ieq b 0 = false) (hr : 0 ≤ a) : Hop X L h o (.int .i64 (a % b)) h :=
  opA_bin ho hx hy ⟨by simp, by simp⟩ (by simp only [intOp, hb]; rw [Int.tmod_eq_emod_of_nonneg hr])
theorem wr_u64 {n : Int} (h : 0 ≤ n ∧ n < 18446744073709551616) : wr .u64 n = n := by
  cases n with
  | ofNat a =>
    have h2 := h.2
    rw [Int.ofNat_eq_natCast] at h2
    have h1 : um .u64 (Int.ofNat a) = a := by show a % 18446744073709551616 = a; omega
    show Int.ofNat (um .u64 (Int.ofNat a)) = _
    rw [h1]
  | negSucc a => have := h.1; omega
include E in
theorem Hop.conv {s t : Nat} {x : Operand} {k1 k2 : IntKind} {a : Int} {es e : TE} (ho : o.op = .convert s t x) (hx : evL L x = some (.int k1 a)) (hs : lkT tb s = some es) (ht : lkT tb t = some e) (hk : e.k = .int k2) (hr : wr k2 a = a) : Hop X L h o (.int k2 a) h := fun e' he => by
  obtain ⟨d, h1, _⟩ := (E.t s es hs).kd
  have h2 := (E.t t e ht).it hk
  rw [ho]; simp only [opA]; rw [he.ev hx]
  simp only [oConvert, h1, h2, hr, valH]
theorem Hop.half {x y : Operand} {t u : Nat} {kk kj : IntKind} {a : Int} (ho : o.op = .binOp .shr t x y u) (hx : evL L x = some (.int kk a)) (hy : evL L y = some (.int kj 1)) (hr : 0 ≤ a) : Hop X L h o (.int kk (a / 2)) h := fun e he => by
  rw [ho]; simp only [opA]; rw [he.ev hx, he.ev hy]
  have hs : shiftOp .shr kk a 1 = some (.int kk (a / 2)) := by
    cases a with
    | negSucc m => omega
    | ofNat m =>
      have hm : Min.min 1 (bitw kk) = 1 := by cases kk <;> rfl
      show some (AV.int kk (.ofNat (Nat.shiftRight m (Min.min 1 (bitw kk))))) = _
      rw [hm]
      have : Nat.shiftRight m 1 = m / 2 := by simp [Nat.shiftRight]
      rw [this]; rfl
  have : oBinX X.c .shr t (constB x y) (.int kk a) (.int kj 1) = shiftOp .shr kk a 1 := by
    unfold oBinX oBin
    simp only []
  rw [this, hs]; rfl
end
section
variable {X : Cx} {tb : List (Nat × TE)} (E : Env X.c tb) {sz : Nat} {rd : Option Nat} {all : Array Oper} {o : Oper} {rest : List Oper} {k : List It} {L : List (Nat × AV)} {h : Heap} {m : List Nat} {Q : Post}
include E
/-- APPENDED to nil, be it nothing: an array of one's own -/
theorem Ops.appendN {d tx : Nat} {cl : Call} {y : Operand} {t t1 el z q : Nat} {cs : List AV} {e e1 ee : TE} (hd : o.dst = some d) (hs : Nat.ble (d + 1) sz = true) (hw : ∀ v, Want all ((tx, v) :: L) o true) (ho : o.op = .call cl) (hc : cl.callee = .builtin .append) (ha : cl.args.toList = [.tmp tx, y])
    (hts0 : nth1 cl.argTypes.toList 0 = some t) (hts1 : nth1 cl.argTypes.toList 1 = some t1) (hx : lkO L tx = some .nilsl) (hy : ∀ v, evL ((tx, v) :: L) y = some (.rsl q z cs)) (ht : lkT tb t = some e) (hk : e.k = .slice el) (hel : lkT tb el = some ee) (hz : Nat.beq ee.s z = true) (hz0 : Nat.beq z 0 = false) (hb : Nat.ble ee.b 1000 = true)
    (ht1 : lkT tb t1 = some e1) (hk1 : (match e1.k with | .slice _ => true | .str => true | _ => false) = true) (hi : HInd h.nxt (h.new (.arr el z 0 []))) (hL : indL h.nxt L = true) (hm : (m.all fun i => !Nat.beq i h.nxt) = true) (hrd : rdNot h.nxt rd = true) (hG : indsB h.nxt X.gv = true)
    (hzz : (match ee.z with | .bad => false | v => Nat.beq v.cells.length ee.s) = true) (hones : ones cs = true) (hsm : q ≤ 1000000) (nx : Ops X sz rd all rest k ((d, .own h.nxt q z) :: (tx, .own h.nxt 0 z) :: L) ((h.new (.arr el z 0 [])).put h.nxt (.arr el z q cs)) m Q) : Ops X sz rd all (o :: rest) k L h m Q := by
  refine Ops.change (Chg.tok tx el z hx) (Ops.appendE E (id := h.nxt) (n := 0) (l := []) (q := q) hd hs (hw _) ho hc ha hts0 hts1 (by simp [evL, lkO]) (hy _) ht hk hel hz hz0 hb ht1 hk1 (by rw [Heap.get_new, if_pos rfl]) hi hL hm hrd hG hzz hones (by omega) ?_)
  rw [Nat.zero_add, List.nil_append]
  exact nx
theorem Go.drawS2 (hm : X.c.P.follows .mixedOrders = true) (tb : List (Ent X.c)) (p : Nat) (ord : List Nat) {id : Nat} (hord : ord = List.range p) (hc : chkOrdS X.c all.toList p = true) (n : Dr X sz rd tb all ord [] L h (some h) m (SufQ X sz rd all p k Q)) : Go X sz rd (.code (.region id all true) :: k) L h m Q := by
  subst hord
  exact Go.drawS E hm tb p hc n
end
end Go.Px
end
/- PxTn -/
section
set_option linter.unusedVariables false
set_option linter.unusedSimpArgs false
namespace Go.Px

noncomputable def newAt (n : Nat) (h : Heap) (b : AB) : Heap := ⟨n + 1, h.blk.set .none n b, h.tips, n :: h.log⟩
theorem new_at {n : Nat} {h : Heap} (hn : h.nxt = n) (b : AB) : h.new b = newAt n h b := by subst hn; rfl
noncomputable def rowAt (n : Nat) (h : Heap) (t : TypeId) (k : Nat) (cs : List AV) : Heap := newAt n h (.row ⟨t, k, .leaf, cs, none⟩)
theorem row_at {n : Nat} {h : Heap} (hn : h.nxt = n) (t : TypeId) (k : Nat) (cs : List AV) : newRow h t k .leaf cs = rowAt n h t k cs := new_at hn _
/-- a value's cells, in a box -/
def boxC (v : AV) : Option (List AV) := match v with | .agg l => some l | .bad => none | v => some [v]

section
variable {X : Cx} {tb : List (Nat × TE)} (E : Env X.c tb) {sz : Nat} {rd : Option Nat} {all : Array Oper} {o : Oper} {rest : List Oper} {k : List It} {L : List (Nat × AV)} {h : Heap} {m : List Nat} {Q : Post}

theorem oBox_C {h : Heap} {t : Nat} {v : AV} {cs : List AV} (hb : boxC v = some cs) : oBox h t v = some (.ptr h.nxt 0, newRow h t cs.length .leaf cs) := by
  cases v <;> first | (cases hb; rfl) | cases hb
theorem Hop.boxC {t : Nat} {x : Operand} {v : AV} {cs : List AV} (ho : o.op = .box t x) (hx : evL L x = some v) (hb : Px.boxC v = some cs) : Hop X L h o (.ptr h.nxt 0) (newRow h t cs.length .leaf cs) := Hop.box ho hx (oBox_C hb)
include E
/-- A BOX that nobody writes -/
theorem Ops.boxR {d t : Nat} {x : Operand} {v : AV} {cs : List AV} (hd : o.dst = some d) (hs : Nat.ble (d + 1) sz = true) (hw : Want all L o true) (ho : o.op = .box t x) (hx : evL L x = some v) (hb : Px.boxC v = some cs) (hdt : datsB cs = true)
    (nx : Ops X sz rd all rest k ((d, .rptr cs) :: L) h m Q) : Ops X sz rd all (o :: rest) k L h m Q := ⟨fun e0 he => by
  refine TriOps.cons (hw e0 he) (K := fun s' => RunK X sz rd k Q .normal s') ?_
  intro ro ρ w a next Q' h1 p h3 h4 h5
  refine ⟨fun _ _ => trivial, ?_⟩
  have hopA : opA X.c e0 (bare h.nxt) o.op = some (.v (.ptr h.nxt 0) ((bare h.nxt).new (.row ⟨t, cs.length, .leaf, cs, none⟩))) := Hop.boxC (X := X) (h := bare h.nxt) ho hx hb e0 he
  rw [show (wideR ro).round = ro from rfl, Oper.semAt_eq ro a.eval o (opA_defer hopA)]
  have hbr : HR ρ (bare h.nxt) w := bare_hr h.nxt p.hr.lt p.hr.fz
  obtain ⟨nx', w', ρ1, q1, q2, q3⟩ := opA_ok E.k hbr (bare_wf _) (fun i a b => p.fr.1 i a) h3 hopA
  have hblk : ∀ B, B < w.heap.size → w'.heap[B]? = w.heap[B]? := fun B hB => q2.frame B hB (fun i N _ => bare_no _ i)
  have hFo : ∀ B, B < w.heap.size → ρ1.F B = ρ.F B := fun B hB => q2.fold B hB (fun i N _ => bare_no _ i)
  have hgetn : ((bare h.nxt).new (.row ⟨t, cs.length, .leaf, cs, none⟩)).get h.nxt = .row ⟨t, cs.length, .leaf, cs, none⟩ := by
    have := Heap.get_new (bare h.nxt) h.nxt (.row ⟨t, cs.length, .leaf, cs, none⟩)
    rw [this]; exact if_pos rfl
  have hokn : ((bare h.nxt).new (.row ⟨t, cs.length, .leaf, cs, none⟩)).ok h.nxt := by
    unfold Heap.ok; rw [hgetn]; simp only []; rw [Heap.row_of hgetn]; rfl
  -- its value
  rcases q3 with ⟨S, rfl, q3⟩ | ⟨_, q3⟩
  · simp only [VR] at q3
    obtain ⟨B, N, e1, rfl⟩ := q3
    have hro := q2.hr.ok h.nxt B N e1 hokn
    rw [hgetn] at hro
    have hro : RowOk ρ1 ⟨t, cs.length, .leaf, cs, none⟩ B N w' := hro
    obtain ⟨L0, l1, l2, l3⟩ := RowOk.reads hro cs.length 0 (by simp)
    rw [read_whole t cs cs.length rfl] at l1
    have hFB : ρ1.F B = [] := q2.hr.F_row e1 hokn (fun r => by rw [hgetn]; exact fun q => by cases q)
    have hBge : w.heap.size ≤ B := by
      rcases q2.newb h.nxt B N e1 (p.fr.1 _ (Nat.le_refl _)) with r | ⟨j, M, _, r⟩
      · exact r
      · exact absurd r (bare_no _ j)
    have g1 : ∀ b, b ≠ B → (fun b => if b = B then L0 else ρ1.F b) b = ρ1.F b := fun b q => if_neg q
    have g2 : (fun b => if b = B then L0 else ρ1.F b) B = L0 := if_pos rfl
    have f1 : ∀ (b j : Nat) (x : Value), (ρ1.F b)[j]? = some x → ((fun b => if b = B then L0 else ρ1.F b) b)[j]? = some x := fun b j x q => by
      by_cases hb : b = B
      · subst hb; rw [hFB] at q; simp at q
      · rw [g1 b hb]; exact q
    have f0 : ∀ (b j : Nat) (x : Value), (ρ.F b)[j]? = some x → ((fun b => if b = B then L0 else ρ1.F b) b)[j]? = some x := fun b j x q => f1 b j x (q2.sub.F b j x q)
    have f3 : FzW (fun b => if b = B then L0 else ρ1.F b) w' := fun b j x q => by
      by_cases hb : b = B
      · subst hb; rw [g2] at q
        have := l3 j x q; rwa [Nat.zero_add] at this
      · rw [g1 b hb] at q; exact q2.hr.fz b j x q
    have hsub : Sub ρ ⟨ρ.m, fun b => if b = B then L0 else ρ1.F b, ρ.V⟩ := ⟨fun _ _ e => e, f0, fun _ _ _ e => e⟩
    have hpi := p.frz ⟨q2.same, hblk⟩ f0 (fun b hb => (g1 b (by omega)).trans (hFo b hb)) f3
    rw [q1]
    refine h5 (.rptr cs) ⟨e0, h, m⟩ _ w' _ ⟨e0.set und d (.rptr cs), by rw [hd]; exact setD_some hs, nx.run _ (he.set d _)⟩ (h1.mono hsub) hpi (h3.mono hsub) (h4.mono hsub) ?_
    simp only [VR]
    refine ⟨B, 0, L0, rfl, ?_, fun j x q => ?_⟩
    · exact VRs.mono (ρ := ρ1.d) (σ := (⟨ρ.m, fun b => if b = B then L0 else ρ1.F b, ρ.V⟩ : Map).d) ⟨(fun _ _ e => by cases e), f1, (fun _ _ _ e => by cases e)⟩ cs (dats_ok cs hdt l1)
    · show ((fun b => if b = B then L0 else ρ1.F b) B)[0 + j]? = some x
      rw [g2, Nat.zero_add]; exact q
  · simp only [VR] at q3
    obtain ⟨B, N, e1, e2⟩ := q3
    cases e2⟩

/-! ## numbers written out -/
theorem Ops.rowAt (n : Nat) {d ty N : Nat} {cs : List AV} (hd : o.dst = some d) (hs : Nat.ble (d + 1) sz = true) (hw : Want all L o true) (hn : h.nxt = n) (hop : Hop X L h o (.ptr h.nxt 0) (newRow h ty N .leaf cs)) (nx : Ops X sz rd all rest k ((d, .ptr n 0) :: L) (Px.rowAt n h ty N cs) m Q) : Ops X sz rd all (o :: rest) k L h m Q := by
  rw [hn, row_at hn] at hop
  exact Ops.mem E hd hs hw hop (by rw [← row_at hn]; exact ArrKeep.new rfl) nx
theorem Ops.appendNAt (n : Nat) {d tx : Nat} {cl : Call} {y : Operand} {t t1 el z q : Nat} {cs : List AV} {e e1 ee : TE} (hd : o.dst = some d) (hs : Nat.ble (d + 1) sz = true) (hn : h.nxt = n) (hw : ∀ v, Want all ((tx, v) :: L) o true) (ho : o.op = .call cl) (hc : cl.callee = .builtin .append) (ha : cl.args.toList = [.tmp tx, y])
    (hts0 : nth1 cl.argTypes.toList 0 = some t) (hts1 : nth1 cl.argTypes.toList 1 = some t1) (hx : lkO L tx = some .nilsl) (hy : ∀ v, evL ((tx, v) :: L) y = some (.rsl q z cs)) (ht : lkT tb t = some e) (hk : e.k = .slice el) (hel : lkT tb el = some ee) (hz : Nat.beq ee.s z = true) (hz0 : Nat.beq z 0 = false) (hb : Nat.ble ee.b 1000 = true)
    (ht1 : lkT tb t1 = some e1) (hk1 : (match e1.k with | .slice _ => true | .str => true | _ => false) = true) (hi : HInd n (newAt n h (.arr el z 0 []))) (hL : indL n L = true) (hm : (m.all fun i => !Nat.beq i n) = true) (hrd : rdNot n rd = true) (hG : indsB n X.gv = true)
    (hzz : (match ee.z with | .bad => false | v => Nat.beq v.cells.length ee.s) = true) (hones : ones cs = true) (hsm : q ≤ 1000000) (nx : Ops X sz rd all rest k ((d, .own n q z) :: (tx, .own n 0 z) :: L) ((newAt n h (.arr el z 0 [])).put n (.arr el z q cs)) m Q) : Ops X sz rd all (o :: rest) k L h m Q := by
  subst hn
  exact Ops.appendN E hd hs hw ho hc ha hts0 hts1 hx hy ht hk hel hz hz0 hb ht1 hk1 hi hL hm hrd hG hzz hones hsm nx
omit E in
theorem Dr.rowAt {tb : List (Ent X.c)} {ord : List Nat} {hb : Option Heap} {i : Nat} (n : Nat) {d ty N : Nat} {cs : List AV} (ho : nth1 all.toList i = some o) (hc : cls X.c o.op = .alloc) (hd : o.dst = some d) (hs : Nat.ble (d + 1) sz = true) (hw : Want all L o true) (hn : h.nxt = n) (hop : Hop X L h o (.ptr h.nxt 0) (newRow h ty N .leaf cs)) (nx : Dr X sz rd tb all ord k ((d, .ptr n 0) :: L) (Px.rowAt n h ty N cs) hb m Q) : Dr X sz rd tb all (i :: ord) k L h hb m Q := by
  rw [hn, row_at hn] at hop
  exact Dr.alloc ho hc hd hs hw hop (by rw [← row_at hn]; exact ArrKeep.new rfl) nx
omit E in
theorem Dr.slAt {tb : List (Ent X.c)} {ord : List Nat} {hb : Option Heap} {i : Nat} (n : Nat) {d ty len z : Nat} {cap : Option Nat} {cs : List AV} (ho : nth1 all.toList i = some o) (hc : cls X.c o.op = .alloc) (hd : o.dst = some d) (hs : Nat.ble (d + 1) sz = true) (hw : Want all L o true) (hn : h.nxt = n) (hop : Hop X L h o (.sl h.nxt 0 len cap z) (newRow h ty cs.length .leaf cs)) (nx : Dr X sz rd tb all ord k ((d, .sl n 0 len cap z) :: L) (Px.rowAt n h ty cs.length cs) hb m Q) : Dr X sz rd tb all (i :: ord) k L h hb m Q := by
  rw [hn, row_at hn] at hop
  exact Dr.alloc ho hc hd hs hw hop (by rw [← row_at hn]; exact ArrKeep.new rfl) nx
end
section
variable {X : Cx} {sz : Nat} {rd : Option Nat} {k : List It} {L : List (Nat × AV)} {h : Heap} {m : List Nat} {Q : Post}
/-- both ways of a condition: the slot is known behind it -/
theorem Go.condPt {t : Nat} {c d : Code} {p : Prop} (hb : lkO L t = some (.bool (bd p))) (g1 : p → Go X sz rd (.code c :: k) ((t, .bool true) :: L) h m Q) (g2 : ¬ p → Go X sz rd (.code d :: k) ((t, .bool false) :: L) h m Q) : Go X sz rd (.code (.cond (.tmp t) c d) :: k) L h m Q := ⟨fun e he => by
  have hk : ∀ {b : Bool}, bd p = b → Has e ((t, .bool b) :: L) := fun {b} hb' s u q => by
    unfold lkO at q
    split at q
    · rename_i ht; cases q; have ht := beqT ht; subst ht; rw [← hb']; exact he s _ hb
    · exact he s u q
  have he' : evL L (.tmp t) = some (.bool (bd p)) := hb
  exact Tri.cond (he.ev he') (fun q => (g1 (bd_iff.1 q)).run e (hk q)) (fun q => (g2 (bd_not.1 q)).run e (hk q))⟩
theorem Go.condNt {t : Nat} {c d : Code} {p : Prop} (hb : lkO L t = some (.bool (!bd p))) (g1 : ¬ p → Go X sz rd (.code c :: k) ((t, .bool true) :: L) h m Q) (g2 : p → Go X sz rd (.code d :: k) ((t, .bool false) :: L) h m Q) : Go X sz rd (.code (.cond (.tmp t) c d) :: k) L h m Q := by
  have e : (!bd p) = bd (¬ p) := by by_cases h : p <;> simp [bd, h]
  rw [e] at hb
  exact Go.condPt hb g1 fun q => g2 (Classical.not_not.1 q)
end
/-! ## what is left at the end -/
theorem out_t {p : Prop} (h : p) : one [AV.bool true] = .bool (bd p) := by rw [bd_of h]; rfl
theorem out_f {p : Prop} (h : ¬ p) : one [AV.bool false] = .bool (bd p) := by rw [bd_no h]; rfl
theorem out_e {p q : Prop} (h : p ↔ q) : one [AV.bool (bd p)] = .bool (bd q) := by rw [propext h]; rfl
theorem out_n {p q : Prop} (h : ¬ p ↔ q) : one [AV.bool (!bd p)] = .bool (bd q) := by
  have e : (!bd p) = bd (¬ p) := by by_cases h : p <;> simp [bd, h]
  rw [e, propext h]; rfl
end Go.Px
end
/- PxTo -/
section
set_option linter.unusedVariables false
namespace Go.Px
section
variable {X : Cx} {sz : Nat} {rd : Option Nat} {all : Array Oper} {rest : List Oper} {k : List It} {L : List (Nat × AV)} {h : Heap} {m : List Nat} {Q : Post}
theorem Ops.gT {d : Nat} {p : Prop} (hg : gslot all rest = some d) (hb : lkO L d = some (.bool (bd p))) (hp : p) (n1 : Ops X sz rd all rest k ((d, .bool true) :: L) h m Q) : Ops X sz rd all rest k L h m Q := Ops.gP hg hb (fun _ => n1) fun q => absurd hp q
theorem Ops.gF {d : Nat} {p : Prop} (hg : gslot all rest = some d) (hb : lkO L d = some (.bool (bd p))) (hp : ¬ p) (n1 : Ops X sz rd all rest k ((d, .bool false) :: L) h m Q) : Ops X sz rd all rest k L h m Q := Ops.gP hg hb (fun q => absurd q hp) fun _ => n1
theorem Go.condTt {t : Nat} {c d : Code} {p : Prop} (hb : lkO L t = some (.bool (bd p))) (hp : p) (g1 : Go X sz rd (.code c :: k) ((t, .bool true) :: L) h m Q) : Go X sz rd (.code (.cond (.tmp t) c d) :: k) L h m Q := Go.condPt hb (fun _ => g1) fun q => absurd hp q
theorem Go.condFt {t : Nat} {c d : Code} {p : Prop} (hb : lkO L t = some (.bool (bd p))) (hp : ¬ p) (g1 : Go X sz rd (.code d :: k) ((t, .bool false) :: L) h m Q) : Go X sz rd (.code (.cond (.tmp t) c d) :: k) L h m Q := Go.condPt hb (fun q => absurd q hp) fun _ => g1
end
end Go.Px
end
/- PxTp -/
section
set_option linter.unusedVariables false
namespace Go.Px
section
variable {X : Cx} {tb : List (Nat × TE)} {sz : Nat} {rd : Option Nat} {all : Array Oper} {o : Oper} {rest : List Oper} {k : List It} {L : List (Nat × AV)} {h : Heap} {m : List Nat} {Q : Post}
theorem Hop.notN {t : Nat} {x : Operand} {p : Prop} (ho : o.op = .unOp .not t x) (hx : evL L x = some (.bool (!bd p))) : Hop X L h o (.bool (bd p)) h := by
  have := Hop.not (X := X) (L := L) (h := h) ho hx
  rwa [Bool.not_not] at this
theorem Chg.eq (t : Nat) {u v : AV} (hl : lkO L t = some u) (e : u = v) : Chg X sz rd L h ((t, v) :: L) h m := Chg.weak t hl fun _ _ q => e ▸ q
/-- A MOVE of an own array that nobody writes from now on -/
theorem Ops.frzMv (E : Env X.c tb) (d : Nat) {v : AV} {id ty z n : Nat} {l : List AV} (e0 : AV.rsl n z l = v) (hd : o.dst = some d) (hs : Nat.ble (d + 1) sz = true) (hw : Want all L o true) (hop : Hop X L h o (.own id n z) h) (hg0 : h.get id = .arr ty z n l) (hi : HInd id h) (hL : indL id L = true)
    (hm : (m.all fun i => !Nat.beq i id) = true) (hrd : rdNot id rd = true) (hG : indsB id X.gv = true) (nx : Ops X sz rd all rest k ((d, v) :: (d, .own id n z) :: L) (h.put id .none) m Q) : Ops X sz rd all (o :: rest) k L h m Q := by
  subst e0
  refine Ops.val E hd hs hw hop (Ops.change (Chg.frz d (by unfold lkO; rw [Nat.beq_refl]) hg0 hi (by simp only [indL, indB]; exact hL) hm (fun q => ?_) hG) nx)
  subst q
  simp [rdNot, Nat.beq_refl] at hrd
end
end Go.Px
end
/- PxTq -/
section
set_option linter.unusedVariables false
namespace Go.Px
section
variable {X : Cx} {tb : List (Nat × TE)} {sz : Nat} {rd : Option Nat} {all : Array Oper} {o : Oper} {rest : List Oper} {k : List It} {L : List (Nat × AV)} {h : Heap} {m : List Nat} {Q : Post}
theorem PI.cell {ρ : Map} {w : World} {id : Nat} {r r' : Row} (p : PI X ρ h w) (hg0 : h.get id = .row r) (h1 : r'.t = r.t) (h2 : r'.n = r.n) (h3 : r.root = none) (h4 : r'.root = none) (H : ∀ j v, j < r.n → VR ρ (r.get j) v → VR ρ (r'.get j) v) : PI X ρ (h.put id (.row r')) w := by
  have hg : ∀ j, j ≠ id → (h.put id (.row r')).get j = h.get j := fun j q => by rw [Heap.get_put, if_neg q]
  have hn : (h.put id (.row r')).get id = .row r' := by rw [Heap.get_put, if_pos rfl]
  have hokn : h.ok id := by unfold Heap.ok; rw [hg0]; simp only []; rw [Heap.row_of hg0, h3]; rfl
  have ho : ∀ j, (h.put id (.row r')).ok j → h.ok j := fun j q => by
    by_cases hj : j = id
    · subst hj; exact hokn
    · exact (Heap.ok_same (hg j hj) (fun _ _ _ _ => rfl)).1 q
  have hk1 : ∀ j, ¬ Kin h id j := fun j hk => by
    obtain ⟨a, b, q, a1, a2, a3, a4⟩ := hk
    rw [hg0] at a1; cases a1; rw [h3] at a3; cases a3
  have hk2 : ∀ j, ¬ Kin h j id := fun j hk => by
    obtain ⟨a, b, q, a1, a2, a3, a4⟩ := hk
    rw [hg0] at a2; cases a2; rw [h3] at a4; cases a4
  refine ⟨⟨p.hr.lt, fun i B N e q => ?_, fun i j B N M hij e1 e2 k1 k2 => ?_, fun i s q => ?_, p.hr.fz, fun i B N e q => ?_, fun i t z n l q => ?_⟩,
    ⟨fun i hi => ?_, fun i s q a b => ?_, fun i s q t a b c => ?_, fun q hq => p.wf.tipr q hq⟩, ⟨fun i hi => p.fr.1 i hi, fun i s q => ?_⟩, fun i hi n => p.vf i hi n, fun i t z n l q => ?_, p.ext, p.mine, p.sub, p.old, p.keep⟩
  · by_cases hi : i = id
    · subst hi
      rw [hn]
      have := p.hr.ok i B N e hokn
      rw [hg0] at this
      have this : RowOk ρ r B N w := this
      obtain ⟨q1, q2, q3, q4⟩ := this
      refine ⟨by rw [h1]; exact q1, by rw [h2]; exact q2, q3, fun j hj => ?_⟩
      rw [h2] at hj
      obtain ⟨v, v1, v2⟩ := q4 j hj
      exact ⟨v, v1, H j v hj v2⟩
    · rw [hg i hi]; exact p.hr.ok i B N e (ho i q)
  · have kk := p.hr.inj i j B N M hij e1 e2 (ho i k1) (ho j k2)
    by_cases hi : i = id
    · subst hi; exact absurd kk (hk1 j)
    · by_cases hj : j = id
      · subst hj; exact absurd kk (hk2 i)
      · obtain ⟨r, s, q, a, b, c⟩ := kk
        exact ⟨r, s, q, by rw [hg i hi]; exact a, by rw [hg j hj]; exact b, c⟩
  · by_cases hi : i = id
    · subst hi; rw [hn] at q; cases q
    · rw [hg i hi] at q; exact p.hr.gl i s q
  · by_cases hi : i = id
    · subst hi
      rcases p.hr.sep i B N e hokn with a | ⟨s, a⟩
      · exact .inl a
      · rw [hg0] at a; cases a
    · rw [hg i hi]; exact p.hr.sep i B N e (ho i q)
  · by_cases hi : i = id
    · subst hi; rw [hn] at q; cases q
    · rw [hg i hi] at q; exact p.hr.av i t z n l q
  · by_cases hi' : i = id
    · subst hi'
      have : h.get i = .none := p.wf.fresh i hi
      rw [hg0] at this; cases this
    · rw [hg i hi']; exact p.wf.fresh i hi
  · by_cases hi : i = id
    · subst hi; rw [hn] at a; cases a; rw [h4] at b; cases b
    · rw [hg i hi] at a; exact p.wf.root i s q a b
  · by_cases hi : i = id
    · subst hi; rw [hn] at a; cases a; rw [h4] at b; cases b
    · rw [hg i hi] at a
      obtain ⟨u, u1, u2, u3⟩ := p.wf.tip i s q t a b c
      by_cases ht : t = id
      · subst ht; rw [hg0] at u1; cases u1; rw [h3] at u2; cases u2
      · exact ⟨u, by rw [hg t ht]; exact u1, u2, u3⟩
  · by_cases hi : i = id
    · subst hi
      have := p.fr.2 i s q
      rw [hg0] at this; cases this
    · rw [hg i hi]; exact p.fr.2 i s q
  · by_cases hi : i = id
    · subst hi; rw [hn] at q; cases q
    · rw [hg i hi] at q; exact p.vu i t z n l q
theorem Chg.cell (id : Nat) {r r' : Row} (hg0 : h.get id = .row r) (h1 : r'.t = r.t) (h2 : r'.n = r.n) (h3 : r.root = none) (h4 : r'.root = none) (H : ∀ ρ w, PI X ρ h w → ∀ j v, j < r.n → VR ρ (r.get j) v → VR ρ (r'.get j) v) : Chg X sz rd L h L (h.put id (.row r')) m := fun ro ρ w e a g1 p g3 he g4 =>
  ⟨ρ, e, g1, p.cell hg0 h1 h2 h3 h4 (H ρ w p), g3, he, g4⟩
theorem row1 (t : TypeId) (v : AV) : Row.get ⟨t, 1, .leaf, [v], none⟩ 0 = v := by
  unfold Row.get
  rw [show (T.leaf : T (Option AV)).get none 0 = none from get_leaf none 0]
  simp only [Nat.zero_mod]
  rfl
/-- a nil slice in a box, as an array of one's own in which nothing stands -/
theorem Chg.cellOwn (id k : Nat) {t ty : TypeId} {z : Nat} (hg : h.get id = .row ⟨t, 1, .leaf, [.nilsl], none⟩) (hk : h.get k = .arr ty z 0 []) : Chg X sz rd L h L (h.put id (.row ⟨t, 1, .leaf, [.own k 0 z], none⟩)) m :=
  Chg.cell id hg rfl rfl rfl rfl fun ρ w p j v hj q => by
    have hj : j = 0 := by simpa using hj
    subst hj
    have hn : Row.n ⟨t, 1, .leaf, [AV.nilsl], none⟩ = 1 := rfl
    rw [row1] at q ⊢
    simp only [VR] at q ⊢
    obtain ⟨_, h⟩ := p.hr.av k ty z 0 [] hk
    rcases h with ⟨_, h⟩ | ⟨h, _⟩
    · rw [q]; exact ⟨h, .inl (by simp)⟩
    · exact absurd rfl h
theorem Ops.weakAt (E : Env X.c tb) (d : Nat) {u v : AV} (hd : o.dst = some d) (hs : Nat.ble (d + 1) sz = true) (hw : Want all L o true) (hop : Hop X L h o u h) (H : ∀ ρ x, VR ρ u x → VR ρ v x) (nx : Ops X sz rd all rest k ((d, v) :: (d, u) :: L) h m Q) : Ops X sz rd all (o :: rest) k L h m Q :=
  Ops.val E hd hs hw hop (Ops.change (Chg.weak d (by unfold lkO; rw [Nat.beq_refl]) H) nx)
end
/-- a heap of so many blocks, the number written out -/
noncomputable def hq (N : Nat) (bs : List AB) : Heap := ⟨N, T.put .none bs .leaf 0, .leaf, []⟩
theorem row_at_i {t : TypeId} {cs : List AV} {j : Nat} (hj : j < cs.length) : Row.get ⟨t, cs.length, .leaf, cs, none⟩ j = cs.getD j .bad := by
  unfold Row.get
  rw [show (T.leaf : T (Option AV)).get none j = none from get_leaf none j]
  simp only [Nat.mod_eq_of_lt hj, nth_eq, List.getD_eq_getElem?_getD, List.getElem?_eq_getElem hj]
  rfl
theorem lows_at {n : Nat} : ∀ {cs : List AV} {j : Nat}, lowsB n cs = true → j < cs.length → lowB n (cs.getD j .bad) = true
  | [], _, _, h => by simp at h
  | c :: cs, j, h, hj => by
    simp only [lowsB] at h
    split at h
    · rename_i hc
      cases j with
      | zero => exact hc
      | succ j => exact lows_at (cs := cs) h (by simpa using hj)
    · cases h
theorem inds_at {n : Nat} : ∀ {cs : List AV} {j : Nat}, indsB n cs = true → j < cs.length → indB n (cs.getD j .bad) = true
  | [], _, _, h => by simp at h
  | c :: cs, j, h, hj => by
    simp only [indsB] at h
    split at h
    · rename_i hc
      cases j with
      | zero => exact hc
      | succ j => exact inds_at (cs := cs) h (by simpa using hj)
    · cases h
theorem low_row {n N : Nat} {t : TypeId} {cs : List AV} (hN : cs.length = N) (h : lowsB n cs = true) : ABLow n (.row ⟨t, N, .leaf, cs, none⟩) := by
  subst hN
  refine ⟨rfl, ?_⟩
  rw [List.all_eq_true]
  intro j hj
  have hj : j < cs.length := by simpa using hj
  rw [row_at_i hj]; exact lows_at h hj
theorem ind_row {n N : Nat} {t : TypeId} {cs : List AV} (hN : cs.length = N) (h : indsB n cs = true) : ABInd n (.row ⟨t, N, .leaf, cs, none⟩) := by
  subst hN
  show ((List.range cs.length).all fun j => indB n (Row.get ⟨t, cs.length, .leaf, cs, none⟩ j)) = true
  rw [List.all_eq_true]
  intro j hj
  have hj : j < cs.length := by simpa using hj
  rw [row_at_i hj]; exact inds_at h hj
end Go.Px
end
/- PxTr -/
section
set_option linter.unusedVariables false
namespace Go.Px
section
variable {X : Cx} {tb : List (Nat × TE)} (E : Env X.c tb) {sz : Nat} {rd : Option Nat} {all : Array Oper} {o : Oper} {rest : List Oper} {k : List It} {L : List (Nat × AV)} {h : Heap} {m : List Nat} {Q : Post}
include E
theorem Go.rangeAt (n : Nat) {f : Operand} {ps : Array Tmp} {assign body bodyG : Code} {g : FuncId} {fn : Func} {first cap : List AV} (hn : h.nxt = n) (hfv : evL L f = some (.fn (.func g) first cap)) (hf : X.c.P.funcs[g]? = some fn) (hb : fn.body = some bodyG)
    (hlen : Nat.ble (first ++ [AV.fn (.yield (n + 1)) [] []] ++ cap).length fn.ntmps = true) (hon : onceB L = true)
    (H : ∀ gx R, R = (⟨.ready, none, 0, T.put und (envLs L sz) .leaf 0, sz, ps.toList, assign, body, n⟩ : ALoop) → Go ⟨X.c, X.w0, X.F0, (held L (n :: m) none ++ [AV.ptr (n + 1) 0]) ++ X.gv, gx ++ X.gx⟩ fn.ntmps none [.code bodyG] (argsL (first ++ [AV.fn (.yield (n + 1)) [] []] ++ cap) 0) (newAt (n + 1) (newAt n h (.dfr true)) (.loop R)) []
      (FinI X.c fn.results.toList fun _ h' => AfterR X sz none k L (n + 1) (n :: m) Q h')) : Go X sz none (.code (.rangeFunc f ps assign body) :: k) L h m Q := by
  subst hn
  exact Go.range E hfv hf hb hlen hon fun gx => H gx _ rfl
omit E
theorem Go.toQ {L' : List (Nat × AV)} {c : Code} {bs : List AB} {N : Nat} (g : Go X sz rd (.lp c :: k) L' (hq N bs) m Q) (hN : bs.length = N) (hg : ∀ i r, X.c.g0.get i ≠ .gl r) (hs : SubL L L') (hlow : lowL N L' = true) (hn : Nat.ble N h.nxt = true) (hb : getsP h bs 0) (hbl : lowsP N bs)
    (hm : (m.all fun i => Nat.ble (i + 1) N) = true) (hrd : rdLow N rd = true) (hG : lowsB N X.gv = true := by rfl) : Go X sz rd (.lp c :: k) L h m Q := by
  subst hN
  exact Go.toC g hg hs hlow hn hb hbl hm hrd hG
theorem Go.toHQ {L' : List (Nat × AV)} {c : Code} {bs : List AB} {N : Nat} (g : Go X sz rd (.code c :: k) L' (hq N bs) m Q) (hN : bs.length = N) (hg : ∀ i r, X.c.g0.get i ≠ .gl r) (hs : SubL L L') (hlow : lowL N L' = true) (hn : Nat.ble N h.nxt = true) (hb : getsP h bs 0) (hbl : lowsP N bs)
    (hm : (m.all fun i => Nat.ble (i + 1) N) = true) (hrd : rdLow N rd = true) (hG : lowsB N X.gv = true := by rfl) : Go X sz rd (.code c :: k) L h m Q := by
  subst hN
  exact Go.toH g hg hs hlow hn hb hbl hm hrd hG
theorem Chg.tokAt (n t : Nat) (ty z : Nat) (hn : h.nxt = n) (hl : lkO L t = some .nilsl) : Chg X sz rd L h ((t, .own n 0 z) :: L) (newAt n h (.arr ty z 0 [])) m := by
  subst hn
  exact Chg.tok t ty z hl
/-- behind a range that ran to its end -/
theorem Go.afterN {l : Nat} {r : ALoop} (hl : h.get l = .loop r) (hp : r.pending = none) (hs : r.state = .ready ∨ r.state = .done) (n : Go X sz none k L (h.put l (.loop { r with state := .exhausted })) m Q) : AfterR X sz none k L l m Q h := by
  obtain ⟨st, pe, a1, a2, a3, a4, a5, a6, a7⟩ := r
  have hp : pe = none := hp
  subst hp
  refine ⟨_, hl, fun q => ?_, fun e he => n.run e he⟩
  rcases hs with hs | hs <;> rw [hs] at q <;> cases q
/-- behind a range that was left -/
theorem Go.afterX {l id : Nat} {r : ALoop} {k' : List It} (hl : h.get l = .loop r) (hp : r.pending = some (.exit id)) (hs : r.state = .ready ∨ r.state = .done) (hx : xit id k = some k') (n : Go X sz none k' L (h.put l (.loop { r with state := .exhausted })) m Q) : AfterR X sz none k L l m Q h := by
  obtain ⟨st, pe, a1, a2, a3, a4, a5, a6, a7⟩ := r
  have hp : pe = some (.exit id) := hp
  subst hp
  refine ⟨_, hl, fun q => ?_, fun e he => xit_run hx (n.run e he)⟩
  rcases hs with hs | hs <;> rw [hs] at q <;> cases q
theorem Go.retFm {c : Ctx} {res : List ResultVar} {vs : List AV} {v : AV} {h' : Heap} (hl : leave h m = some h') (hr : resL L res = some vs) (hv : one vs = v) (hd : datB v = true) : Go X sz rd (.code .ret :: k) L h m (Fin c res v) :=
  Go.ret fun e he => ⟨.inr rfl, h', vs, hl, resL_ok he hr, hv, hd⟩
theorem Go.endFm {c : Ctx} {res : List ResultVar} {vs : List AV} {v : AV} {h' : Heap} (hl : leave h m = some h') (hr : resL L res = some vs) (hv : one vs = v) (hd : datB v = true) : Go X sz rd [] L h m (Fin c res v) :=
  Go.nil fun e he => ⟨.inl rfl, h', vs, hl, resL_ok he hr, hv, hd⟩
end
end Go.Px
end
/- FsA -/
section
set_option linter.unusedVariables false
namespace Go.Px.Fs
open Go.Proofs
noncomputable def cF : Ctx := ctxG Try.prog h0
theorem cF_ok : CtxOk cF := ctxG_ok (by kernel_rfl)
def tbF : List (Nat × TE) := [(2, ⟨.int .i64, 1, 8, .int .i64 0⟩),
  (3, ⟨.int .i64, 1, 8, .int .i64 0⟩),
  (4, ⟨.bool, 1, 1, .bool false⟩),
  (5, ⟨.int .u8, 1, 1, .int .u8 0⟩),
  (9, ⟨.str, 1, 16, .str []⟩),
  (23, ⟨.slice 5, 1, 24, .nilsl⟩),
  (28, ⟨.int .i64, 1, 8, .int .i64 0⟩),
  (45, ⟨.slice 87, 1, 24, .nilsl⟩),
  (56, ⟨.struct [(0, 3), (1, 2), (2, 9)], 3, 32, .agg [.int .i64 0, .int .i64 0, .str []]⟩),
  (58, ⟨.struct [(0, 2), (1, 2), (2, 56), (5, 2), (6, 4), (7, 2), (8, 2)], 9, 80, .agg [.int .i64 0, .int .i64 0, .int .i64 0, .int .i64 0, .str [], .int .i64 0, .bool false, .int .i64 0, .int .i64 0]⟩),
  (85, ⟨.slice 126, 1, 24, .nilsl⟩),
  (87, ⟨.struct [(0, 2), (1, 2), (2, 56), (5, 85)], 6, 72, .agg [.int .i64 0, .int .i64 0, .int .i64 0, .int .i64 0, .str [], .nilsl]⟩),
  (102, ⟨.int .u64, 1, 8, .int .u64 0⟩),
  (126, ⟨.struct [(0, 2), (1, 2)], 2, 16, .agg [.int .i64 0, .int .i64 0]⟩),
  (136, ⟨.slice 2, 1, 24, .nilsl⟩),
  (188, ⟨.slice 3, 1, 24, .nilsl⟩)]
theorem eF : Env cF tbF := ⟨cF_ok, TbP.at_ (tb := tbF) ⟨⟨by kernel_rfl, by kernel_rfl, by kernel_rfl⟩, ⟨by kernel_rfl, by kernel_rfl, by kernel_rfl⟩, ⟨by kernel_rfl, by kernel_rfl, by kernel_rfl⟩, ⟨by kernel_rfl, by kernel_rfl, by kernel_rfl⟩, ⟨by kernel_rfl, by kernel_rfl, by kernel_rfl⟩, ⟨by kernel_rfl, by kernel_rfl, by kernel_rfl⟩, ⟨by kernel_rfl, by kernel_rfl, by kernel_rfl⟩, ⟨by kernel_rfl, by kernel_rfl, by kernel_rfl⟩, ⟨by kernel_rfl, by kernel_rfl, by kernel_rfl⟩, ⟨by kernel_rfl, by kernel_rfl, by kernel_rfl⟩, ⟨by kernel_rfl, by kernel_rfl, by kernel_rfl⟩, ⟨by kernel_rfl, by kernel_rfl, by kernel_rfl⟩, ⟨by kernel_rfl, by kernel_rfl, by kernel_rfl⟩, ⟨by kernel_rfl, by kernel_rfl, by kernel_rfl⟩, ⟨by kernel_rfl, by kernel_rfl, by kernel_rfl⟩, ⟨by kernel_rfl, by kernel_rfl, by kernel_rfl⟩, trivial⟩, fun i r q => by rw [show cF.g0.get i = .none from h0_get i] at q; cases q⟩

theorem _root_.Go.Px.Go.to {X : Cx} {sz : Nat} {rd : Option Nat} {k : List It} {L M : List (Nat × AV)} {h : Heap} {m : List Nat} {Q : Post} (g : Go X sz rd k M h m Q) (hs : SubL L M) : Go X sz rd k L h m Q := Go.sub hs g
theorem lt_succ_cases {j i : Nat} (h : j < i + 1) : j < i ∨ j = i := by omega
/-! ## data -/
structure Sp where
  a : Int
  b : Int
instance : Inhabited Sp := ⟨⟨0, 0⟩⟩
structure Va where
  k : Int
  n : Int
  s : List UInt8
instance : Inhabited Va := ⟨⟨0, 0, []⟩⟩
structure Fa where
  e : Int
  a : Int
  v : Va
  l : List Sp
instance : Inhabited Fa := ⟨⟨0, 0, default, []⟩⟩
structure Da where
  e : Int
  a : Int
  v : Va
  t : Int
  add : Bool
  fr : Int
  to : Int
instance : Inhabited Da := ⟨⟨0, 0, default, 0, false, 0, 0⟩⟩
def encI (n : Int) : List AV := [.int .i64 n]
def encSp (s : Sp) : List AV := [.int .i64 s.a, .int .i64 s.b]
def encVa (v : Va) : List AV := [.int .i64 v.k, .int .i64 v.n, sA v.s]
def spsA (l : List Sp) : AV := dsl 2 encSp l
def encFa (f : Fa) : List AV := [.int .i64 f.e, .int .i64 f.a, .int .i64 f.v.k, .int .i64 f.v.n, sA f.v.s, spsA f.l]
def fasA (l : List Fa) : AV := dsl 6 encFa l
def encDa (d : Da) : List AV := [.int .i64 d.e, .int .i64 d.a, .int .i64 d.v.k, .int .i64 d.v.n, sA d.v.s, .int .i64 d.t, .bool d.add, .int .i64 d.fr, .int .i64 d.to]
theorem hm : cF.P.follows .mixedOrders = true := by kernel_rfl
end Go.Px.Fs
end
/- FsB -/
section
set_option linter.unusedVariables false
set_option linter.unusedSimpArgs false
set_option maxHeartbeats 4000000
set_option maxRecDepth 20000
namespace Go.Px.Fs
open Go.Proofs
theorem k28 (n : Int) : KOk cF 48 [.int .i64 n] (.bool (bd (0 ≤ n ∧ n < 9007199254740992))) := by
  refine KOk.of cF_ok eF.g Try.func48 rfl (Nat.le_of_ble_eq_true rfl) fun w F => ?_
  repeat' first | refine Go.seq ?_ | refine Go.region rfl ?_ | refine Ops.nil ?_ | refine Ops.val eF rfl rfl (by first | exact Want.no rfl | exact Want.tT rfl rfl rfl rfl | exact Want.fF rfl rfl rfl rfl) (by first | exact Hop.move rfl rfl | exact Hop.assign rfl rfl | exact Hop.pickT rfl rfl rfl | exact Hop.pickF rfl rfl rfl | exact Hop.lss rfl rfl rfl | exact Hop.geq rfl rfl rfl) ?_ | refine Ops.skip rfl rfl (by first | exact Want.fT rfl rfl rfl rfl | exact Want.tF rfl rfl rfl rfl | exact Want.und rfl rfl rfl rfl) ?_ | refine Ops.gP rfl rfl (fun _ => ?_) (fun _ => ?_) | refine Go.retF rfl ?_ rfl
  all_goals simp [one, ofV, ofV0, ← bd_dec, *]
theorem k47 (c : Int) : KOk cF 100 [.int .u8 c] (.bool (bd (97 ≤ c ∧ c ≤ 122))) := by
  refine KOk.of cF_ok eF.g Try.func100 rfl (Nat.le_of_ble_eq_true rfl) fun w F => ?_
  repeat' first | refine Go.seq ?_ | refine Go.region rfl ?_ | refine Ops.nil ?_ | refine Ops.val eF rfl rfl (by first | exact Want.no rfl | exact Want.tT rfl rfl rfl rfl | exact Want.fF rfl rfl rfl rfl) (by first | exact Hop.move rfl rfl | exact Hop.assign rfl rfl | exact Hop.pickT rfl rfl rfl | exact Hop.pickF rfl rfl rfl | exact Hop.leq rfl rfl rfl | exact Hop.geq rfl rfl rfl) ?_ | refine Ops.skip rfl rfl (by first | exact Want.fT rfl rfl rfl rfl | exact Want.tF rfl rfl rfl rfl | exact Want.und rfl rfl rfl rfl) ?_ | refine Ops.gP rfl rfl (fun _ => ?_) (fun _ => ?_) | refine Go.retF rfl ?_ rfl
  all_goals simp [one, ofV, ofV0, ← bd_dec, *]
theorem k48 (c : Int) : KOk cF 101 [.int .u8 c] (.bool (bd (48 ≤ c ∧ c ≤ 57))) := by
  refine KOk.of cF_ok eF.g Try.func101 rfl (Nat.le_of_ble_eq_true rfl) fun w F => ?_
  repeat' first | refine Go.seq ?_ | refine Go.region rfl ?_ | refine Ops.nil ?_ | refine Ops.val eF rfl rfl (by first | exact Want.no rfl | exact Want.tT rfl rfl rfl rfl | exact Want.fF rfl rfl rfl rfl) (by first | exact Hop.move rfl rfl | exact Hop.assign rfl rfl | exact Hop.pickT rfl rfl rfl | exact Hop.pickF rfl rfl rfl | exact Hop.leq rfl rfl rfl | exact Hop.geq rfl rfl rfl) ?_ | refine Ops.skip rfl rfl (by first | exact Want.fT rfl rfl rfl rfl | exact Want.tF rfl rfl rfl rfl | exact Want.und rfl rfl rfl rfl) ?_ | refine Ops.gP rfl rfl (fun _ => ?_) (fun _ => ?_) | refine Go.retF rfl ?_ rfl
  all_goals simp [one, ofV, ofV0, ← bd_dec, *]
theorem k43 (n : Int) : KOk cF 130 [.int .i64 n] (.bool false) := by
  refine KOk.of cF_ok eF.g Try.func130 rfl (Nat.le_of_ble_eq_true rfl) fun w F => ?_
  repeat' first | refine Go.seq ?_ | refine Go.region rfl ?_ | refine Ops.nil ?_ | refine Ops.val eF rfl rfl (by first | exact Want.no rfl | exact Want.tT rfl rfl rfl rfl | exact Want.fF rfl rfl rfl rfl) (by first | exact Hop.move rfl rfl | exact Hop.assign rfl rfl | exact Hop.neq rfl rfl rfl) ?_ | refine Go.retF rfl ?_ rfl
  all_goals simp [one, ofV, ofV0, ← bd_dec, *]
theorem k50 (n : Int) : KOk cF 137 [.int .i64 n] (.bool false) := by
  refine KOk.of cF_ok eF.g Try.func137 rfl (Nat.le_of_ble_eq_true rfl) fun w F => ?_
  repeat' first | refine Go.seq ?_ | refine Go.region rfl ?_ | refine Ops.nil ?_ | refine Ops.val eF rfl rfl (by first | exact Want.no rfl | exact Want.tT rfl rfl rfl rfl | exact Want.fF rfl rfl rfl rfl) (by first | exact Hop.move rfl rfl | exact Hop.assign rfl rfl | exact Hop.neq rfl rfl rfl) ?_ | refine Go.retF rfl ?_ rfl
  all_goals simp [one, ofV, ofV0, ← bd_dec, *]
/-- how two numbers stand -/
def cmpI (a b : Int) : Int := if a < b then -1 else if b < a then 1 else 0
theorem k35 (a b : Int) : KOk cF 110 [.int .i64 a, .int .i64 b] (.int .i64 (cmpI a b)) := by
  refine KOk.of cF_ok eF.g Try.func110 rfl (Nat.le_of_ble_eq_true rfl) fun w F => ?_
  repeat' first | refine Go.seq ?_ | refine Go.region rfl ?_ | refine Ops.nil ?_ | refine Ops.val eF rfl rfl (by first | exact Want.no rfl | exact Want.tT rfl rfl rfl rfl | exact Want.fF rfl rfl rfl rfl) (by first | exact Hop.move rfl rfl | exact Hop.assign rfl rfl | exact Hop.lss rfl rfl rfl | exact Hop.gtr rfl rfl rfl) ?_ | refine Ops.call eF rfl rfl (by first | exact Want.no rfl | exact Want.tT rfl rfl rfl rfl | exact Want.fF rfl rfl rfl rfl) rfl rfl rfl rfl (k43 _) rfl ?_ | refine Go.condF rfl ?_ | refine Go.condPt rfl (fun _ => ?_) (fun _ => ?_) | refine Go.skip ?_ | refine Go.retF rfl ?_ rfl
  all_goals simp [one, ofV, ofV0, cmpI, *]
theorem k44 (a b : Int) : KOk cF 128 [.int .i64 a, .int .i64 b] (.int .i64 (cmpI a b)) := by
  refine KOk.of cF_ok eF.g Try.func128 rfl (Nat.le_of_ble_eq_true rfl) fun w F => ?_
  repeat' first | refine Go.seq ?_ | refine Go.region rfl ?_ | refine Ops.nil ?_ | refine Ops.val eF rfl rfl (by first | exact Want.no rfl | exact Want.tT rfl rfl rfl rfl | exact Want.fF rfl rfl rfl rfl) (by first | exact Hop.move rfl rfl | exact Hop.assign rfl rfl | exact Hop.lss rfl rfl rfl | exact Hop.gtr rfl rfl rfl) ?_ | refine Ops.call eF rfl rfl (by first | exact Want.no rfl | exact Want.tT rfl rfl rfl rfl | exact Want.fF rfl rfl rfl rfl) rfl rfl rfl rfl (k50 _) rfl ?_ | refine Go.condF rfl ?_ | refine Go.condPt rfl (fun _ => ?_) (fun _ => ?_) | refine Go.skip ?_ | refine Go.retF rfl ?_ rfl
  all_goals simp [one, ofV, ofV0, cmpI, *]


/-- is it in one of them -/
def InP (l : List Sp) (t : Int) : Prop := ∃ j, j < l.length ∧ (l.getD j default).a ≤ t ∧ t < (l.getD j default).b
end Go.Px.Fs
end
/- FsD -/
section
set_option linter.unusedVariables false
set_option linter.unusedSimpArgs false
set_option maxHeartbeats 4000000
set_option maxRecDepth 20000
namespace Go.Px.Fs
open Go.Proofs
theorem bd_eq {p q : Prop} (h : p ↔ q) : bd p = bd q := by rw [propext h]
/-- a byte, as a number -/
def byt (s : List UInt8) (i : Nat) : Int := ((s.getD i 0).toNat : Int)
/-- may a byte stand in a word -/
def WoC (c : Int) : Prop := (97 ≤ c ∧ c ≤ 122) ∨ (48 ≤ c ∧ c ≤ 57) ∨ c = 46 ∨ c = 95 ∨ c = 45 ∨ c = 47
def WordP (s : List UInt8) : Prop := 1 ≤ s.length ∧ s.length ≤ 64 ∧ (97 ≤ byt s 0 ∧ byt s 0 ≤ 122) ∧ ∀ j, j < s.length → WoC (byt s j)
theorem k39 (s : List UInt8) (hs : s.length ≤ 100000) : KOk cF 78 [sA s] (.bool (bd (WordP s))) := by
  refine KOk.of cF_ok eF.g Try.func78 rfl (Nat.le_of_ble_eq_true rfl) fun w F => ?_
  repeat' first | refine Go.seq ?_ | refine Go.region rfl ?_ | refine Ops.nil ?_ | refine Ops.val eF rfl rfl (by first | exact Want.no rfl | exact Want.tT rfl rfl rfl rfl | exact Want.fF rfl rfl rfl rfl) (by first | exact Hop.move rfl rfl | exact Hop.assign rfl rfl | exact Hop.pickT rfl rfl rfl | exact Hop.pickF rfl rfl rfl | exact Hop.not rfl rfl | exact Hop.lss rfl rfl rfl | exact Hop.gtr rfl rfl rfl | exact Hop.sidx eF rfl rfl rfl rfl rfl (by omega) | exact Hop.lenS eF rfl rfl rfl rfl rfl rfl rfl) ?_ | refine Ops.skip rfl rfl (by first | exact Want.fT rfl rfl rfl rfl | exact Want.tF rfl rfl rfl rfl | exact Want.und rfl rfl rfl rfl) ?_ | refine Ops.gP rfl rfl (fun _ => ?_) (fun _ => ?_) | refine Ops.call eF rfl rfl (by first | exact Want.no rfl | exact Want.tT rfl rfl rfl rfl | exact Want.fF rfl rfl rfl rfl) rfl rfl rfl rfl (k47 _) rfl ?_ | refine Go.condT rfl ?_ | refine Go.condNt rfl (fun _ => ?_) (fun _ => ?_) | refine Go.block ?_ | refine Go.skip ?_ | refine Go.retF rfl ?_ rfl
  · rw [bd_no (fun h => by have := h.1; omega)]; rfl
  · rw [bd_no (fun h => by have := h.2.1; omega)]; rfl
  · rw [bd_no (fun h => by rename_i h1; exact h1 h.2.2.1)]; rfl
  rename_i h1 h2 h3
  refine Go.loop (fun i : Nat => [(0, sA s), (3, .int .i64 i)]) (fun _ => hS) (fun i => i ≤ s.length ∧ ∀ j, j < i → WoC (byt s j)) (fun i => s.length - i) 0 ⟨by omega, fun j hj => by omega⟩ ⟨rfl, rfl, trivial⟩ rfl (fun i hP ih => ?_)
  obtain ⟨hi, hn⟩ := hP
  repeat' first | refine Go.seq ?_ | refine Go.region rfl ?_ | refine Ops.nil ?_ | refine Ops.val eF rfl rfl (by first | exact Want.no rfl | exact Want.tT rfl rfl rfl rfl | exact Want.fF rfl rfl rfl rfl) (by first | exact Hop.move rfl rfl | exact Hop.assign rfl rfl | exact Hop.pickT rfl rfl rfl | exact Hop.pickF rfl rfl rfl | exact Hop.not rfl rfl | exact Hop.lss rfl rfl rfl | exact Hop.neq rfl rfl rfl | exact Hop.add rfl rfl rfl (by omega) | exact Hop.sidx eF rfl rfl rfl rfl rfl (by omega) | exact Hop.lenS eF rfl rfl rfl rfl rfl rfl rfl) ?_ | refine Ops.skip rfl rfl (by first | exact Want.fT rfl rfl rfl rfl | exact Want.tF rfl rfl rfl rfl | exact Want.und rfl rfl rfl rfl) ?_ | refine Ops.gN rfl rfl (fun _ => ?_) (fun _ => ?_) | refine Ops.call eF rfl rfl (by first | exact Want.no rfl | exact Want.tT rfl rfl rfl rfl | exact Want.fF rfl rfl rfl rfl) rfl rfl rfl rfl (k47 _) rfl ?_ | refine Ops.call eF rfl rfl (by first | exact Want.no rfl | exact Want.tT rfl rfl rfl rfl | exact Want.fF rfl rfl rfl rfl) rfl rfl rfl rfl (k48 _) rfl ?_ | refine Go.condF rfl ?_ | refine Go.condPt rfl (fun _ => ?_) (fun _ => ?_) | refine Go.condNt rfl (fun _ => ?_) (fun _ => ?_) | refine Go.block ?_ | refine Go.unblk ?_ | refine Go.skip ?_ | refine Go.exit rfl ?_ | refine Go.retF rfl ?_ rfl
  all_goals try simp only [Int.toNat_natCast] at *
  all_goals first
    | (refine Go.to (ih (i + 1) ⟨by omega, fun j hj => ?_⟩ (by omega)) ⟨rfl, rfl, trivial⟩
       rcases lt_succ_cases hj with h | rfl
       · exact hn j h
       · unfold WoC byt; omega)
    | (rw [bd_no (fun h => by have := h.2.2.2 i (by omega); unfold WoC byt at this; omega)]; rfl)
    | (rw [bd_of ⟨by omega, by omega, h3, fun j hj => hn j (by omega)⟩]; rfl)
end Go.Px.Fs
end
/- FsH -/
section
set_option linter.unusedVariables false
set_option linter.unusedSimpArgs false
set_option maxHeartbeats 4000000
set_option maxRecDepth 20000
namespace Go.Px.Fs
open Go.Proofs
/-- may a value be -/
def VaP (v : Va) : Prop :=
  if v.k = 1 ∨ v.k = 6 then v.s = []
  else if v.k = 2 then v.s = [] ∧ (v.n = 0 ∨ v.n = 1)
  else if v.k = 3 ∨ v.k = 4 then v.n = 0 ∧ v.s.length ≤ 1000
  else if v.k = 5 then v.s = [] ∧ 0 ≤ v.n ∧ v.n < 9007199254740992
  else if v.k = 7 then v.n = 0 ∧ WordP v.s
  else False
theorem k29 (v : Va) (hv : v.s.length ≤ 100000) : KOk cF 49 [.agg (encVa v)] (.bool (bd (VaP v))) := by
  refine KOk.of cF_ok eF.g Try.func49 rfl (Nat.le_of_ble_eq_true rfl) fun w F => ?_
  repeat' first | refine Go.seq ?_ | refine Go.region rfl ?_ | refine Ops.nil ?_ | refine Ops.val eF rfl rfl (by first | exact Want.no rfl | exact Want.tT rfl rfl rfl rfl | exact Want.fF rfl rfl rfl rfl) (by first | exact Hop.move rfl rfl | exact Hop.assign rfl rfl | exact Hop.pickT rfl rfl rfl | exact Hop.pickF rfl rfl rfl | exact Hop.lss rfl rfl rfl | exact Hop.leq rfl rfl rfl | exact Hop.geq rfl rfl rfl | exact Hop.eql rfl rfl rfl | exact Hop.eqS rfl rfl rfl | exact Hop.faR eF rfl rfl rfl rfl rfl rfl rfl | exact Hop.ldR eF rfl rfl rfl rfl rfl | exact Hop.lenS eF rfl rfl rfl rfl rfl rfl rfl) ?_ | refine Ops.skip rfl rfl (by first | exact Want.fT rfl rfl rfl rfl | exact Want.tF rfl rfl rfl rfl | exact Want.und rfl rfl rfl rfl) ?_ | refine Ops.gP rfl rfl (fun _ => ?_) (fun _ => ?_) | refine Ops.call eF rfl rfl (by first | exact Want.no rfl | exact Want.tT rfl rfl rfl rfl | exact Want.fF rfl rfl rfl rfl) rfl rfl rfl rfl (k39 _ hv) rfl ?_ | refine Ops.boxR eF rfl rfl (by first | exact Want.no rfl | exact Want.tT rfl rfl rfl rfl | exact Want.fF rfl rfl rfl rfl) rfl rfl rfl rfl ?_ | refine Go.condT rfl ?_ | refine Go.condPt rfl (fun _ => ?_) (fun _ => ?_) | refine Go.block ?_ | refine Go.unblk ?_ | refine Go.skip ?_ | refine Go.retF rfl ?_ rfl
  all_goals try simp only [show (({ data := #[] } : ByteArray).data.toList : List UInt8) = [] from rfl] at *
  all_goals first
    | (refine out_t ?_; simp [VaP, *]; done)
    | (refine out_f ?_; simp [VaP, *]; done)
    | (refine out_e ?_; simp [VaP, *]; done)
    | (refine out_e ?_; simp [VaP, *]; omega)
end Go.Px.Fs
end
/- FsE -/
section
set_option linter.unusedVariables false
set_option linter.unusedSimpArgs false
set_option maxHeartbeats 4000000
set_option maxRecDepth 20000
namespace Go.Px.Fs
open Go.Proofs
theorem k54 (s : List UInt8) (hs : s.length ≤ 100000) : KOk cF 125 [sA s] (.bool (bd (WordP s))) := by
  refine KOk.of cF_ok eF.g Try.func125 rfl (Nat.le_of_ble_eq_true rfl) fun w F => ?_
  repeat' first | refine Go.seq ?_ | refine Go.region rfl ?_ | refine Ops.nil ?_ | refine Ops.val eF rfl rfl (by first | exact Want.no rfl | exact Want.tT rfl rfl rfl rfl | exact Want.fF rfl rfl rfl rfl) (by first | exact Hop.move rfl rfl | exact Hop.assign rfl rfl | exact Hop.lenD eF rfl rfl rfl rfl rfl rfl rfl) ?_ | refine Ops.bytes eF rfl rfl (by first | exact Want.no rfl | exact Want.tT rfl rfl rfl rfl | exact Want.fF rfl rfl rfl rfl) rfl rfl rfl rfl rfl rfl rfl rfl ?_ | refine Go.block ?_
  refine Go.loop (fun i : Nat => [(0, sA s), (6, dsl 1 encU s), (7, .int .i64 s.length), (8, .int .i64 i)]) (fun _ => hS) (fun i => i ≤ s.length ∧ ∀ j, j < i → WoC (byt s j) ∧ (97 ≤ byt s 0 ∧ byt s 0 ≤ 122)) (fun i => s.length - i) 0 ⟨by omega, fun j hj => by omega⟩ ⟨rfl, rfl, rfl, rfl, trivial⟩ rfl (fun i hP ih => ?_)
  obtain ⟨hi, hn⟩ := hP
  repeat' first | refine Go.seq ?_ | refine Go.region rfl ?_ | refine Ops.nil ?_ | refine Ops.val eF rfl rfl (by first | exact Want.no rfl | exact Want.tT rfl rfl rfl rfl | exact Want.fF rfl rfl rfl rfl) (by first | exact Hop.move rfl rfl | exact Hop.assign rfl rfl | exact Hop.pickT rfl rfl rfl | exact Hop.pickF rfl rfl rfl | exact Hop.lss rfl rfl rfl | exact Hop.leq rfl rfl rfl | exact Hop.gtr rfl rfl rfl | exact Hop.geq rfl rfl rfl | exact Hop.eql rfl rfl rfl | exact Hop.add rfl rfl rfl (by omega) | exact Hop.idx eF rfl rfl rfl rfl rfl rfl rfl (fun _ => rfl) (by omega) | exact Hop.ldR eF rfl rfl rfl rfl rfl | exact Hop.lenS eF rfl rfl rfl rfl rfl rfl rfl) ?_ | refine Ops.skip rfl rfl (by first | exact Want.fT rfl rfl rfl rfl | exact Want.tF rfl rfl rfl rfl | exact Want.und rfl rfl rfl rfl) ?_ | refine Ops.gP rfl rfl (fun _ => ?_) (fun _ => ?_) | refine Go.condT rfl ?_ | refine Go.condF rfl ?_ | refine Go.condPt rfl (fun _ => ?_) (fun _ => ?_) | refine Go.block ?_ | refine Go.unblk ?_ | refine Go.skip ?_ | refine Go.exit rfl ?_ | refine Go.retF rfl ?_ rfl
  all_goals try simp only [Int.toNat_natCast, show (default : UInt8) = 0 from rfl] at *
  all_goals first
    | (refine Go.to (ih (i + 1) ⟨by omega, fun j hj => ?_⟩ (by omega)) ⟨rfl, rfl, rfl, rfl, trivial⟩
       rcases Nat.eq_zero_or_pos i with rfl | h0
       · have : j = 0 := by omega
         subst this
         unfold WoC byt; omega
       · refine ⟨?_, (hn 0 (by omega)).2⟩
         rcases lt_succ_cases hj with h | rfl
         · exact (hn j h).1
         · unfold WoC byt; omega)
    | (rw [bd_no (p := WordP s) (fun h => by
         have h1 := h.1
         have h2 := h.2.1
         omega)]; rfl)
    | (rw [bd_no (p := WordP s) (fun h => by
         have h1 := h.2.2.1
         have h2 := h.2.2.2 i (by omega)
         rcases Nat.eq_zero_or_pos i with rfl | h0 <;> unfold WoC byt at * <;> omega)]; rfl)
    | (rw [bd_eq (q := WordP s) ⟨fun h => ⟨by omega, by omega, (hn 0 (by omega)).2, fun j hj => (hn j (by omega)).1⟩, fun h => by have := h.2.1; omega⟩]; rfl)
end Go.Px.Fs
end
/- FsI -/
section
set_option linter.unusedVariables false
set_option linter.unusedSimpArgs false
set_option maxHeartbeats 4000000
set_option maxRecDepth 20000
namespace Go.Px.Fs
open Go.Proofs
theorem k52 (v : Va) (hv : v.s.length ≤ 100000) : KOk cF 102 [.agg (encVa v)] (.bool (bd (VaP v))) := by
  refine KOk.of cF_ok eF.g Try.func102 rfl (Nat.le_of_ble_eq_true rfl) fun w F => ?_
  repeat' first | refine Go.seq ?_ | refine Go.region rfl ?_ | refine Ops.nil ?_ | refine Ops.val eF rfl rfl (by first | exact Want.no rfl | exact Want.tT rfl rfl rfl rfl | exact Want.fF rfl rfl rfl rfl) (by first | exact Hop.move rfl rfl | exact Hop.assign rfl rfl | exact Hop.pickT rfl rfl rfl | exact Hop.pickF rfl rfl rfl | exact Hop.lss rfl rfl rfl | exact Hop.leq rfl rfl rfl | exact Hop.gtr rfl rfl rfl | exact Hop.geq rfl rfl rfl | exact Hop.eql rfl rfl rfl | exact Hop.eqS rfl rfl rfl | exact Hop.faR eF rfl rfl rfl rfl rfl rfl rfl | exact Hop.ldR eF rfl rfl rfl rfl rfl | exact Hop.lenS eF rfl rfl rfl rfl rfl rfl rfl) ?_ | refine Ops.skip rfl rfl (by first | exact Want.fT rfl rfl rfl rfl | exact Want.tF rfl rfl rfl rfl | exact Want.und rfl rfl rfl rfl) ?_ | refine Ops.gP rfl rfl (fun _ => ?_) (fun _ => ?_) | refine Ops.call eF rfl rfl (by first | exact Want.no rfl | exact Want.tT rfl rfl rfl rfl | exact Want.fF rfl rfl rfl rfl) rfl rfl rfl rfl (k54 _ hv) rfl ?_ | refine Ops.boxR eF rfl rfl (by first | exact Want.no rfl | exact Want.tT rfl rfl rfl rfl | exact Want.fF rfl rfl rfl rfl) rfl rfl rfl rfl ?_ | refine Go.condT rfl ?_ | refine Go.condPt rfl (fun _ => ?_) (fun _ => ?_) | refine Go.block ?_ | refine Go.unblk ?_ | refine Go.skip ?_ | refine Go.exit rfl ?_ | refine Go.retF rfl ?_ rfl
  all_goals try simp only [show (({ data := #[] } : ByteArray).data.toList : List UInt8) = [] from rfl] at *
  all_goals first
    | (refine out_t ?_; simp [VaP, *]; done)
    | (refine out_f ?_; simp [VaP, *]; done)
    | (refine out_e ?_; simp [VaP, *]; done)
    | (refine out_f ?_; simp [VaP, *]; omega)
    | (refine out_e ?_; simp [VaP, *]; omega)
theorem k49 (v : Va) (hv : v.s.length ≤ 100000) : KOk cF 79 [.agg (encVa v)] (.int .i64 (bif bd (VaP v) then 0 else 10)) := by
  refine KOk.of cF_ok eF.g Try.func79 rfl (Nat.le_of_ble_eq_true rfl) fun w F => ?_
  repeat' first | refine Go.seq ?_ | refine Go.region rfl ?_ | refine Ops.nil ?_ | refine Ops.val eF rfl rfl (by first | exact Want.no rfl | exact Want.tT rfl rfl rfl rfl | exact Want.fF rfl rfl rfl rfl) (by first | exact Hop.assign rfl rfl | exact Hop.not rfl rfl | exact Hop.ldRG eF rfl rfl rfl rfl rfl) ?_ | refine Ops.call eF rfl rfl (by first | exact Want.no rfl | exact Want.tT rfl rfl rfl rfl | exact Want.fF rfl rfl rfl rfl) rfl rfl rfl rfl (k52 _ hv) rfl ?_ | refine Ops.boxR eF rfl rfl (by first | exact Want.no rfl | exact Want.tT rfl rfl rfl rfl | exact Want.fF rfl rfl rfl rfl) rfl rfl rfl rfl ?_ | refine Go.condNt rfl (fun _ => ?_) (fun _ => ?_) | refine Go.skip ?_ | refine Go.retF rfl ?_ rfl
  all_goals first | (rw [bd_of (by assumption)]; rfl) | (rw [bd_no (by assumption)]; rfl)
end Go.Px.Fs
end
/- FsF -/
section
set_option linter.unusedVariables false
set_option linter.unusedSimpArgs false
set_option maxHeartbeats 4000000
set_option maxRecDepth 20000
namespace Go.Px.Fs
open Go.Proofs
theorem f53 : Extern.find Try.f140 = some Extern.BytealgCompare.compare := by kernel_rfl
theorem k53 (a b : List UInt8) : KOk cF 140 [sA a, sA b] (.int .i64 (Lib.compareBytes a b)) :=
  KOk.cmp (fn := Try.f140) Try.func140 (by kernel_rfl) (by kernel_rfl) (by kernel_rfl) f53 a b
theorem k51 (a b : List UInt8) : KOk cF 138 [sA a, sA b] (.int .i64 (Lib.compareBytes a b)) := by
  refine KOk.of cF_ok eF.g Try.func138 rfl (Nat.le_of_ble_eq_true rfl) fun w F => ?_
  repeat' first | refine Go.seq ?_ | refine Go.region rfl ?_ | refine Ops.nil ?_ | refine Ops.val eF rfl rfl (by first | exact Want.no rfl | exact Want.tT rfl rfl rfl rfl | exact Want.fF rfl rfl rfl rfl) (by first | exact Hop.move rfl rfl | exact Hop.assign rfl rfl) ?_ | refine Ops.call eF rfl rfl (by first | exact Want.no rfl | exact Want.tT rfl rfl rfl rfl | exact Want.fF rfl rfl rfl rfl) rfl rfl rfl rfl (k53 _ _) rfl ?_ | refine Go.retF rfl ?_ rfl
  all_goals rfl
theorem k45 (a b : List UInt8) : KOk cF 129 [sA a, sA b] (.int .i64 (Lib.compareBytes a b)) := by
  refine KOk.of cF_ok eF.g Try.func129 rfl (Nat.le_of_ble_eq_true rfl) fun w F => ?_
  repeat' first | refine Go.seq ?_ | refine Go.region rfl ?_ | refine Ops.nil ?_ | refine Ops.val eF rfl rfl (by first | exact Want.no rfl | exact Want.tT rfl rfl rfl rfl | exact Want.fF rfl rfl rfl rfl) (by first | exact Hop.move rfl rfl | exact Hop.assign rfl rfl) ?_ | refine Ops.call eF rfl rfl (by first | exact Want.no rfl | exact Want.tT rfl rfl rfl rfl | exact Want.fF rfl rfl rfl rfl) rfl rfl rfl rfl (k51 _ _) rfl ?_ | refine Go.retF rfl ?_ rfl
  all_goals rfl
/-- the first that is not 0 -/
def orI : List Int → Int
  | [] => 0
  | x :: l => if x = 0 then orI l else x
theorem orI_at : ∀ {l : List Int} {i : Nat}, i < l.length → (∀ j, j < i → l.getD j default = 0) → l.getD i default ≠ 0 → orI l = l.getD i default
  | [], i, h, _, _ => by simp at h
  | x :: l, 0, _, _, h => by
    have h : x ≠ 0 := by simpa using h
    simp [orI, h]
  | x :: l, i + 1, h1, h2, h3 => by
    have hx : x = 0 := by simpa using h2 0 (by omega)
    have := orI_at (l := l) (i := i) (by simpa using h1) (fun j hj => by simpa using h2 (j + 1) (by omega)) (by simpa using h3)
    simp only [orI, hx, if_pos]
    rw [this]; rfl
theorem orI_0 : ∀ {l : List Int}, (∀ j, j < l.length → l.getD j default = 0) → orI l = 0
  | [], _ => rfl
  | x :: l, h => by
    have hx : x = 0 := by simpa using h 0 (by simp)
    simp only [orI, hx, if_pos]
    exact orI_0 fun j hj => by simpa using h (j + 1) (by simpa using hj)
theorem k34 (l : List Int) (hl : l.length ≤ 100000) : KOk cF 122 [dsl 1 encI l] (.int .i64 (orI l)) := by
  refine KOk.of cF_ok eF.g Try.func122 rfl (Nat.le_of_ble_eq_true rfl) fun w F => ?_
  repeat' first | refine Go.seq ?_ | refine Go.region rfl ?_ | refine Ops.nil ?_ | refine Ops.val eF rfl rfl (by first | exact Want.no rfl | exact Want.tT rfl rfl rfl rfl | exact Want.fF rfl rfl rfl rfl) (by first | exact Hop.move rfl rfl | exact Hop.assign rfl rfl | exact Hop.lenD eF rfl rfl rfl rfl rfl rfl rfl) ?_ | refine Go.block ?_
  refine Go.loop (fun i : Nat => [(8, .int .i64 i), (7, .int .i64 l.length), (6, dsl 1 encI l), (3, .int .i64 0)]) (fun _ => hS) (fun i => i ≤ l.length ∧ ∀ j, j < i → l.getD j default = 0) (fun i => l.length - i) 0 ⟨by omega, fun j hj => by omega⟩ ⟨rfl, rfl, rfl, rfl, trivial⟩ rfl (fun i hP ih => ?_)
  obtain ⟨hi, hn⟩ := hP
  repeat' first | refine Go.seq ?_ | refine Go.region rfl ?_ | refine Ops.nil ?_ | refine Ops.val eF rfl rfl (by first | exact Want.no rfl | exact Want.tT rfl rfl rfl rfl | exact Want.fF rfl rfl rfl rfl) (by first | exact Hop.move rfl rfl | exact Hop.assign rfl rfl | exact Hop.lss rfl rfl rfl | exact Hop.neq rfl rfl rfl | exact Hop.add rfl rfl rfl (by omega) | exact Hop.idx eF rfl rfl rfl rfl rfl rfl rfl (fun _ => rfl) (by omega) | exact Hop.ldR eF rfl rfl rfl rfl rfl) ?_ | refine Go.condPt rfl (fun _ => ?_) (fun _ => ?_) | refine Go.condNt rfl (fun _ => ?_) (fun _ => ?_) | refine Go.block ?_ | refine Go.unblk ?_ | refine Go.skip ?_ | refine Go.exit rfl ?_ | refine Go.retF rfl ?_ rfl
  all_goals try simp only [Int.toNat_natCast] at *
  · rw [orI_at (i := i) (by omega) hn (by assumption)]; rfl
  · refine Go.to (ih (i + 1) ⟨by omega, fun j hj => ?_⟩ (by omega)) ⟨rfl, rfl, rfl, rfl, trivial⟩
    rcases lt_succ_cases hj with h | rfl
    · exact hn j h
    · assumption
  · rw [orI_0 (fun j hj => hn j (by omega))]; rfl
end Go.Px.Fs
end
/- FsG -/
section
set_option linter.unusedVariables false
set_option linter.unusedSimpArgs false
set_option maxHeartbeats 4000000
set_option maxRecDepth 20000
namespace Go.Px.Fs
open Go.Proofs
/-- how two values stand -/
noncomputable def cmpVa (a b : Va) : Int := orI [cmpI a.k b.k, cmpI a.n b.n, Lib.compareBytes a.s b.s]
theorem cmpB_at : ∀ {a b : List UInt8} {i : Nat}, i < a.length → i < b.length → (∀ j, j < i → a.getD j 0 = b.getD j 0) →
    Lib.compareBytes a b = if a.getD i 0 < b.getD i 0 then -1 else if b.getD i 0 < a.getD i 0 then 1 else Lib.compareBytes (a.drop (i + 1)) (b.drop (i + 1))
  | [], _, _, h, _, _ => by simp at h
  | _ :: _, [], _, _, h, _ => by simp at h
  | x :: a, y :: b, 0, _, _, _ => by simp [Lib.compareBytes]
  | x :: a, y :: b, i + 1, h1, h2, h3 => by
    have hx : x = y := by simpa using h3 0 (by omega)
    subst hx
    have := cmpB_at (a := a) (b := b) (i := i) (by simpa using h1) (by simpa using h2) (fun j hj => by simpa using h3 (j + 1) (by omega))
    simp only [Lib.compareBytes, List.getD_cons_succ, List.drop_succ_cons]
    rw [if_neg (by simp [UInt8.lt_irrefl]), if_neg (by simp [UInt8.lt_irrefl]), this]
theorem cmpB_end : ∀ {a b : List UInt8}, (∀ j, j < a.length → j < b.length → a.getD j 0 = b.getD j 0) → Lib.compareBytes a b = if a.length < b.length then -1 else if b.length < a.length then 1 else 0
  | [], [], _ => by simp [Lib.compareBytes]
  | [], _ :: _, _ => by simp [Lib.compareBytes]
  | _ :: _, [], _ => by simp [Lib.compareBytes]
  | x :: a, y :: b, h => by
    have hx : x = y := by simpa using h 0 (by simp) (by simp)
    subst hx
    have := cmpB_end (a := a) (b := b) (fun j h1 h2 => by simpa using h (j + 1) (by simpa using h1) (by simpa using h2))
    simp only [Lib.compareBytes, List.length_cons]
    rw [if_neg (by simp [UInt8.lt_irrefl]), if_neg (by simp [UInt8.lt_irrefl]), this]
    simp
theorem byt_lt {a b : List UInt8} {i : Nat} : byt a i < byt b i ↔ a.getD i 0 < b.getD i 0 := by
  unfold byt
  rw [UInt8.lt_iff_toNat_lt]; omega
theorem byt_eq {a b : List UInt8} {i : Nat} (h1 : ¬ byt a i < byt b i) (h2 : ¬ byt b i < byt a i) : a.getD i 0 = b.getD i 0 := by
  apply UInt8.toNat_inj.1
  unfold byt at h1 h2; omega
theorem orI3 (x y z : Int) : orI [x, y, z] = if x = 0 then (if y = 0 then z else y) else x := by
  simp only [orI]
  by_cases h : z = 0 <;> simp [h]
noncomputable def r77_0 : List Oper := ((drawn (Try.f77.body.getD .skip))[0]?).getD []
theorem dr77_0 : chkOrd cF r77_0 [0, 1, 2, 3, 4, 5, 6, 7, 8] = true := by kernel_rfl
noncomputable def r77_1 : List Oper := ((drawn (Try.f77.body.getD .skip))[1]?).getD []
theorem dr77_1 : chkOrd cF r77_1 [0, 1, 2, 3, 4, 5, 6, 7, 8] = true := by kernel_rfl
theorem k30 (a b : Va) (ha : a.s.length ≤ 100000) (hb : b.s.length ≤ 100000) : KOk cF 77 [.agg (encVa a), .agg (encVa b)] (.int .i64 (cmpVa a b)) := by
  refine KOk.of cF_ok eF.g Try.func77 rfl (Nat.le_of_ble_eq_true rfl) fun w F => ?_
  unfold cmpVa
  rw [orI3]
  repeat' first | refine Go.seq ?_ | refine Go.region rfl ?_ | refine Ops.nil ?_ | refine Ops.val eF rfl rfl (by first | exact Want.no rfl | exact Want.tT rfl rfl rfl rfl | exact Want.fF rfl rfl rfl rfl) (by first | exact Hop.assign rfl rfl | exact Hop.lss rfl rfl rfl | exact Hop.gtr rfl rfl rfl | exact Hop.faR eF rfl rfl rfl rfl rfl rfl rfl | exact Hop.ldR eF rfl rfl rfl rfl rfl) ?_ | refine Ops.boxR eF rfl rfl (by first | exact Want.no rfl | exact Want.tT rfl rfl rfl rfl | exact Want.fF rfl rfl rfl rfl) rfl rfl rfl rfl ?_ | refine Go.condPt rfl (fun _ => ?_) (fun _ => ?_) | refine Go.block ?_ | refine Go.skip ?_ | refine Go.retF rfl ?_ rfl
  · simp [one, ofV, ofV0, cmpI, *]
  · simp [one, ofV, ofV0, cmpI, *]
  · simp [one, ofV, ofV0, cmpI, *]
  · simp [one, ofV, ofV0, cmpI, *]
  rename_i h1 h2 h3 h4
  have hk : cmpI a.k b.k = 0 := by simp [cmpI, *]
  have hn : cmpI a.n b.n = 0 := by simp [cmpI, *]
  rw [if_pos hk, if_pos hn]
  refine Go.loop (fun i : Nat => [(2, .rptr (encVa a)), (3, .rptr (encVa b)), (5, .int .i64 i)]) (fun _ => hS) (fun i => i ≤ a.s.length ∧ i ≤ b.s.length ∧ ∀ j, j < i → a.s.getD j 0 = b.s.getD j 0) (fun i => a.s.length - i) 0 ⟨by omega, by omega, fun j hj => by omega⟩ ⟨rfl, rfl, rfl, trivial⟩ rfl (fun i hP ih => ?_)
  obtain ⟨hia, hib, hq⟩ := hP
  repeat' first | refine Go.seq ?_ | refine Go.region rfl ?_ | refine Ops.nil ?_ | refine Ops.val eF rfl rfl (by first | exact Want.no rfl | exact Want.tT rfl rfl rfl rfl | exact Want.fF rfl rfl rfl rfl) (by first | exact Hop.move rfl rfl | exact Hop.assign rfl rfl | exact Hop.pickT rfl rfl rfl | exact Hop.pickF rfl rfl rfl | exact Hop.lss rfl rfl rfl | exact Hop.gtr rfl rfl rfl | exact Hop.faR eF rfl rfl rfl rfl rfl rfl rfl | exact Hop.ldR eF rfl rfl rfl rfl rfl | exact Hop.lenS eF rfl rfl rfl rfl rfl rfl rfl) ?_ | refine Ops.skip rfl rfl (by first | exact Want.fT rfl rfl rfl rfl | exact Want.tF rfl rfl rfl rfl | exact Want.und rfl rfl rfl rfl) ?_ | refine Ops.gP rfl rfl (fun _ => ?_) (fun _ => ?_) | refine Go.condF rfl ?_ | refine Go.condPt rfl (fun _ => ?_) (fun _ => ?_) | refine Go.block ?_ | refine Go.skip ?_ | refine Go.exit rfl ?_ | refine Go.retF rfl ?_ rfl
  · refine Go.draw eF hm [] [0, 1, 2, 3, 4, 5, 6, 7, 8] dr77_0 ?_
    repeat' first | refine Dr.nil ?_ | refine Dr.pure rfl rfl rfl rfl (by first | exact Want.no rfl | exact Want.tT rfl rfl rfl rfl | exact Want.fF rfl rfl rfl rfl) (by first | exact Hop.move rfl rfl | exact Hop.lss rfl rfl rfl | exact Hop.faR eF rfl rfl rfl rfl rfl rfl rfl | exact Hop.sidx eF rfl rfl rfl rfl rfl (by omega) | exact Hop.ldR eF rfl rfl rfl rfl rfl) ?_ | refine Dr.light rfl rfl rfl rfl (by first | exact Want.no rfl | exact Want.tT rfl rfl rfl rfl | exact Want.fF rfl rfl rfl rfl) (by first | exact Hop.ldR eF rfl rfl rfl rfl rfl) ?_
    repeat' first | refine Go.seq ?_ | refine Go.region rfl ?_ | refine Ops.nil ?_ | refine Ops.val eF rfl rfl (by first | exact Want.no rfl | exact Want.tT rfl rfl rfl rfl | exact Want.fF rfl rfl rfl rfl) (by first | exact Hop.assign rfl rfl) ?_ | refine Go.condPt rfl (fun _ => ?_) (fun _ => ?_) | refine Go.skip ?_ | refine Go.retF rfl ?_ rfl
    · rename_i q1 q2 q3
      have q3 : byt a.s i < byt b.s i := q3
      rw [cmpB_at (i := i) (by omega) (by omega) hq, if_pos (byt_lt.1 q3)]; rfl
    · refine Go.draw eF hm [] [0, 1, 2, 3, 4, 5, 6, 7, 8] dr77_1 ?_
      repeat' first | refine Dr.nil ?_ | refine Dr.pure rfl rfl rfl rfl (by first | exact Want.no rfl | exact Want.tT rfl rfl rfl rfl | exact Want.fF rfl rfl rfl rfl) (by first | exact Hop.move rfl rfl | exact Hop.gtr rfl rfl rfl | exact Hop.faR eF rfl rfl rfl rfl rfl rfl rfl | exact Hop.sidx eF rfl rfl rfl rfl rfl (by omega) | exact Hop.ldR eF rfl rfl rfl rfl rfl) ?_ | refine Dr.light rfl rfl rfl rfl (by first | exact Want.no rfl | exact Want.tT rfl rfl rfl rfl | exact Want.fF rfl rfl rfl rfl) (by first | exact Hop.ldR eF rfl rfl rfl rfl rfl) ?_
      repeat' first | refine Go.seq ?_ | refine Go.region rfl ?_ | refine Ops.nil ?_ | refine Ops.val eF rfl rfl (by first | exact Want.no rfl | exact Want.tT rfl rfl rfl rfl | exact Want.fF rfl rfl rfl rfl) (by first | exact Hop.move rfl rfl | exact Hop.assign rfl rfl | exact Hop.add rfl rfl rfl (by omega)) ?_ | refine Go.condPt rfl (fun _ => ?_) (fun _ => ?_) | refine Go.unblk ?_ | refine Go.skip ?_ | refine Go.retF rfl ?_ rfl
      · rename_i q1 q2 q3 q4
        have q3 : ¬ byt a.s i < byt b.s i := q3
        have q4 : byt b.s i < byt a.s i := q4
        rw [cmpB_at (i := i) (by omega) (by omega) hq, if_neg (fun h => q3 (byt_lt.2 h)), if_pos (byt_lt.1 q4)]; rfl
      · rename_i q1 q2 q3 q4
        refine Go.to (ih (i + 1) ⟨by omega, by omega, fun j hj => ?_⟩ (by omega)) ⟨rfl, rfl, rfl, trivial⟩
        rcases lt_succ_cases hj with h | rfl
        · exact hq j h
        · exact byt_eq q3 q4
  all_goals
    rw [cmpB_end (fun j h1 h2 => hq j (by omega))]
    first
      | (rw [if_pos (by omega)]; rfl)
      | (rw [if_neg (by omega), if_pos (by omega)]; rfl)
      | (rw [if_neg (by omega), if_neg (by omega)]; rfl)
end Go.Px.Fs
end
/- FsJ -/
section
set_option linter.unusedVariables false
set_option linter.unusedSimpArgs false
set_option maxHeartbeats 4000000
set_option maxRecDepth 20000
namespace Go.Px.Fs
open Go.Proofs
theorem sA_eq {a b : List UInt8} (h : sA a = sA b) : a = b := by
  unfold sA at h
  have h : a.map UInt8.toNat = b.map UInt8.toNat := by injection h
  exact List.map_inj_right (fun x y q => UInt8.toNat_inj.1 q) |>.1 h
theorem int_eq {k : IntKind} {a b : Int} (h : AV.int k a = AV.int k b) : a = b := by injection h
theorem cons_eq {a b : AV} {l m : List AV} (h : a :: l = b :: m) : a = b ∧ l = m := by injection h with h1 h2; exact ⟨h1, h2⟩
theorem agg_eq {l m : List AV} (h : AV.agg l = AV.agg m) : l = m := by injection h
theorem encVa_eq {a b : Va} (h : encVa a = encVa b) : a = b := by
  obtain ⟨k, n, s⟩ := a; obtain ⟨k', n', s'⟩ := b
  obtain ⟨h1, h⟩ := cons_eq h
  obtain ⟨h2, h⟩ := cons_eq h
  obtain ⟨h3, h⟩ := cons_eq h
  have h1 := int_eq h1; have h2 := int_eq h2; have h3 := sA_eq h3
  subst h1; subst h2; subst h3; rfl
theorem pair_eq {x y u v : AV} (h : [x, y] = [u, v]) : x = u ∧ y = v := by
  obtain ⟨h1, h⟩ := cons_eq h
  exact ⟨h1, (cons_eq h).1⟩
noncomputable def n44 : Ent cF := ⟨128, Int × Int, fun p => [.int .i64 p.1, .int .i64 p.2], fun p => .int .i64 (cmpI p.1 p.2), fun p => k44 _ _, fun _ => rfl, fun a b h => by
  have h := pair_eq h; rw [int_eq h.1, int_eq h.2]⟩
noncomputable def n35 : Ent cF := ⟨110, Int × Int, fun p => [.int .i64 p.1, .int .i64 p.2], fun p => .int .i64 (cmpI p.1 p.2), fun p => k35 _ _, fun _ => rfl, fun a b h => by
  have h := pair_eq h; rw [int_eq h.1, int_eq h.2]⟩
noncomputable def n45 : Ent cF := ⟨129, List UInt8 × List UInt8, fun p => [sA p.1, sA p.2], fun p => .int .i64 (Lib.compareBytes p.1 p.2), fun p => k45 _ _, fun _ => rfl, fun a b h => by
  have h := pair_eq h; rw [sA_eq h.1, sA_eq h.2]⟩
noncomputable def r109_0 : List Oper := ((drawn (Try.f109.body.getD .skip))[0]?).getD []
theorem drS109_0 : chkOrdS cF r109_0 15 = true := by kernel_rfl
theorem k36 (a b : Va) : KOk cF 109 [.agg (encVa a), .agg (encVa b)] (.int .i64 (cmpVa a b)) := by
  refine KOk.of cF_ok eF.g Try.func109 rfl (Nat.le_of_ble_eq_true rfl) fun w F => ?_
  unfold cmpVa
  repeat' first | refine Go.seq ?_ | refine Go.region rfl ?_ | refine Ops.nil ?_ | refine Ops.val eF rfl rfl (by first | exact Want.no rfl | exact Want.tT rfl rfl rfl rfl | exact Want.fF rfl rfl rfl rfl) (by first | exact Hop.assign rfl rfl) ?_ | refine Ops.boxR eF rfl rfl (by first | exact Want.no rfl | exact Want.tT rfl rfl rfl rfl | exact Want.fF rfl rfl rfl rfl) rfl rfl rfl rfl ?_
  refine Go.drawS2 eF hm [n44, n35, n45] 15 [0, 1, 2, 3, 4, 5, 6, 7, 8, 9, 10, 11, 12, 13, 14] rfl drS109_0 ?_
  repeat' first | refine Dr.nil ?_ | refine Dr.pure rfl rfl rfl rfl (by first | exact Want.no rfl | exact Want.tT rfl rfl rfl rfl | exact Want.fF rfl rfl rfl rfl) (by first | exact Hop.faR eF rfl rfl rfl rfl rfl rfl rfl | exact Hop.ldR eF rfl rfl rfl rfl rfl) ?_ | refine Dr.light rfl rfl rfl rfl (by first | exact Want.no rfl | exact Want.tT rfl rfl rfl rfl | exact Want.fF rfl rfl rfl rfl) (by first | exact Hop.ldR eF rfl rfl rfl rfl rfl) ?_ | refine Dr.call rfl rfl rfl rfl (by first | exact Want.no rfl | exact Want.tT rfl rfl rfl rfl | exact Want.fF rfl rfl rfl rfl) rfl rfl rfl rfl (by first | exact pans_hd (_, _) rfl rfl | exact pans_tl rfl (pans_hd (_, _) rfl rfl) | exact pans_tl rfl (pans_tl rfl (pans_hd (_, _) rfl rfl))) ?_
  all_goals refine Go.suf rfl ?_
  repeat' first | refine Ops.nil ?_ | refine Ops.val eF rfl rfl (by first | exact Want.no rfl | exact Want.tT rfl rfl rfl rfl | exact Want.fF rfl rfl rfl rfl) (by first | exact Hop.assign rfl rfl) ?_ | refine Ops.call eF rfl rfl (by first | exact Want.no rfl | exact Want.tT rfl rfl rfl rfl | exact Want.fF rfl rfl rfl rfl) rfl rfl rfl rfl (k34 [_, _, _] (by simp)) rfl ?_ | refine Ops.data eF rfl rfl (by first | exact Want.no rfl | exact Want.tT rfl rfl rfl rfl | exact Want.fF rfl rfl rfl rfl) rfl (Hop.bslice eF rfl rfl rfl rfl rfl rfl rfl rfl rfl rfl rfl) rfl rfl ?_ | refine Go.retF rfl ?_ rfl
  rfl
noncomputable def n36 : Ent cF := ⟨109, Va × Va, fun p => [.agg (encVa p.1), .agg (encVa p.2)], fun p => .int .i64 (cmpVa p.1 p.2), fun p => k36 _ _, fun _ => rfl, fun a b h => by
  have h := pair_eq h; rw [encVa_eq (agg_eq h.1), encVa_eq (agg_eq h.2)]⟩
/-- how two facts stand -/
noncomputable def cmpFa (a b : Fa) : Int := orI [cmpI a.e b.e, cmpI a.a b.a, cmpVa a.v b.v]
noncomputable def r94_0 : List Oper := ((drawn (Try.f94.body.getD .skip))[0]?).getD []
theorem drS94_0 : chkOrdS cF r94_0 15 = true := by kernel_rfl
theorem k22 (a b : Fa) : KOk cF 94 [.agg (encFa a), .agg (encFa b)] (.int .i64 (cmpFa a b)) := by
  refine KOk.of cF_ok eF.g Try.func94 rfl (Nat.le_of_ble_eq_true rfl) fun w F => ?_
  unfold cmpFa
  repeat' first | refine Go.seq ?_ | refine Go.region rfl ?_ | refine Ops.nil ?_ | refine Ops.val eF rfl rfl (by first | exact Want.no rfl | exact Want.tT rfl rfl rfl rfl | exact Want.fF rfl rfl rfl rfl) (by first | exact Hop.assign rfl rfl) ?_ | refine Ops.boxR eF rfl rfl (by first | exact Want.no rfl | exact Want.tT rfl rfl rfl rfl | exact Want.fF rfl rfl rfl rfl) rfl rfl rfl rfl ?_
  refine Go.drawS2 eF hm [n35, n36] 15 [0, 1, 2, 3, 4, 5, 6, 7, 8, 9, 10, 11, 12, 13, 14] rfl drS94_0 ?_
  repeat' first | refine Dr.nil ?_ | refine Dr.pure rfl rfl rfl rfl (by first | exact Want.no rfl | exact Want.tT rfl rfl rfl rfl | exact Want.fF rfl rfl rfl rfl) (by first | exact Hop.faR eF rfl rfl rfl rfl rfl rfl rfl | exact Hop.ldR eF rfl rfl rfl rfl rfl | exact Hop.ldRG eF rfl rfl rfl rfl rfl) ?_ | refine Dr.light rfl rfl rfl rfl (by first | exact Want.no rfl | exact Want.tT rfl rfl rfl rfl | exact Want.fF rfl rfl rfl rfl) (by first | exact Hop.ldR eF rfl rfl rfl rfl rfl | exact Hop.ldRG eF rfl rfl rfl rfl rfl) ?_ | refine Dr.call rfl rfl rfl rfl (by first | exact Want.no rfl | exact Want.tT rfl rfl rfl rfl | exact Want.fF rfl rfl rfl rfl) rfl rfl rfl rfl (by first | exact pans_hd (_, _) rfl rfl | exact pans_tl rfl (pans_hd (_, _) rfl rfl)) ?_
  all_goals refine Go.suf rfl ?_
  repeat' first | refine Ops.nil ?_ | refine Ops.val eF rfl rfl (by first | exact Want.no rfl | exact Want.tT rfl rfl rfl rfl | exact Want.fF rfl rfl rfl rfl) (by first | exact Hop.assign rfl rfl) ?_ | refine Ops.call eF rfl rfl (by first | exact Want.no rfl | exact Want.tT rfl rfl rfl rfl | exact Want.fF rfl rfl rfl rfl) rfl rfl rfl rfl (k34 [_, _, _] (by simp)) rfl ?_ | refine Ops.data eF rfl rfl (by first | exact Want.no rfl | exact Want.tT rfl rfl rfl rfl | exact Want.fF rfl rfl rfl rfl) rfl (Hop.bslice eF rfl rfl rfl rfl rfl rfl rfl rfl rfl rfl rfl) rfl rfl ?_ | refine Go.retF rfl ?_ rfl
  rfl
/-- may a datum be -/
def DaP (d : Da) : Prop := (0 ≤ d.e ∧ d.e < 9007199254740992) ∧ (0 ≤ d.a ∧ d.a < 9007199254740992) ∧ VaP d.v ∧ (1 ≤ d.t ∧ d.t ≤ 1099511627776) ∧ d.fr < d.to
end Go.Px.Fs
end
/- FsK -/
section
set_option linter.unusedVariables false
set_option linter.unusedSimpArgs false
set_option maxHeartbeats 4000000
set_option maxRecDepth 20000
namespace Go.Px.Fs
open Go.Proofs
/-- a number put in its place -/
def insI (x : Int) : List Int → List Int
  | [] => [x]
  | y :: l => if y < x then y :: insI x l else if y = x then y :: l else x :: y :: l
/-- the i-th end -/
def endAt (l : List Sp) (i : Nat) : Int := if i % 2 = 1 then (l.getD (i / 2) default).b else (l.getD (i / 2) default).a
/-- the first ends, in order -/
def endsN (l : List Sp) : Nat → List Int
  | 0 => []
  | i + 1 => insI (endAt l i) (endsN l i)
theorem insI_len (x : Int) : ∀ l : List Int, (insI x l).length ≤ l.length + 1
  | [] => by simp [insI]
  | y :: l => by
    have := insI_len x l
    unfold insI
    split
    · simp; omega
    · split <;> simp
theorem endsN_len (l : List Sp) : ∀ i, (endsN l i).length ≤ i
  | 0 => by simp [endsN]
  | i + 1 => by
    have := endsN_len l i
    have := insI_len (endAt l i) (endsN l i)
    unfold endsN; omega
theorem insI_hit {x : Int} : ∀ {l : List Int} {k : Nat}, k < l.length → (∀ j, j < k → l.getD j default < x) → l.getD k default = x → insI x l = l
  | [], k, h, _, _ => by simp at h
  | y :: l, 0, _, _, h => by
    have h : y = x := by simpa using h
    subst h
    simp [insI]
  | y :: l, k + 1, h1, h2, h3 => by
    have hy : y < x := by simpa using h2 0 (by omega)
    have := insI_hit (x := x) (l := l) (k := k) (by simpa using h1) (fun j hj => by simpa using h2 (j + 1) (by omega)) (by simpa using h3)
    unfold insI
    rw [if_pos hy, this]
theorem insI_put {x : Int} : ∀ {l : List Int} {k : Nat}, k ≤ l.length → (∀ j, j < k → l.getD j default < x) → (k < l.length → ¬ l.getD k default < x ∧ ¬ l.getD k default = x) → insI x l = l.take k ++ [x] ++ l.drop k
  | [], 0, _, _, _ => by simp [insI]
  | [], k + 1, h, _, _ => by simp at h
  | y :: l, 0, _, _, h => by
    have h := h (by simp)
    have h1 : ¬ y < x := by simpa using h.1
    have h2 : ¬ y = x := by simpa using h.2
    unfold insI
    rw [if_neg h1, if_neg h2]; rfl
  | y :: l, k + 1, h1, h2, h3 => by
    have hy : y < x := by simpa using h2 0 (by omega)
    have := insI_put (x := x) (l := l) (k := k) (by simpa using h1) (fun j hj => by simpa using h2 (j + 1) (by omega)) (fun hk => by simpa using h3 (by simpa using hk))
    unfold insI
    rw [if_pos hy, this]; rfl
theorem dsl3 {k : Nat} {x : Int} {o : List Int} (a c : Nat) (ha : a = (o.take k).length) (hc : c = (o.drop k).length) : AV.rsl (a + 1 + c) 1 ((o.take k).flatMap encI ++ encI x ++ (o.drop k).flatMap encI) = dsl 1 encI (o.take k ++ [x] ++ o.drop k) := by
  subst ha; subst hc
  simp [dsl, List.flatMap_append]; omega
end Go.Px.Fs
end
/- FsL -/
section
set_option linter.unusedVariables false
set_option linter.unusedSimpArgs false
set_option maxHeartbeats 4000000
set_option maxRecDepth 20000
namespace Go.Px.Fs
open Go.Proofs
/-- a span more -/
def addSp (o : List Sp) (x y : Int) : List Sp :=
  if 0 < o.length ∧ (o.getD (o.length - 1) default).b = x then o.set (o.length - 1) ⟨(o.getD (o.length - 1) default).a, y⟩ else o ++ [⟨x, y⟩]
/-- the ends of both -/
def endsAB (a b : List Sp) : List Int := endsN (a ++ b) (2 * (a ++ b).length)
open Classical in
/-- the spans found till the i-th end -/
noncomputable def ofN (a b : List Sp) : Nat → List Sp
  | 0 => []
  | i + 1 => if InP a ((endsAB a b).getD i default) ∧ ¬ InP b ((endsAB a b).getD i default) then addSp (ofN a b i) ((endsAB a b).getD i default) ((endsAB a b).getD (i + 1) default) else ofN a b i
theorem addSp_len (o : List Sp) (x y : Int) : (addSp o x y).length ≤ o.length + 1 := by
  unfold addSp; split <;> simp
theorem ofN_len (a b : List Sp) : ∀ i, (ofN a b i).length ≤ i
  | 0 => by simp [ofN]
  | i + 1 => by
    have := ofN_len a b i
    unfold ofN
    split
    · have := addSp_len (ofN a b i) ((endsAB a b).getD i default) ((endsAB a b).getD (i + 1) default); omega
    · omega
/-- what is in the one and not in the other -/
noncomputable def minusL (a b : List Sp) : List Sp := ofN a b ((endsAB a b).length - 1)
theorem dsl2 {α : Type} (z : Nat) (enc : α → List AV) (a b : List α) : AV.rsl (a.length + b.length) z (a.flatMap enc ++ b.flatMap enc) = dsl z enc (a ++ b) := by
  simp [dsl, List.flatMap_append]
theorem encSp_set (o : List Sp) (h : 0 < o.length) (y : Int) : encSp ⟨(o.getD (o.length - 1) default).a, y⟩ = (encSp (o.getD ((o.length : Int) - 1).toNat ⟨(o.getD (o.length - 1) default).a, y⟩)).set 1 (.int .i64 y) := by
  have e : ((o.length : Int) - 1).toNat = o.length - 1 := by omega
  rw [e]
  have q : ∀ d : Sp, o.getD (o.length - 1) d = o.getD (o.length - 1) default := fun d => by
    rw [List.getD_eq_getElem?_getD, List.getD_eq_getElem?_getD, List.getElem?_eq_getElem (by omega)]; rfl
  rw [q ⟨(o.getD (o.length - 1) default).a, y⟩]; rfl
theorem flat1 (o : List Sp) (x : Sp) : (o ++ [x]).flatMap encSp = o.flatMap encSp ++ encSp x := by simp
end Go.Px.Fs
end
/- FsM -/
section
set_option linter.unusedVariables false
set_option linter.unusedSimpArgs false
set_option maxHeartbeats 4000000
set_option maxRecDepth 20000
namespace Go.Px.Fs
open Go.Proofs
/-- a span more, if it is one -/
def gapSp (o : List Sp) (f t : Int) : List Sp := if f < t then o ++ [⟨f, t⟩] else o
/-- the gaps in front of the i-th span, and where the next one begins -/
def gapN (l : List Sp) : Nat → List Sp × Int
  | 0 => ([], -9223372036854775808)
  | i + 1 => (gapSp (gapN l i).1 (gapN l i).2 (l.getD i default).a, (l.getD i default).b)
/-- what lies outside -/
def restL (l : List Sp) : List Sp := gapSp (gapN l l.length).1 (gapN l l.length).2 9223372036854775807
theorem gapSp_len (o : List Sp) (f t : Int) : (gapSp o f t).length ≤ o.length + 1 := by
  unfold gapSp; split <;> simp
theorem gapN_len (l : List Sp) : ∀ i, (gapN l i).1.length ≤ i
  | 0 => by simp [gapN]
  | i + 1 => by
    have := gapN_len l i
    have := gapSp_len (gapN l i).1 (gapN l i).2 (l.getD i default).a
    unfold gapN; simp only []; omega
def hR (n : Nat) (o : List AV) (x : Int) : List AB := [.row ⟨85, 1, .leaf, [.own 2 n 2], none⟩, .row ⟨2, 1, .leaf, [.int .i64 x], none⟩, .arr 126 2 n o]
theorem sps1 (o : List Sp) (x : Sp) : spsA (o ++ [x]) = .rsl (o.length + 1) 2 (o.flatMap encSp ++ encSp x) := by simp [spsA, dsl]
theorem k27 (l : List Sp) (hl : l.length ≤ 20000) : KOk cF 99 [spsA l] (spsA (restL l)) := by
  refine KOk.of cF_ok eF.g Try.func99 rfl (Nat.le_of_ble_eq_true rfl) fun w F => ?_
  repeat' first | refine Go.seq ?_ | refine Go.region rfl ?_ | refine Ops.nil ?_ | refine Ops.val eF rfl rfl (by first | exact Want.no rfl | exact Want.tT rfl rfl rfl rfl | exact Want.fF rfl rfl rfl rfl) (by first | exact Hop.move rfl rfl | exact Hop.assign rfl rfl | exact Hop.lenD eF rfl rfl rfl rfl rfl rfl rfl | exact Hop.makeFunc rfl rfl rfl) ?_ | refine Ops.rowAt eF 0 rfl rfl (by first | exact Want.no rfl | exact Want.tT rfl rfl rfl rfl | exact Want.fF rfl rfl rfl rfl) rfl (Hop.alloc eF rfl rfl rfl) ?_ | refine Ops.rowAt eF 1 rfl rfl (by first | exact Want.no rfl | exact Want.tT rfl rfl rfl rfl | exact Want.fF rfl rfl rfl rfl) rfl (Hop.alloc eF rfl rfl rfl) ?_ | refine Ops.unit eF rfl (by first | exact Want.no rfl | exact Want.tT rfl rfl rfl rfl | exact Want.fF rfl rfl rfl rfl) (Hop.store eF rfl rfl rfl rfl rfl rfl) (ArrKeep.put rfl) ?_ | refine Go.block ?_
  refine Go.change (Chg.tok 2 126 2 rfl) ?_
  refine Go.change (Chg.cellOwn 0 2 rfl rfl) ?_
  refine Go.toH (bs := hR 0 [] (-9223372036854775808)) (L' := [(3, .ptr 0 0), (4, .ptr 1 0), (5, .fn (.func 124) [] [.ptr 1 0, .ptr 0 0]), (9, spsA l), (10, .int .i64 l.length), (11, .int .i64 0)]) ?_ eF.g ⟨rfl, rfl, rfl, rfl, rfl, rfl, trivial⟩ rfl rfl ⟨.inr rfl, .inr rfl, .inr rfl, trivial⟩ ⟨low_row rfl rfl, low_row rfl rfl, trivial, trivial⟩ rfl rfl
  refine Go.loop (fun i : Nat => [(3, .ptr 0 0), (4, .ptr 1 0), (5, .fn (.func 124) [] [.ptr 1 0, .ptr 0 0]), (9, spsA l), (10, .int .i64 l.length), (11, .int .i64 i)]) (fun i => hq 3 (hR (gapN l i).1.length ((gapN l i).1.flatMap encSp) (gapN l i).2)) (fun i => i ≤ l.length) (fun i => l.length - i) 0 (by omega) ⟨rfl, rfl, rfl, rfl, rfl, rfl, trivial⟩ rfl (fun i hi ih => ?_)
  have ho := gapN_len l i
  repeat' first | refine Go.seq ?_ | refine Go.region rfl ?_ | refine Ops.nil ?_ | refine Ops.val eF rfl rfl (by first | exact Want.no rfl | exact Want.tT rfl rfl rfl rfl | exact Want.fF rfl rfl rfl rfl) (by first | exact Hop.move rfl rfl | exact Hop.lss rfl rfl rfl | exact Hop.faP eF rfl rfl rfl rfl rfl rfl rfl | exact Hop.idx eF rfl rfl rfl rfl rfl rfl rfl (fun _ => rfl) (by omega) | exact Hop.ldRG eF rfl rfl rfl rfl rfl | exact Hop.ldP eF rfl rfl rfl rfl rfl rfl rfl) ?_ | refine Ops.rowAt eF 3 rfl rfl (by first | exact Want.no rfl | exact Want.tT rfl rfl rfl rfl | exact Want.fF rfl rfl rfl rfl) rfl (Hop.alloc eF rfl rfl rfl) ?_ | refine Ops.unit eF rfl (by first | exact Want.no rfl | exact Want.tT rfl rfl rfl rfl | exact Want.fF rfl rfl rfl rfl) (Hop.store eF rfl rfl rfl rfl rfl rfl) (ArrKeep.put rfl) ?_ | refine Go.condPt rfl (fun _ => ?_) (fun _ => ?_) | refine Go.block ?_ | refine Go.skip ?_ | refine Go.exit rfl ?_
  · refine Ops.sub (M := [(3, .ptr 0 0), (4, .ptr 1 0), (5, .fn (.func 124) [] [.ptr 1 0, .ptr 0 0]), (7, .ptr 3 0), (9, spsA l), (10, .int .i64 l.length), (11, .int .i64 i), (15, .fn (.func 124) [] [.ptr 1 0, .ptr 0 0]), (17, .int .i64 (l.getD (i : Int).toNat default).a)]) ⟨rfl, rfl, rfl, rfl, rfl, rfl, rfl, rfl, rfl, trivial⟩ ?_
    refine Ops.inl eF (fn := Try.f124) rfl rfl (Want.no rfl) rfl rfl rfl rfl Try.func124 rfl rfl rfl (fun gx => ?_)
    repeat' first | refine Go.seq ?_ | refine Go.region rfl ?_ | refine Ops.nil ?_ | refine Ops.val eF rfl rfl (by first | exact Want.no rfl | exact Want.tT rfl rfl rfl rfl | exact Want.fF rfl rfl rfl rfl) (by first | exact Hop.move rfl rfl | exact Hop.lss rfl rfl rfl | exact Hop.add rfl rfl rfl (by omega) | exact Hop.faP eF rfl rfl rfl rfl rfl rfl rfl | exact Hop.ldP eF rfl rfl rfl rfl rfl rfl rfl | exact Hop.build eF rfl rfl rfl rfl rfl rfl rfl) ?_ | refine Ops.data eF rfl rfl (by first | exact Want.no rfl | exact Want.tT rfl rfl rfl rfl | exact Want.fF rfl rfl rfl rfl) rfl (Hop.bslice eF rfl rfl rfl rfl rfl rfl rfl rfl rfl rfl rfl) rfl rfl ?_ | refine Ops.appendE eF rfl rfl (by first | exact Want.no rfl | exact Want.tT rfl rfl rfl rfl | exact Want.fF rfl rfl rfl rfl) rfl rfl rfl rfl rfl rfl rfl rfl rfl rfl rfl rfl rfl rfl rfl rfl (by repeat' first | exact trivial | refine And.intro ?_ ?_ | exact .inr trivial | exact .inr (ind_row rfl rfl) | exact .inr rfl | exact .inl rfl | exact .inr (hindL _ _)) rfl rfl rfl rfl rfl (by first | rfl | exact ones_flat (fun _ => rfl) _) (by omega) ?_ | refine Ops.unit eF rfl (by first | exact Want.no rfl | exact Want.tT rfl rfl rfl rfl | exact Want.fF rfl rfl rfl rfl) (Hop.store eF rfl rfl rfl rfl rfl rfl) (ArrKeep.put rfl) ?_ | refine Go.condPt rfl (fun _ => ?_) (fun _ => ?_) | refine Go.unblk ?_ | refine Go.skip ?_ | refine Go.endI rfl ?_
    · rename_i q1 q2
      have e : gapN l (i + 1) = ((gapN l i).1 ++ [⟨(gapN l i).2, (l.getD (i : Int).toNat default).a⟩], (l.getD (i : Int).toNat default).b) := by
        rw [Int.toNat_natCast] at q2 ⊢
        conv => lhs; unfold gapN
        unfold gapSp; rw [if_pos q2]
      have g := ih (i + 1) (by omega) (by omega)
      simp only [e, flat1, List.length_append] at g
      exact Go.toC (bs := hR ((gapN l i).1.length + 1) ((gapN l i).1.flatMap encSp ++ encSp ⟨(gapN l i).2, (l.getD (i : Int).toNat default).a⟩) (l.getD (i : Int).toNat default).b) g eF.g ⟨rfl, rfl, rfl, rfl, rfl, rfl, trivial⟩ rfl rfl ⟨.inr rfl, .inr rfl, .inr rfl, trivial⟩ ⟨low_row rfl rfl, low_row rfl rfl, trivial, trivial⟩ rfl rfl
    · rename_i q1 q2
      have e : gapN l (i + 1) = ((gapN l i).1, (l.getD (i : Int).toNat default).b) := by
        rw [Int.toNat_natCast] at q2 ⊢
        conv => lhs; unfold gapN
        unfold gapSp; rw [if_neg q2]
      have g := ih (i + 1) (by omega) (by omega)
      simp only [e] at g
      exact Go.toC (bs := hR (gapN l i).1.length ((gapN l i).1.flatMap encSp) (l.getD (i : Int).toNat default).b) g eF.g ⟨rfl, rfl, rfl, rfl, rfl, rfl, trivial⟩ rfl rfl ⟨.inr rfl, .inr rfl, .inr rfl, trivial⟩ ⟨low_row rfl rfl, low_row rfl rfl, trivial, trivial⟩ rfl rfl
  · refine Ops.sub (M := [(3, .ptr 0 0), (5, .fn (.func 124) [] [.ptr 1 0, .ptr 0 0]), (22, .fn (.func 124) [] [.ptr 1 0, .ptr 0 0])]) ⟨rfl, rfl, rfl, trivial⟩ ?_
    refine Ops.inl eF (fn := Try.f124) rfl rfl (Want.no rfl) rfl rfl rfl rfl Try.func124 rfl rfl rfl (fun gx => ?_)
    repeat' first | refine Go.seq ?_ | refine Go.region rfl ?_ | refine Ops.nil ?_ | refine Ops.frzMv eF 2 rfl rfl rfl (by first | exact Want.no rfl | exact Want.tT rfl rfl rfl rfl | exact Want.fF rfl rfl rfl rfl) (by first | exact Hop.move rfl rfl | exact Hop.assign rfl rfl) rfl (by repeat' first | exact trivial | refine And.intro ?_ ?_ | exact .inr trivial | exact .inr (ind_row rfl rfl) | exact .inr rfl | exact .inl rfl | exact .inr (hindL _ _)) rfl rfl rfl rfl ?_ | refine Ops.val eF rfl rfl (by first | exact Want.no rfl | exact Want.tT rfl rfl rfl rfl | exact Want.fF rfl rfl rfl rfl) (by first | exact Hop.move rfl rfl | exact Hop.lss rfl rfl rfl | exact Hop.ldP eF rfl rfl rfl rfl rfl rfl rfl | exact Hop.build eF rfl rfl rfl rfl rfl rfl rfl) ?_ | refine Ops.data eF rfl rfl (by first | exact Want.no rfl | exact Want.tT rfl rfl rfl rfl | exact Want.fF rfl rfl rfl rfl) rfl (Hop.bslice eF rfl rfl rfl rfl rfl rfl rfl rfl rfl rfl rfl) rfl rfl ?_ | refine Ops.appendE eF rfl rfl (by first | exact Want.no rfl | exact Want.tT rfl rfl rfl rfl | exact Want.fF rfl rfl rfl rfl) rfl rfl rfl rfl rfl rfl rfl rfl rfl rfl rfl rfl rfl rfl rfl rfl (by repeat' first | exact trivial | refine And.intro ?_ ?_ | exact .inr trivial | exact .inr (ind_row rfl rfl) | exact .inr rfl | exact .inl rfl | exact .inr (hindL _ _)) rfl rfl rfl rfl rfl (by first | rfl | exact ones_flat (fun _ => rfl) _) (by omega) ?_ | refine Ops.unit eF rfl (by first | exact Want.no rfl | exact Want.tT rfl rfl rfl rfl | exact Want.fF rfl rfl rfl rfl) (Hop.store eF rfl rfl rfl rfl rfl rfl) (ArrKeep.put rfl) ?_ | refine Go.condPt rfl (fun _ => ?_) (fun _ => ?_) | refine Go.skip ?_ | refine Go.retF rfl ?_ rfl | refine Go.endI rfl ?_
    all_goals
      have hi' : i = l.length := by omega
      subst hi'
    · rename_i q1 q2
      rw [show restL l = (gapN l l.length).1 ++ [⟨(gapN l l.length).2, 9223372036854775807⟩] from if_pos q2, sps1]; rfl
    · rename_i q1 q2
      rw [show restL l = (gapN l l.length).1 from if_neg q2]; rfl
end Go.Px.Fs
end
/- FsN -/
section
set_option linter.unusedVariables false
set_option linter.unusedSimpArgs false
set_option maxHeartbeats 4000000
set_option maxRecDepth 20000
namespace Go.Px.Fs
open Go.Proofs
/-- what two sets share: the lists gone through side by side -/
def meetL : List Sp → List Sp → List Sp
  | s :: a, t :: b => (if max s.a t.a < min s.b t.b then [⟨max s.a t.a, min s.b t.b⟩] else []) ++ (if s.b < t.b then meetL a (t :: b) else meetL (s :: a) b)
  | _, _ => []
termination_by a b => a.length + b.length
theorem meetL_0 : ∀ {a b : List Sp}, a.length = 0 ∨ b.length = 0 → meetL a b = []
  | [], b, _ => by cases b <;> simp [meetL]
  | s :: a, [], _ => by simp [meetL]
  | s :: a, t :: b, h => by simp at h
/-- the blocks, while it runs -/
def hN (R : ALoop) (a b : List Sp) (n : Nat) (o : List AV) : List AB := [.row ⟨85, 1, .leaf, [.own 3 n 2], none⟩, .row ⟨85, 1, .leaf, [spsA a], none⟩, .row ⟨85, 1, .leaf, [spsA b], none⟩, .arr 126 2 n o, .dfr true, .loop R]
theorem lowN {R : ALoop} {a b : List Sp} {n : Nat} {o : List AV} (h : ABLow 6 (.loop R)) : lowsP 6 (hN R a b n o) := ⟨low_row rfl rfl, low_row rfl rfl, low_row rfl rfl, trivial, trivial, h, trivial⟩
noncomputable def r136_0 : List Oper := ((drawn (Try.f136.body.getD .skip))[0]?).getD []
theorem dr136_0 : chkOrd cF r136_0 [0, 1, 2, 3, 4, 5, 6, 7, 8, 9, 10, 11, 12, 13, 14, 15, 16, 17, 18, 19, 20] = true := by kernel_rfl
noncomputable def r136_1 : List Oper := ((drawn (Try.f136.body.getD .skip))[1]?).getD []
theorem dr136_1 : chkOrd cF r136_1 [0, 1, 2, 3, 4, 5, 6, 7, 8] = true := by kernel_rfl
theorem k26 (a b : List Sp) (ha : a.length ≤ 20000) (hb : b.length ≤ 20000) : KOk cF 98 [spsA a, spsA b] (spsA (meetL a b)) := by
  refine KOk.of cF_ok eF.g Try.func98 rfl (Nat.le_of_ble_eq_true rfl) fun w F => ?_
  repeat' first | refine Go.seq ?_ | refine Go.region rfl ?_ | refine Ops.nil ?_ | refine Ops.val eF rfl rfl (by first | exact Want.no rfl | exact Want.tT rfl rfl rfl rfl | exact Want.fF rfl rfl rfl rfl) (by first | exact Hop.move rfl rfl | exact Hop.assign rfl rfl) ?_ | refine Ops.rowAt eF 0 rfl rfl (by first | exact Want.no rfl | exact Want.tT rfl rfl rfl rfl | exact Want.fF rfl rfl rfl rfl) rfl (Hop.alloc eF rfl rfl rfl) ?_
  refine Ops.sub (M := [(4, .nilsl), (5, .ptr 0 0), (7, spsA a), (8, spsA b)]) ⟨rfl, rfl, rfl, rfl, trivial⟩ ?_
  refine Ops.inl eF (fn := Try.f123) rfl rfl (Want.no rfl) rfl rfl rfl rfl Try.func123 rfl rfl rfl (fun gx => ?_)
  repeat' first | refine Go.seq ?_ | refine Go.region rfl ?_ | refine Ops.nil ?_ | refine Ops.val eF rfl rfl (by first | exact Want.no rfl | exact Want.tT rfl rfl rfl rfl | exact Want.fF rfl rfl rfl rfl) (by first | exact Hop.assign rfl rfl | exact Hop.makeFunc rfl rfl rfl) ?_ | refine Ops.rowAt eF 1 rfl rfl (by first | exact Want.no rfl | exact Want.tT rfl rfl rfl rfl | exact Want.fF rfl rfl rfl rfl) rfl (Hop.boxC rfl rfl rfl) ?_ | refine Ops.rowAt eF 2 rfl rfl (by first | exact Want.no rfl | exact Want.tT rfl rfl rfl rfl | exact Want.fF rfl rfl rfl rfl) rfl (Hop.boxC rfl rfl rfl) ?_ | refine Go.block ?_ | refine Go.retI rfl ?_
  refine Go.change (Chg.tokAt 3 4 126 2 rfl rfl) ?_
  refine Go.change (Chg.cellOwn 0 3 rfl rfl) ?_
  refine Go.to (M := [(5, .ptr 0 0), (9, .fn (.func 136) [] [.ptr 1 0, .ptr 2 0])]) ?_ ⟨rfl, rfl, trivial⟩
  refine Go.rangeAt eF 4 rfl rfl Try.func136 rfl rfl rfl (fun gx' R hR => ?_)
  repeat' first | refine Go.seq ?_ | refine Go.block ?_ | refine Go.scope ?_ | refine Go.label ?_
  have hlow : ABLow 6 (.loop R) := by subst hR; exact ⟨envLs [(5, .ptr 0 0), (9, .fn (.func 136) [] [.ptr 1 0, .ptr 2 0])] 16, rfl, rfl, by decide⟩
  refine Go.toHQ (N := 6) (bs := hN R a b 0 []) (L' := [(0, .fn (.yield 5) [] []), (1, .ptr 1 0), (2, .ptr 2 0)]) ?_ rfl eF.g ⟨rfl, rfl, rfl, trivial⟩ rfl rfl ⟨.inr rfl, .inr rfl, .inr rfl, .inr rfl, .inr rfl, .inr rfl, trivial⟩ (lowN hlow) rfl rfl
  refine Go.loop (fun s : List Sp × List Sp × List Sp => [(0, .fn (.yield 5) [] []), (1, .ptr 1 0), (2, .ptr 2 0)]) (fun s => hq 6 (hN R s.1 s.2.1 s.2.2.length (s.2.2.flatMap encSp))) (fun s => s.2.2 ++ meetL s.1 s.2.1 = meetL a b ∧ s.2.2.length + s.1.length + s.2.1.length ≤ a.length + b.length) (fun s => s.1.length + s.2.1.length) (a, b, []) ⟨rfl, by simp⟩ ⟨rfl, rfl, rfl, trivial⟩ rfl (fun s hP ih => ?_)
  obtain ⟨a', b', o⟩ := s
  obtain ⟨hP, hQ⟩ := hP
  simp only [] at hP hQ ih ⊢
  have hRs := congrArg ALoop.sz hR
  have hRp := congrArg ALoop.params hR
  have hRa := congrArg ALoop.assign hR
  have hRb := congrArg ALoop.body hR
  have hRe := congrArg ALoop.e hR
  have hRn := congrArg ALoop.pending hR
  have hRt := congrArg ALoop.state hR
  have hRd := congrArg ALoop.defers hR
  dsimp only at hRs hRp hRa hRb hRe hRn hRt hRd
  have hindL : ∀ st pe, ABInd 3 (.loop { R with state := st, pending := pe }) := fun st pe => ⟨envLs [(5, .ptr 0 0), (9, .fn (.func 136) [] [.ptr 1 0, .ptr 2 0])] 16, hRe, rfl, by show R.defers ≠ 3; rw [hRd]; decide⟩
  clear hR
  have hRR : ({ R with state := .ready, pending := none } : ALoop) = R := by
    obtain ⟨st, pe, a1, a2, a3, a4, a5, a6, a7⟩ := R
    have hRt : st = .ready := hRt
    have hRn : pe = none := hRn
    subst hRt; subst hRn; rfl
  repeat' first | refine Go.seq ?_ | refine Go.region rfl ?_ | refine Ops.nil ?_ | refine Ops.val eF rfl rfl (by first | exact Want.no rfl | exact Want.tT rfl rfl rfl rfl | exact Want.fF rfl rfl rfl rfl) (by first | exact Hop.move rfl rfl | exact Hop.pickT rfl rfl rfl | exact Hop.pickF rfl rfl rfl | exact Hop.gtr rfl rfl rfl | exact Hop.ldP eF rfl rfl rfl rfl rfl rfl rfl | exact Hop.lenD eF rfl rfl rfl rfl rfl rfl rfl) ?_ | refine Ops.skip rfl rfl (by first | exact Want.fT rfl rfl rfl rfl | exact Want.tF rfl rfl rfl rfl | exact Want.und rfl rfl rfl rfl) ?_ | refine Ops.gP rfl rfl (fun _ => ?_) (fun _ => ?_) | refine Go.condF rfl ?_ | refine Go.condPt rfl (fun _ => ?_) (fun _ => ?_) | refine Go.block ?_ | refine Go.skip ?_ | refine Go.exit rfl ?_ | refine Go.endI rfl ?_
  case refine_1.refine_2 =>
    refine Go.afterN (r := R) rfl hRn (.inl hRt) ?_
    refine Go.unblk ?_
    refine Go.toHQ (N := 5) (bs := [.row ⟨85, 1, .leaf, [.own 3 o.length 2], none⟩, .none, .none, .arr 126 2 o.length (o.flatMap encSp), .dfr true]) (L' := [(5, .ptr 0 0)]) ?_ rfl eF.g ⟨rfl, trivial⟩ rfl rfl ⟨.inr rfl, .inl rfl, .inl rfl, .inr rfl, .inr rfl, trivial⟩ ⟨low_row rfl rfl, trivial, trivial, trivial, trivial, trivial⟩ rfl rfl
    repeat' first | refine Go.seq ?_ | refine Go.region rfl ?_ | refine Ops.nil ?_ | refine Ops.frzMv eF 4 rfl rfl rfl (by first | exact Want.no rfl | exact Want.tT rfl rfl rfl rfl | exact Want.fF rfl rfl rfl rfl) (by first | exact Hop.move rfl rfl | exact Hop.assign rfl rfl) rfl (by repeat' first | exact trivial | refine And.intro ?_ ?_ | exact .inr trivial | exact .inr (ind_row rfl rfl) | exact .inr rfl | exact .inl rfl | exact .inr (hindL _ _)) rfl rfl rfl rfl ?_ | refine Ops.val eF rfl rfl (by first | exact Want.no rfl | exact Want.tT rfl rfl rfl rfl | exact Want.fF rfl rfl rfl rfl) (by first | exact Hop.ldP eF rfl rfl rfl rfl rfl rfl rfl) ?_ | refine Go.retFm rfl rfl ?_ rfl
    rw [← hP, meetL_0 (by omega), List.append_nil]; rfl
  case refine_2 =>
    refine Go.afterN (r := R) rfl hRn (.inl hRt) ?_
    refine Go.unblk ?_
    refine Go.toHQ (N := 5) (bs := [.row ⟨85, 1, .leaf, [.own 3 o.length 2], none⟩, .none, .none, .arr 126 2 o.length (o.flatMap encSp), .dfr true]) (L' := [(5, .ptr 0 0)]) ?_ rfl eF.g ⟨rfl, trivial⟩ rfl rfl ⟨.inr rfl, .inl rfl, .inl rfl, .inr rfl, .inr rfl, trivial⟩ ⟨low_row rfl rfl, trivial, trivial, trivial, trivial, trivial⟩ rfl rfl
    repeat' first | refine Go.seq ?_ | refine Go.region rfl ?_ | refine Ops.nil ?_ | refine Ops.frzMv eF 4 rfl rfl rfl (by first | exact Want.no rfl | exact Want.tT rfl rfl rfl rfl | exact Want.fF rfl rfl rfl rfl) (by first | exact Hop.move rfl rfl | exact Hop.assign rfl rfl) rfl (by repeat' first | exact trivial | refine And.intro ?_ ?_ | exact .inr trivial | exact .inr (ind_row rfl rfl) | exact .inr rfl | exact .inl rfl | exact .inr (hindL _ _)) rfl rfl rfl rfl ?_ | refine Ops.val eF rfl rfl (by first | exact Want.no rfl | exact Want.tT rfl rfl rfl rfl | exact Want.fF rfl rfl rfl rfl) (by first | exact Hop.ldP eF rfl rfl rfl rfl rfl rfl rfl) ?_ | refine Go.retFm rfl rfl ?_ rfl
    rw [← hP, meetL_0 (by omega), List.append_nil]; rfl
  obtain ⟨s, ta, rfl⟩ : ∃ s ta, a' = s :: ta := by
    cases a' with
    | nil => exfalso; have q : (0 : Int) < (([] : List Sp).length : Int) := by assumption
             simp at q
    | cons s ta => exact ⟨s, ta, rfl⟩
  obtain ⟨t, tb, rfl⟩ : ∃ s ta, b' = s :: ta := by
    cases b' with
    | nil => exfalso; have q : (0 : Int) < (([] : List Sp).length : Int) := by assumption
             simp at q
    | cons s ta => exact ⟨s, ta, rfl⟩
  have hl1 : (s :: ta).length = ta.length + 1 := rfl
  have hl2 : (t :: tb).length = tb.length + 1 := rfl
  refine Go.draw eF hm [] [0, 1, 2, 3, 4, 5, 6, 7, 8, 9, 10, 11, 12, 13, 14, 15, 16, 17, 18, 19, 20] dr136_0 ?_
  repeat' first | refine Dr.nil ?_ | refine Dr.pure rfl rfl rfl rfl (by first | exact Want.no rfl | exact Want.tT rfl rfl rfl rfl | exact Want.fF rfl rfl rfl rfl) (by first | exact Hop.faR eF rfl rfl rfl rfl rfl rfl rfl | exact Hop.idx eF rfl rfl rfl rfl rfl rfl rfl (fun _ => rfl) (by omega) | exact Hop.ldR eF rfl rfl rfl rfl rfl | exact Hop.ldP eF rfl rfl rfl rfl rfl rfl rfl | exact Hop.build eF rfl rfl rfl rfl rfl rfl rfl | exact Hop.max rfl rfl rfl rfl rfl | exact Hop.min rfl rfl rfl rfl rfl) ?_ | refine Dr.light rfl rfl rfl rfl (by first | exact Want.no rfl | exact Want.tT rfl rfl rfl rfl | exact Want.fF rfl rfl rfl rfl) (by first | exact Hop.ldR eF rfl rfl rfl rfl rfl | exact Hop.ldP eF rfl rfl rfl rfl rfl rfl rfl) ?_ | refine Dr.rowAt 6 rfl rfl rfl rfl (by first | exact Want.no rfl | exact Want.tT rfl rfl rfl rfl | exact Want.fF rfl rfl rfl rfl) rfl (Hop.alloc eF rfl rfl rfl) ?_ | refine Dr.store rfl rfl rfl (by first | exact Want.no rfl | exact Want.tT rfl rfl rfl rfl | exact Want.fF rfl rfl rfl rfl) (Hop.store eF rfl rfl rfl rfl rfl rfl) (ArrKeep.put rfl) rfl ?_
  repeat' first | refine Go.seq ?_ | refine Go.region rfl ?_ | refine Ops.nil ?_ | refine Ops.val eF rfl rfl (by first | exact Want.no rfl | exact Want.tT rfl rfl rfl rfl | exact Want.fF rfl rfl rfl rfl) (by first | exact Hop.move rfl rfl | exact Hop.pickF rfl rfl rfl | exact Hop.lss rfl rfl rfl | exact Hop.faP eF rfl rfl rfl rfl rfl rfl rfl | exact Hop.ldP eF rfl rfl rfl rfl rfl rfl rfl | exact Hop.ldPG eF rfl rfl rfl rfl rfl rfl rfl) ?_ | refine Ops.skip rfl rfl (by first | exact Want.fT rfl rfl rfl rfl | exact Want.tF rfl rfl rfl rfl | exact Want.und rfl rfl rfl rfl) ?_ | refine Ops.gP rfl rfl (fun _ => ?_) (fun _ => ?_) | refine Go.condF rfl ?_ | refine Go.skip ?_
  · rename_i qx
    have qx : max s.a t.a < min s.b t.b := qx
    refine Ops.sub (M := [(0, .fn (.yield 5) [] []), (1, .ptr 1 0), (2, .ptr 2 0), (37, .bool true), (38, .fn (.yield 5) [] []), (39, .agg (encSp ⟨max s.a t.a, min s.b t.b⟩))]) ⟨rfl, rfl, rfl, rfl, rfl, rfl, trivial⟩ ?_
    refine Ops.round (r := R) (lst := envLs [(5, .ptr 0 0), (9, .fn (.func 136) [] [.ptr 1 0, .ptr 2 0])] Try.f98.ntmps) rfl rfl (Want.tT rfl rfl rfl rfl) rfl rfl rfl rfl rfl hRt hRe (by rw [hRp]; rfl) (by rw [hRp]; simp only [hRs]; rfl) rfl (fun gx2 => ?_)
    rw [hRs, hRp, hRa, hRb]
    repeat' first | refine Go.region rfl ?_ | refine Ops.nil ?_ | refine Ops.rowAt eF 7 rfl rfl (by first | exact Want.no rfl | exact Want.tT rfl rfl rfl rfl | exact Want.fF rfl rfl rfl rfl) rfl (Hop.alloc eF rfl rfl rfl) ?_ | refine Ops.unit eF rfl (by first | exact Want.no rfl | exact Want.tT rfl rfl rfl rfl | exact Want.fF rfl rfl rfl rfl) (Hop.store eF rfl rfl rfl rfl rfl rfl) (ArrKeep.put rfl) ?_
    refine Go.body (r := R) rfl hRt ?_
    repeat' first | refine Go.region rfl ?_ | refine Ops.nil ?_ | refine Ops.val eF rfl rfl (by first | exact Want.no rfl | exact Want.tT rfl rfl rfl rfl | exact Want.fF rfl rfl rfl rfl) (by first | exact Hop.ldP eF rfl rfl rfl rfl rfl rfl rfl | exact Hop.ldPG eF rfl rfl rfl rfl rfl rfl rfl) ?_ | refine Ops.data eF rfl rfl (by first | exact Want.no rfl | exact Want.tT rfl rfl rfl rfl | exact Want.fF rfl rfl rfl rfl) rfl (Hop.bslice eF rfl rfl rfl rfl rfl rfl rfl rfl rfl rfl rfl) rfl rfl ?_ | refine Ops.appendE eF rfl rfl (by first | exact Want.no rfl | exact Want.tT rfl rfl rfl rfl | exact Want.fF rfl rfl rfl rfl) rfl rfl rfl rfl rfl rfl rfl rfl rfl rfl rfl rfl rfl rfl rfl rfl (by repeat' first | exact trivial | refine And.intro ?_ ?_ | exact .inr trivial | exact .inr (ind_row rfl rfl) | exact .inr rfl | exact .inl rfl | exact .inr (hindL _ _)) rfl rfl rfl rfl rfl (by first | rfl | exact ones_flat (fun _ => rfl) _) (by omega) ?_ | refine Ops.unit eF rfl (by first | exact Want.no rfl | exact Want.tT rfl rfl rfl rfl | exact Want.fF rfl rfl rfl rfl) (Hop.store eF rfl rfl rfl rfl rfl rfl) (ArrKeep.put rfl) ?_ | refine Go.block ?_ | refine Go.unblk ?_
    refine Go.roundN rfl ?_
    repeat' first | refine Go.seq ?_ | refine Ops.nil ?_ | refine Ops.val eF rfl rfl (by first | exact Want.no rfl | exact Want.tT rfl rfl rfl rfl | exact Want.fF rfl rfl rfl rfl) (by first | exact Hop.pickT rfl rfl rfl | exact Hop.not rfl rfl) ?_ | refine Go.condF rfl ?_ | refine Go.skip ?_
    refine Go.draw eF hm [] [0, 1, 2, 3, 4, 5, 6, 7, 8] dr136_1 ?_
    repeat' first | refine Dr.nil ?_ | refine Dr.pure rfl rfl rfl rfl (by first | exact Want.no rfl | exact Want.tT rfl rfl rfl rfl | exact Want.fF rfl rfl rfl rfl) (by first | exact Hop.lss rfl rfl rfl | exact Hop.faR eF rfl rfl rfl rfl rfl rfl rfl | exact Hop.idx eF rfl rfl rfl rfl rfl rfl rfl (fun _ => rfl) (by omega) | exact Hop.ldR eF rfl rfl rfl rfl rfl | exact Hop.ldP eF rfl rfl rfl rfl rfl rfl rfl) ?_ | refine Dr.light rfl rfl rfl rfl (by first | exact Want.no rfl | exact Want.tT rfl rfl rfl rfl | exact Want.fF rfl rfl rfl rfl) (by first | exact Hop.ldR eF rfl rfl rfl rfl rfl | exact Hop.ldP eF rfl rfl rfl rfl rfl rfl rfl) ?_
    repeat' first | refine Go.region rfl ?_ | refine Ops.nil ?_ | refine Ops.val eF rfl rfl (by first | exact Want.no rfl | exact Want.tT rfl rfl rfl rfl | exact Want.fF rfl rfl rfl rfl) (by first | exact Hop.ldP eF rfl rfl rfl rfl rfl rfl rfl | exact Hop.from_ eF rfl rfl rfl rfl rfl rfl rfl (fun _ => rfl) (by omega)) ?_ | refine Ops.unit eF rfl (by first | exact Want.no rfl | exact Want.tT rfl rfl rfl rfl | exact Want.fF rfl rfl rfl rfl) (Hop.store eF rfl rfl rfl rfl rfl rfl) (ArrKeep.put rfl) ?_ | refine Go.condPt rfl (fun _ => ?_) (fun _ => ?_) | refine Go.unblk ?_
    · rename_i qy
      have qy : s.b < t.b := qy
      have g := ih (ta, t :: tb, o ++ [⟨max s.a t.a, min s.b t.b⟩]) ⟨by rw [← hP]; simp only []; rw [meetL.eq_1 s ta t tb, if_pos qx, if_pos qy, List.append_assoc], by simp only [List.length_append, List.length_cons, List.length_nil] at *; omega⟩ (by simp only [List.length_cons]; omega)
      simp only [flat1, List.length_append] at g
      exact Go.toQ g rfl eF.g ⟨rfl, rfl, rfl, trivial⟩ rfl rfl ⟨.inr rfl, .inr rfl, .inr rfl, .inr rfl, .inr rfl, .inr (congrArg AB.loop hRR), trivial⟩ (lowN hlow) rfl rfl
    · rename_i qy
      have qy : ¬ s.b < t.b := qy
      have g := ih (s :: ta, tb, o ++ [⟨max s.a t.a, min s.b t.b⟩]) ⟨by rw [← hP]; simp only []; rw [meetL.eq_1 s ta t tb, if_pos qx, if_neg qy, List.append_assoc], by simp only [List.length_append, List.length_cons, List.length_nil] at *; omega⟩ (by simp only [List.length_cons]; omega)
      simp only [flat1, List.length_append] at g
      exact Go.toQ g rfl eF.g ⟨rfl, rfl, rfl, trivial⟩ rfl rfl ⟨.inr rfl, .inr rfl, .inr rfl, .inr rfl, .inr rfl, .inr (congrArg AB.loop hRR), trivial⟩ (lowN hlow) rfl rfl
  · rename_i qx
    have qx : ¬ max s.a t.a < min s.b t.b := qx
    refine Go.draw eF hm [] [0, 1, 2, 3, 4, 5, 6, 7, 8] dr136_1 ?_
    repeat' first | refine Dr.nil ?_ | refine Dr.pure rfl rfl rfl rfl (by first | exact Want.no rfl | exact Want.tT rfl rfl rfl rfl | exact Want.fF rfl rfl rfl rfl) (by first | exact Hop.lss rfl rfl rfl | exact Hop.faR eF rfl rfl rfl rfl rfl rfl rfl | exact Hop.idx eF rfl rfl rfl rfl rfl rfl rfl (fun _ => rfl) (by omega) | exact Hop.ldR eF rfl rfl rfl rfl rfl | exact Hop.ldP eF rfl rfl rfl rfl rfl rfl rfl) ?_ | refine Dr.light rfl rfl rfl rfl (by first | exact Want.no rfl | exact Want.tT rfl rfl rfl rfl | exact Want.fF rfl rfl rfl rfl) (by first | exact Hop.ldR eF rfl rfl rfl rfl rfl | exact Hop.ldP eF rfl rfl rfl rfl rfl rfl rfl) ?_
    repeat' first | refine Go.region rfl ?_ | refine Ops.nil ?_ | refine Ops.val eF rfl rfl (by first | exact Want.no rfl | exact Want.tT rfl rfl rfl rfl | exact Want.fF rfl rfl rfl rfl) (by first | exact Hop.ldP eF rfl rfl rfl rfl rfl rfl rfl | exact Hop.from_ eF rfl rfl rfl rfl rfl rfl rfl (fun _ => rfl) (by omega)) ?_ | refine Ops.unit eF rfl (by first | exact Want.no rfl | exact Want.tT rfl rfl rfl rfl | exact Want.fF rfl rfl rfl rfl) (Hop.store eF rfl rfl rfl rfl rfl rfl) (ArrKeep.put rfl) ?_ | refine Go.condPt rfl (fun _ => ?_) (fun _ => ?_) | refine Go.unblk ?_
    · rename_i qy
      have qy : s.b < t.b := qy
      have g := ih (ta, t :: tb, o) ⟨by rw [← hP]; simp only []; rw [meetL.eq_1 s ta t tb, if_neg qx, if_pos qy, List.nil_append], by simp only [List.length_cons] at *; omega⟩ (by simp only [List.length_cons]; omega)
      exact Go.toQ g rfl eF.g ⟨rfl, rfl, rfl, trivial⟩ rfl rfl ⟨.inr rfl, .inr rfl, .inr rfl, .inr rfl, .inr rfl, .inr rfl, trivial⟩ (lowN hlow) rfl rfl
    · rename_i qy
      have qy : ¬ s.b < t.b := qy
      have g := ih (s :: ta, tb, o) ⟨by rw [← hP]; simp only []; rw [meetL.eq_1 s ta t tb, if_neg qx, if_neg qy, List.nil_append], by simp only [List.length_cons] at *; omega⟩ (by simp only [List.length_cons]; omega)
      exact Go.toQ g rfl eF.g ⟨rfl, rfl, rfl, trivial⟩ rfl rfl ⟨.inr rfl, .inr rfl, .inr rfl, .inr rfl, .inr rfl, .inr rfl, trivial⟩ (lowN hlow) rfl rfl
end Go.Px.Fs
end
/- FsC -/
section
set_option linter.unusedVariables false
set_option linter.unusedSimpArgs false
set_option maxHeartbeats 4000000
set_option maxRecDepth 20000
namespace Go.Px.Fs
open Go.Proofs
/-- are they a set -/
def OkAt (l : List Sp) (i : Nat) : Prop := (l.getD i default).a < (l.getD i default).b ∧ (0 < i → (l.getD (i - 1) default).b < (l.getD i default).a)
def SetP (l : List Sp) : Prop := ∀ i, i < l.length → OkAt l i
noncomputable def r46_0 : List Oper := ((drawn (Try.f46.body.getD .skip))[0]?).getD []
theorem dr46_0 : chkOrd cF r46_0 [0, 1, 2, 3, 4, 5, 6, 7, 8, 9, 10, 11, 12, 13, 14, 15, 16, 17, 18, 19, 20, 21, 22, 23, 24, 25, 26, 27, 28] = true := by kernel_rfl
theorem k17 (l : List Sp) (hl : l.length ≤ 100000) : KOk cF 46 [spsA l] (.bool (bd (SetP l))) := by
  refine KOk.of cF_ok eF.g Try.func46 rfl (Nat.le_of_ble_eq_true rfl) fun w F => ?_
  repeat' first | refine Go.seq ?_ | refine Go.region rfl ?_ | refine Ops.nil ?_ | refine Ops.val eF rfl rfl (by first | exact Want.no rfl | exact Want.tT rfl rfl rfl rfl | exact Want.fF rfl rfl rfl rfl) (by first | exact Hop.assign rfl rfl) ?_ | refine Go.block ?_
  refine Go.loop (fun i : Nat => [(0, spsA l), (3, .int .i64 i)]) (fun _ => hS) (fun i => i ≤ l.length ∧ ∀ j, j < i → OkAt l j) (fun i => l.length - i) 0 ⟨by omega, fun j hj => by omega⟩ ⟨rfl, rfl, trivial⟩ rfl (fun i hP ih => ?_)
  obtain ⟨hi, hn⟩ := hP
  have e1 : ((i : Int) - 1).toNat = i - 1 := by omega
  repeat' first | refine Go.seq ?_ | refine Go.region rfl ?_ | refine Ops.nil ?_ | refine Ops.val eF rfl rfl (by first | exact Want.no rfl | exact Want.tT rfl rfl rfl rfl | exact Want.fF rfl rfl rfl rfl) (by first | exact Hop.move rfl rfl | exact Hop.assign rfl rfl | exact Hop.lss rfl rfl rfl | exact Hop.lenD eF rfl rfl rfl rfl rfl rfl rfl) ?_ | refine Go.condPt rfl (fun _ => ?_) (fun _ => ?_) | refine Go.block ?_ | refine Go.skip ?_ | refine Go.exit rfl ?_ | refine Go.retF rfl ?_ rfl
  · refine Go.draw eF hm [] [0, 1, 2, 3, 4, 5, 6, 7, 8, 9, 10, 11, 12, 13, 14, 15, 16, 17, 18, 19, 20, 21, 22, 23, 24, 25, 26, 27, 28] dr46_0 ?_
    repeat' first | refine Dr.nil ?_ | refine Dr.pure rfl rfl rfl rfl (by first | exact Want.no rfl | exact Want.tT rfl rfl rfl rfl | exact Want.fF rfl rfl rfl rfl) (by first | exact Hop.move rfl rfl | exact Hop.pickT rfl rfl rfl | exact Hop.pickF rfl rfl rfl | exact Hop.gtr rfl rfl rfl | exact Hop.geq rfl rfl rfl | exact Hop.sub rfl rfl rfl (by omega) | exact Hop.faR eF rfl rfl rfl rfl rfl rfl rfl | exact Hop.idx eF rfl rfl rfl rfl rfl rfl rfl (fun _ => rfl) (by omega) | exact Hop.ldR eF rfl rfl rfl rfl rfl) ?_ | refine Dr.light rfl rfl rfl rfl (by first | exact Want.no rfl | exact Want.tT rfl rfl rfl rfl | exact Want.fF rfl rfl rfl rfl) (by first | exact Hop.ldR eF rfl rfl rfl rfl rfl) ?_ | refine Dr.skip rfl rfl rfl (by first | exact Want.fT rfl rfl rfl rfl | exact Want.tF rfl rfl rfl rfl | exact Want.und rfl rfl rfl rfl) ?_ | refine Dr.gP rfl rfl (fun _ => ?_) (fun _ => ?_)
    repeat' first | refine Go.seq ?_ | refine Go.region rfl ?_ | refine Ops.nil ?_ | refine Ops.val eF rfl rfl (by first | exact Want.no rfl | exact Want.tT rfl rfl rfl rfl | exact Want.fF rfl rfl rfl rfl) (by first | exact Hop.move rfl rfl | exact Hop.assign rfl rfl | exact Hop.add rfl rfl rfl (by omega)) ?_ | refine Go.condT rfl ?_ | refine Go.condF rfl ?_ | refine Go.condPt rfl (fun _ => ?_) (fun _ => ?_) | refine Go.unblk ?_ | refine Go.skip ?_ | refine Go.retF rfl ?_ rfl
    all_goals try simp only [Int.toNat_natCast, e1] at *
    · rw [bd_no (fun h => absurd (h i (by omega)).1 (by omega))]; rfl
    · rw [bd_no (fun h => absurd ((h i (by omega)).2 (by omega)) (by omega))]; rfl
    · refine Go.to (ih (i + 1) ⟨by omega, fun j hj => ?_⟩ (by omega)) ⟨rfl, rfl, trivial⟩
      rcases lt_succ_cases hj with h | rfl
      · exact hn j h
      · exact ⟨by omega, fun _ => by omega⟩
    · refine Go.to (ih (i + 1) ⟨by omega, fun j hj => ?_⟩ (by omega)) ⟨rfl, rfl, trivial⟩
      rcases lt_succ_cases hj with h | rfl
      · exact hn j h
      · exact ⟨by omega, fun _ => by omega⟩
  · rw [bd_of (p := SetP l) (fun j hj => hn j (by omega))]; rfl

noncomputable def r97_0 : List Oper := ((drawn (Try.f97.body.getD .skip))[0]?).getD []
theorem dr97_0 : chkOrd cF r97_0 [0, 1, 2, 3, 4, 5, 6, 7, 8, 9, 10, 11, 12, 13, 14, 15, 16, 17, 18, 19] = true := by kernel_rfl
theorem k25 (l : List Sp) (hl : l.length ≤ 100000) : KOk cF 97 [spsA l] (.bool (bd (SetP l))) := by
  refine KOk.of cF_ok eF.g Try.func97 rfl (Nat.le_of_ble_eq_true rfl) fun w F => ?_
  repeat' first | refine Go.seq ?_ | refine Go.region rfl ?_ | refine Ops.nil ?_ | refine Ops.val eF rfl rfl (by first | exact Want.no rfl | exact Want.tT rfl rfl rfl rfl | exact Want.fF rfl rfl rfl rfl) (by first | exact Hop.move rfl rfl | exact Hop.assign rfl rfl | exact Hop.lenD eF rfl rfl rfl rfl rfl rfl rfl) ?_ | refine Go.block ?_
  refine Go.loop (fun i : Nat => [(0, spsA l), (5, spsA l), (6, .int .i64 l.length), (7, .int .i64 i)]) (fun _ => hp []) (fun i => i ≤ l.length ∧ ∀ j, j < i → OkAt l j) (fun i => l.length - i) 0 ⟨by omega, fun j hj => by omega⟩ ⟨rfl, rfl, rfl, rfl, trivial⟩ rfl (fun i hP ih => ?_)
  obtain ⟨hi, hn⟩ := hP
  have e1 : ((i : Int) - 1).toNat = i - 1 := by omega
  repeat' first | refine Go.seq ?_ | refine Go.region rfl ?_ | refine Ops.nil ?_ | refine Ops.val eF rfl rfl (by first | exact Want.no rfl | exact Want.tT rfl rfl rfl rfl | exact Want.fF rfl rfl rfl rfl) (by first | exact Hop.move rfl rfl | exact Hop.assign rfl rfl | exact Hop.lss rfl rfl rfl | exact Hop.idx eF rfl rfl rfl rfl rfl rfl rfl (fun _ => rfl) (by omega) | exact Hop.ldRG eF rfl rfl rfl rfl rfl) ?_ | refine Ops.rowAt eF 0 rfl rfl (by first | exact Want.no rfl | exact Want.tT rfl rfl rfl rfl | exact Want.fF rfl rfl rfl rfl) rfl (Hop.alloc eF rfl rfl rfl) ?_ | refine Ops.unit eF rfl (by first | exact Want.no rfl | exact Want.tT rfl rfl rfl rfl | exact Want.fF rfl rfl rfl rfl) (Hop.store eF rfl rfl rfl rfl rfl rfl) (ArrKeep.put rfl) ?_ | refine Go.condPt rfl (fun _ => ?_) (fun _ => ?_) | refine Go.block ?_ | refine Go.skip ?_ | refine Go.exit rfl ?_ | refine Go.retF rfl ?_ rfl
  · refine Go.draw eF hm [] [0, 1, 2, 3, 4, 5, 6, 7, 8, 9, 10, 11, 12, 13, 14, 15, 16, 17, 18, 19] dr97_0 ?_
    repeat' first | refine Dr.nil ?_ | refine Dr.pure rfl rfl rfl rfl (by first | exact Want.no rfl | exact Want.tT rfl rfl rfl rfl | exact Want.fF rfl rfl rfl rfl) (by first | exact Hop.move rfl rfl | exact Hop.pickT rfl rfl rfl | exact Hop.pickF rfl rfl rfl | exact Hop.leq rfl rfl rfl | exact Hop.gtr rfl rfl rfl | exact Hop.geq rfl rfl rfl | exact Hop.sub rfl rfl rfl (by omega) | exact Hop.faR eF rfl rfl rfl rfl rfl rfl rfl | exact Hop.faP eF rfl rfl rfl rfl rfl rfl rfl | exact Hop.idx eF rfl rfl rfl rfl rfl rfl rfl (fun _ => rfl) (by omega) | exact Hop.ldR eF rfl rfl rfl rfl rfl | exact Hop.ldP eF rfl rfl rfl rfl rfl rfl rfl) ?_ | refine Dr.light rfl rfl rfl rfl (by first | exact Want.no rfl | exact Want.tT rfl rfl rfl rfl | exact Want.fF rfl rfl rfl rfl) (by first | exact Hop.ldR eF rfl rfl rfl rfl rfl | exact Hop.ldP eF rfl rfl rfl rfl rfl rfl rfl) ?_ | refine Dr.skip rfl rfl rfl (by first | exact Want.fT rfl rfl rfl rfl | exact Want.tF rfl rfl rfl rfl | exact Want.und rfl rfl rfl rfl) ?_ | refine Dr.gP rfl rfl (fun _ => ?_) (fun _ => ?_)
    repeat' first | refine Go.seq ?_ | refine Go.region rfl ?_ | refine Ops.nil ?_ | refine Ops.val eF rfl rfl (by first | exact Want.no rfl | exact Want.tT rfl rfl rfl rfl | exact Want.fF rfl rfl rfl rfl) (by first | exact Hop.move rfl rfl | exact Hop.assign rfl rfl | exact Hop.add rfl rfl rfl (by omega)) ?_ | refine Go.condT rfl ?_ | refine Go.condF rfl ?_ | refine Go.condPt rfl (fun _ => ?_) (fun _ => ?_) | refine Go.unblk ?_ | refine Go.skip ?_ | refine Go.retF rfl ?_ rfl
    all_goals try simp only [Int.toNat_natCast, e1] at *
    · rw [bd_no (fun h => absurd (h i (by omega)).1 (by omega))]; rfl
    · rw [bd_no (fun h => absurd ((h i (by omega)).2 (by omega)) (by omega))]; rfl
    · refine Go.toC (bs := []) (ih (i + 1) ⟨by omega, fun j hj => ?_⟩ (by omega)) eF.g ⟨rfl, rfl, rfl, rfl, trivial⟩ rfl rfl trivial trivial rfl rfl
      rcases lt_succ_cases hj with h | rfl
      · exact hn j h
      · exact ⟨by omega, fun _ => by omega⟩
    · refine Go.toC (bs := []) (ih (i + 1) ⟨by omega, fun j hj => ?_⟩ (by omega)) eF.g ⟨rfl, rfl, rfl, rfl, trivial⟩ rfl rfl trivial trivial rfl rfl
      rcases lt_succ_cases hj with h | rfl
      · exact hn j h
      · exact ⟨by omega, fun _ => by omega⟩
  · rw [bd_of (p := SetP l) (fun j hj => hn j (by omega))]; rfl
theorem k33 (l : List Sp) (hl : l.length ≤ 100000) : KOk cF 121 [spsA l] (.int .i64 (bif bd (SetP l) then 0 else 30)) := by
  refine KOk.of cF_ok eF.g Try.func121 rfl (Nat.le_of_ble_eq_true rfl) fun w F => ?_
  repeat' first | refine Go.seq ?_ | refine Go.region rfl ?_ | refine Ops.nil ?_ | refine Ops.val eF rfl rfl (by first | exact Want.no rfl | exact Want.tT rfl rfl rfl rfl | exact Want.fF rfl rfl rfl rfl) (by first | exact Hop.move rfl rfl | exact Hop.assign rfl rfl | exact Hop.not rfl rfl) ?_ | refine Ops.call eF rfl rfl (by first | exact Want.no rfl | exact Want.tT rfl rfl rfl rfl | exact Want.fF rfl rfl rfl rfl) rfl rfl rfl rfl (k25 _ hl) rfl ?_ | refine Go.condNt rfl (fun _ => ?_) (fun _ => ?_) | refine Go.skip ?_ | refine Go.retF rfl ?_ rfl
  all_goals first | (rw [bd_of (by assumption)]; rfl) | (rw [bd_no (by assumption)]; rfl)

theorem eqSp (a b : Sp) : eqv cF 6 126 (.agg (encSp a)) (.agg (encSp b)) = some (bd (a = b)) := by
  have h : eqv cF 6 126 (.agg (encSp a)) (.agg (encSp b)) = (match ieq a.a b.a with | true => (match ieq a.b b.b with | true => some true | false => some false) | false => some false) := by kernel_rfl
  rw [h, ieq_dec, ieq_dec]
  obtain ⟨x, y⟩ := a
  obtain ⟨u, v⟩ := b
  by_cases h1 : x = u <;> by_cases h2 : y = v <;> simp [h1, h2, bd]
theorem eqVa (a b : Va) : eqv cF 6 56 (.agg (encVa a)) (.agg (encVa b)) = some (bd (a = b)) := by
  have h : eqv cF 6 56 (.agg (encVa a)) (.agg (encVa b)) = (match ieq a.k b.k with | true => (match ieq a.n b.n with | true => (match strEq (a.s.map UInt8.toNat) (b.s.map UInt8.toNat) with | true => some true | false => some false) | false => some false) | false => some false) := by kernel_rfl
  rw [h, ieq_dec, ieq_dec, strEq_sA]
  obtain ⟨x, y, z⟩ := a
  obtain ⟨u, v, w⟩ := b
  by_cases h1 : x = u <;> by_cases h2 : y = v <;> by_cases h3 : z = w <;> simp [h1, h2, h3, bd]
/-- two lists, place by place -/
theorem getD_ext {α : Type} [Inhabited α] {a b : List α} (h : a.length = b.length) (k : ∀ j, j < a.length → a.getD j default = b.getD j default) : a = b := by
  apply List.ext_getElem h
  intro i h1 h2
  have := k i h1
  rw [List.getD_eq_getElem?_getD, List.getD_eq_getElem?_getD, List.getElem?_eq_getElem h1, List.getElem?_eq_getElem h2] at this
  exact this
noncomputable def r45_0 : List Oper := ((drawn (Try.f45.body.getD .skip))[0]?).getD []
theorem dr45_0 : chkOrd cF r45_0 [0, 1, 2, 3, 4, 5, 6, 7, 8] = true := by kernel_rfl
theorem k12 (a b : List Sp) (ha : a.length ≤ 100000) (hb : b.length ≤ 100000) : KOk cF 45 [spsA a, spsA b] (.bool (bd (a = b))) := by
  refine KOk.of cF_ok eF.g Try.func45 rfl (Nat.le_of_ble_eq_true rfl) fun w F => ?_
  repeat' first | refine Go.seq ?_ | refine Go.region rfl ?_ | refine Ops.nil ?_ | refine Ops.val eF rfl rfl (by first | exact Want.no rfl | exact Want.tT rfl rfl rfl rfl | exact Want.fF rfl rfl rfl rfl) (by first | exact Hop.move rfl rfl | exact Hop.assign rfl rfl | exact Hop.neq rfl rfl rfl | exact Hop.lenD eF rfl rfl rfl rfl rfl rfl rfl) ?_ | refine Go.condNt rfl (fun _ => ?_) (fun _ => ?_) | refine Go.block ?_ | refine Go.skip ?_ | refine Go.retF rfl ?_ rfl
  · rw [bd_no (fun h => by rename_i hne; exact hne (by rw [h]))]; rfl
  rename_i hlen
  have hlen : a.length = b.length := by omega
  refine Go.loop (fun i : Nat => [(0, spsA a), (1, spsA b), (5, .int .i64 i)]) (fun _ => hp []) (fun i => i ≤ a.length ∧ ∀ j, j < i → a.getD j default = b.getD j default) (fun i => a.length - i) 0 ⟨by omega, fun j hj => by omega⟩ ⟨rfl, rfl, rfl, trivial⟩ rfl (fun i hP ih => ?_)
  obtain ⟨hi, hn⟩ := hP
  repeat' first | refine Go.seq ?_ | refine Go.region rfl ?_ | refine Ops.nil ?_ | refine Ops.val eF rfl rfl (by first | exact Want.no rfl | exact Want.tT rfl rfl rfl rfl | exact Want.fF rfl rfl rfl rfl) (by first | exact Hop.move rfl rfl | exact Hop.assign rfl rfl | exact Hop.lss rfl rfl rfl | exact Hop.lenD eF rfl rfl rfl rfl rfl rfl rfl) ?_ | refine Go.condPt rfl (fun _ => ?_) (fun _ => ?_) | refine Go.block ?_ | refine Go.skip ?_ | refine Go.exit rfl ?_ | refine Go.retF rfl ?_ rfl
  · refine Go.draw eF hm [] [0, 1, 2, 3, 4, 5, 6, 7, 8] dr45_0 ?_
    repeat' first | refine Dr.nil ?_ | refine Dr.pure rfl rfl rfl rfl (by first | exact Want.no rfl | exact Want.tT rfl rfl rfl rfl | exact Want.fF rfl rfl rfl rfl) (by first | exact Hop.move rfl rfl | exact Hop.idx eF rfl rfl rfl rfl rfl rfl rfl (fun _ => rfl) (by omega) | exact Hop.ldRG eF rfl rfl rfl rfl rfl | exact Hop.neD rfl rfl rfl rfl (eqSp _ _)) ?_ | refine Dr.light rfl rfl rfl rfl (by first | exact Want.no rfl | exact Want.tT rfl rfl rfl rfl | exact Want.fF rfl rfl rfl rfl) (by first | exact Hop.ldRG eF rfl rfl rfl rfl rfl) ?_
    repeat' first | refine Go.seq ?_ | refine Go.region rfl ?_ | refine Ops.nil ?_ | refine Ops.val eF rfl rfl (by first | exact Want.no rfl | exact Want.tT rfl rfl rfl rfl | exact Want.fF rfl rfl rfl rfl) (by first | exact Hop.move rfl rfl | exact Hop.assign rfl rfl | exact Hop.add rfl rfl rfl (by omega)) ?_ | refine Go.condNt rfl (fun _ => ?_) (fun _ => ?_) | refine Go.unblk ?_ | refine Go.skip ?_ | refine Go.retF rfl ?_ rfl
    all_goals try simp only [Int.toNat_natCast] at *
    · rw [bd_no (fun h => by rename_i hne; exact hne (by rw [h]))]; rfl
    · refine Go.to (ih (i + 1) ⟨by omega, fun j hj => ?_⟩ (by omega)) ⟨rfl, rfl, rfl, trivial⟩
      rcases lt_succ_cases hj with h | rfl
      · exact hn j h
      · assumption
  · rw [bd_of (getD_ext hlen fun j hj => hn j (by omega))]; rfl

end Go.Px.Fs
end
/- FsO -/
section
set_option linter.unusedVariables false
set_option linter.unusedSimpArgs false
set_option maxHeartbeats 4000000
set_option maxRecDepth 20000
namespace Go.Px.Fs
open Go.Proofs
/-- not too great -/
def FaB (f : Fa) : Prop := f.v.s.length ≤ 100000 ∧ f.l.length ≤ 10000
def FasB (l : List Fa) : Prop := l.length ≤ 10000 ∧ ∀ i, FaB (l.getD i default)
theorem k18 (a b : Fa) (ha : a.v.s.length ≤ 100000) (hb : b.v.s.length ≤ 100000) : KOk cF 47 [.agg (encFa a), .agg (encFa b)] (.int .i64 (cmpFa a b)) := by
  refine KOk.of cF_ok eF.g Try.func47 rfl (Nat.le_of_ble_eq_true rfl) fun w F => ?_
  unfold cmpFa
  rw [orI3]
  repeat' first | refine Go.seq ?_ | refine Go.region rfl ?_ | refine Ops.nil ?_ | refine Ops.val eF rfl rfl (by first | exact Want.no rfl | exact Want.tT rfl rfl rfl rfl | exact Want.fF rfl rfl rfl rfl) (by first | exact Hop.move rfl rfl | exact Hop.assign rfl rfl | exact Hop.pickT rfl rfl rfl | exact Hop.pickF rfl rfl rfl | exact Hop.lss rfl rfl rfl | exact Hop.gtr rfl rfl rfl | exact Hop.eql rfl rfl rfl | exact Hop.faR eF rfl rfl rfl rfl rfl rfl rfl | exact Hop.ldR eF rfl rfl rfl rfl rfl | exact Hop.ldRG eF rfl rfl rfl rfl rfl) ?_ | refine Ops.skip rfl rfl (by first | exact Want.fT rfl rfl rfl rfl | exact Want.tF rfl rfl rfl rfl | exact Want.und rfl rfl rfl rfl) ?_ | refine Ops.gP rfl rfl (fun _ => ?_) (fun _ => ?_) | refine Ops.call eF rfl rfl (by first | exact Want.no rfl | exact Want.tT rfl rfl rfl rfl | exact Want.fF rfl rfl rfl rfl) rfl rfl rfl rfl (k30 a.v b.v ha hb) rfl ?_ | refine Ops.boxR eF rfl rfl (by first | exact Want.no rfl | exact Want.tT rfl rfl rfl rfl | exact Want.fF rfl rfl rfl rfl) rfl rfl rfl rfl ?_ | refine Go.condT rfl ?_ | refine Go.condF rfl ?_ | refine Go.condPt rfl (fun _ => ?_) (fun _ => ?_) | refine Go.skip ?_ | refine Go.retF rfl ?_ rfl
  all_goals first
    | (rw [if_neg (by unfold cmpI; split <;> omega)]; unfold cmpI; first | (rw [if_pos (by omega)]; rfl) | (rw [if_neg (by omega), if_pos (by omega)]; rfl))
    | (rw [if_pos (by unfold cmpI; rw [if_neg (by omega), if_neg (by omega)]), if_neg (by unfold cmpI; split <;> omega)]; unfold cmpI; first | (rw [if_pos (by omega)]; rfl) | (rw [if_neg (by omega), if_pos (by omega)]; rfl))
    | (rw [if_pos (by unfold cmpI; rw [if_neg (by omega), if_neg (by omega)]), if_pos (by unfold cmpI; rw [if_neg (by omega), if_neg (by omega)])]; rfl)
theorem flat_inj {l m : List Sp} (h : l.flatMap encSp = m.flatMap encSp) : l = m := by
  induction l generalizing m with
  | nil => cases m with
    | nil => rfl
    | cons y m => simp [encSp] at h
  | cons x l ih => cases m with
    | nil => simp [encSp] at h
    | cons y m =>
      simp only [List.flatMap_cons, encSp, List.cons_append, List.nil_append] at h
      obtain ⟨h1, g1⟩ := cons_eq h
      obtain ⟨h2, g2⟩ := cons_eq g1
      have e1 := int_eq h1; have e2 := int_eq h2
      have e3 := ih g2
      have e4 : x = y := by cases x; cases y; simp only [] at e1 e2; rw [e1, e2]
      rw [e3, e4]
theorem spsA_eq {l m : List Sp} (h : spsA l = spsA m) : l = m := by
  unfold spsA dsl at h
  injection h with _ _ h
  exact flat_inj h
theorem encFa_eq {a b : Fa} (h : encFa a = encFa b) : a = b := by
  obtain ⟨h1, g1⟩ := cons_eq h
  obtain ⟨h2, g2⟩ := cons_eq g1
  obtain ⟨h3, g3⟩ := cons_eq g2
  obtain ⟨h4, g4⟩ := cons_eq g3
  obtain ⟨h5, g5⟩ := cons_eq g4
  obtain ⟨h6, g6⟩ := cons_eq g5
  have e1 := int_eq h1; have e2 := int_eq h2; have e3 := int_eq h3; have e4 := int_eq h4; have e5 := sA_eq h5; have e6 := spsA_eq h6
  clear h h1 h2 h3 h4 h5 h6 g1 g2 g3 g4 g5 g6
  obtain ⟨e, c, ⟨k, n, s⟩, l⟩ := a; obtain ⟨e', c', ⟨k', n', s'⟩, l'⟩ := b
  simp only [] at e1 e2 e3 e4 e5 e6
  rw [e1, e2, e3, e4, e5, e6]
noncomputable def n18 : Ent cF := ⟨47, {p : Fa × Fa // p.1.v.s.length ≤ 100000 ∧ p.2.v.s.length ≤ 100000}, fun p => [.agg (encFa p.1.1), .agg (encFa p.1.2)], fun p => .int .i64 (cmpFa p.1.1 p.1.2), fun p => k18 _ _ p.2.1 p.2.2, fun _ => rfl, fun a b h => by
  have h := pair_eq h; rw [encFa_eq (agg_eq h.1), encFa_eq (agg_eq h.2)]⟩
/-- the spans of the fact that stands equal -/
noncomputable def findL (l : List Fa) (f : Fa) : List Sp := match l with
  | [] => []
  | x :: l => if cmpFa x f = 0 then x.l else findL l f
theorem findL_at {f : Fa} : ∀ {l : List Fa} {i : Nat}, i < l.length → (∀ j, j < i → cmpFa (l.getD j default) f ≠ 0) → cmpFa (l.getD i default) f = 0 → findL l f = (l.getD i default).l
  | [], i, h, _, _ => by simp at h
  | x :: l, 0, _, _, h => by
    have h : cmpFa x f = 0 := by simpa using h
    simp [findL, h]
  | x :: l, i + 1, h1, h2, h3 => by
    have hx : cmpFa x f ≠ 0 := by simpa using h2 0 (by omega)
    have := findL_at (l := l) (i := i) (by simpa using h1) (fun j hj => by simpa using h2 (j + 1) (by omega)) (by simpa using h3)
    simp only [findL, if_neg hx]
    rw [this]; rfl
theorem findL_0 {f : Fa} : ∀ {l : List Fa}, (∀ j, j < l.length → cmpFa (l.getD j default) f ≠ 0) → findL l f = []
  | [], _ => rfl
  | x :: l, h => by
    have hx : cmpFa x f ≠ 0 := by simpa using h 0 (by simp)
    simp only [findL, if_neg hx]
    exact findL_0 fun j hj => by simpa using h (j + 1) (by simpa using hj)
theorem restL_len (l : List Sp) : (restL l).length ≤ l.length + 1 := by
  have := gapSp_len (gapN l l.length).1 (gapN l l.length).2 9223372036854775807
  have := gapN_len l l.length
  unfold restL; omega
theorem k15 (a b : List Sp) (ha : a.length ≤ 20000) (hb : b.length ≤ 10000) (sa : SetP a) (sb : SetP b) : KOk cF 76 [spsA a, spsA b] (.tup [spsA (meetL a (restL b)), .int .i64 0]) := by
  have ka := k25 a (by omega)
  have kb := k25 b (by omega)
  rw [bd_of sa] at ka
  rw [bd_of sb] at kb
  have hr := restL_len b
  refine KOk.of cF_ok eF.g Try.func76 rfl (Nat.le_of_ble_eq_true rfl) fun w F => ?_
  repeat' first | refine Go.seq ?_ | refine Go.region rfl ?_ | refine Ops.nil ?_ | refine Ops.val eF rfl rfl (by first | exact Want.no rfl | exact Want.tT rfl rfl rfl rfl | exact Want.fF rfl rfl rfl rfl) (by first | exact Hop.move rfl rfl | exact Hop.assign rfl rfl | exact Hop.pickF rfl rfl rfl | exact Hop.not rfl rfl) ?_ | refine Ops.call eF rfl rfl (by first | exact Want.no rfl | exact Want.tT rfl rfl rfl rfl | exact Want.fF rfl rfl rfl rfl) rfl rfl rfl rfl (ka) rfl ?_ | refine Ops.call eF rfl rfl (by first | exact Want.no rfl | exact Want.tT rfl rfl rfl rfl | exact Want.fF rfl rfl rfl rfl) rfl rfl rfl rfl (kb) rfl ?_ | refine Ops.call eF rfl rfl (by first | exact Want.no rfl | exact Want.tT rfl rfl rfl rfl | exact Want.fF rfl rfl rfl rfl) rfl rfl rfl rfl (k27 b (by omega)) rfl ?_ | refine Ops.call eF rfl rfl (by first | exact Want.no rfl | exact Want.tT rfl rfl rfl rfl | exact Want.fF rfl rfl rfl rfl) rfl rfl rfl rfl (k26 a (restL b) ha (by omega)) rfl ?_ | refine Go.condF rfl ?_ | refine Go.skip ?_ | refine Go.retF rfl ?_ rfl
  all_goals rfl
end Go.Px.Fs
end
/- PxTs -/
section
set_option linter.unusedVariables false
namespace Go.Px
section
variable {X : Cx} {tb : List (Nat × TE)} (E : Env X.c tb) {sz : Nat} {rd : Option Nat} {all : Array Oper} {o : Oper} {rest : List Oper} {k : List It} {L : List (Nat × AV)} {h : Heap} {m : List Nat} {Q : Post}
include E
theorem Hop.build0 {t el : Nat} {e ee : TE} (ho : o.op = .buildSlice t 0 #[]) (ht : lkT tb t = some e) (hk : e.k = .slice el) (hel : lkT tb el = some ee) : Hop X L h o (.sl h.nxt 0 0 (some 0) ee.s) (newRow h el 0 .leaf []) := fun e' he => by
  have h1 := (E.t t e ht).sl hk
  have h2 := (E.t el ee hel).size
  rw [ho]; simp only [opA, parts]
  simp only [oBuildSlice, h1, h2, List.map_nil, valH]
theorem Ops.csl0 (n : Nat) {d t el : Nat} {e ee : TE} (hd : o.dst = some d) (hs : Nat.ble (d + 1) sz = true) (hw : Want all L o true) (hn : h.nxt = n) (ho : o.op = .buildSlice t 0 #[]) (ht : lkT tb t = some e) (hk : e.k = .slice el) (hel : lkT tb el = some ee) (nx : Ops X sz rd all rest k ((d, .csl) :: (d, .sl n 0 0 (some 0) ee.s) :: L) (Px.rowAt n h el 0 []) m Q) : Ops X sz rd all (o :: rest) k L h m Q := by
  have hop := Hop.build0 E (X := X) (L := L) (h := h) ho ht hk hel
  rw [hn, row_at hn] at hop
  exact Ops.mem E hd hs hw hop (by rw [← row_at hn]; exact ArrKeep.new rfl) (Ops.change (Chg.weak d (by unfold lkO; rw [Nat.beq_refl]) (weak_csl n 0 ee.s)) nx)
end
end Go.Px
end
/- FsJa -/
section
set_option linter.unusedVariables false
set_option linter.unusedSimpArgs false
set_option maxHeartbeats 4000000
set_option maxRecDepth 20000
namespace Go.Px.Fs
open Go.Proofs
theorem k16 (d : Da) (hd : d.v.s.length ≤ 100000) : KOk cF 24 [.agg (encDa d)] (.bool (bd (DaP d))) := by
  refine KOk.of cF_ok eF.g Try.func24 rfl (Nat.le_of_ble_eq_true rfl) fun w F => ?_
  repeat' first | refine Go.seq ?_ | refine Go.region rfl ?_ | refine Ops.nil ?_ | refine Ops.val eF rfl rfl (by first | exact Want.no rfl | exact Want.tT rfl rfl rfl rfl | exact Want.fF rfl rfl rfl rfl) (by first | exact Hop.move rfl rfl | exact Hop.assign rfl rfl | exact Hop.pickT rfl rfl rfl | exact Hop.pickF rfl rfl rfl | exact Hop.lss rfl rfl rfl | exact Hop.leq rfl rfl rfl | exact Hop.geq rfl rfl rfl | exact Hop.faR eF rfl rfl rfl rfl rfl rfl rfl | exact Hop.ldR eF rfl rfl rfl rfl rfl | exact Hop.ldRG eF rfl rfl rfl rfl rfl) ?_ | refine Ops.skip rfl rfl (by first | exact Want.fT rfl rfl rfl rfl | exact Want.tF rfl rfl rfl rfl | exact Want.und rfl rfl rfl rfl) ?_ | refine Ops.gP rfl rfl (fun _ => ?_) (fun _ => ?_) | refine Ops.call eF rfl rfl (by first | exact Want.no rfl | exact Want.tT rfl rfl rfl rfl | exact Want.fF rfl rfl rfl rfl) rfl rfl rfl rfl (k28 _) rfl ?_ | refine Ops.call eF rfl rfl (by first | exact Want.no rfl | exact Want.tT rfl rfl rfl rfl | exact Want.fF rfl rfl rfl rfl) rfl rfl rfl rfl (k29 d.v hd) rfl ?_ | refine Ops.boxR eF rfl rfl (by first | exact Want.no rfl | exact Want.tT rfl rfl rfl rfl | exact Want.fF rfl rfl rfl rfl) rfl rfl rfl rfl ?_ | refine Go.retF rfl ?_ rfl
  all_goals first
    | (refine out_t ?_; simp [DaP, *]; done)
    | (refine out_f ?_; simp [DaP, *]; done)
    | (refine out_e ?_; simp [DaP, *]; done)
    | (refine out_f ?_; simp [DaP, *]; omega)
    | (refine out_e ?_; simp [DaP, *]; omega)
theorem k42 (d : Da) (hd : d.v.s.length ≤ 100000) : KOk cF 53 [.agg (encDa d)] (.bool (bd (DaP d))) := by
  refine KOk.of cF_ok eF.g Try.func53 rfl (Nat.le_of_ble_eq_true rfl) fun w F => ?_
  by_cases hv : VaP d.v
  · have e : (bif bd (VaP d.v) then (0 : Int) else 10) = 0 := by rw [bd_of hv]; rfl
    have kv := k49 d.v hd
    rw [e] at kv
    repeat' first | refine Go.seq ?_ | refine Go.region rfl ?_ | refine Ops.nil ?_ | refine Ops.val eF rfl rfl (by first | exact Want.no rfl | exact Want.tT rfl rfl rfl rfl | exact Want.fF rfl rfl rfl rfl) (by first | exact Hop.move rfl rfl | exact Hop.assign rfl rfl | exact Hop.pickT rfl rfl rfl | exact Hop.pickF rfl rfl rfl | exact Hop.lss rfl rfl rfl | exact Hop.leq rfl rfl rfl | exact Hop.geq rfl rfl rfl | exact Hop.eql rfl rfl rfl | exact Hop.faR eF rfl rfl rfl rfl rfl rfl rfl | exact Hop.ldR eF rfl rfl rfl rfl rfl | exact Hop.ldRG eF rfl rfl rfl rfl rfl) ?_ | refine Ops.skip rfl rfl (by first | exact Want.fT rfl rfl rfl rfl | exact Want.tF rfl rfl rfl rfl | exact Want.und rfl rfl rfl rfl) ?_ | refine Ops.gT rfl rfl (by first | assumption | decide) ?_ | refine Ops.gP rfl rfl (fun _ => ?_) (fun _ => ?_) | refine Ops.call eF rfl rfl (by first | exact Want.no rfl | exact Want.tT rfl rfl rfl rfl | exact Want.fF rfl rfl rfl rfl) rfl rfl rfl rfl (kv) rfl ?_ | refine Ops.boxR eF rfl rfl (by first | exact Want.no rfl | exact Want.tT rfl rfl rfl rfl | exact Want.fF rfl rfl rfl rfl) rfl rfl rfl rfl ?_ | refine Go.retF rfl ?_ rfl
    all_goals first
      | (refine out_t ?_; simp [DaP, *]; done)
      | (refine out_f ?_; simp [DaP, *]; done)
      | (refine out_e ?_; simp [DaP, *]; done)
      | (refine out_f ?_; simp [DaP, *]; omega)
      | (refine out_e ?_; simp [DaP, *]; omega)
  · have e : (bif bd (VaP d.v) then (0 : Int) else 10) = 10 := by rw [bd_no hv]; rfl
    have kv := k49 d.v hd
    rw [e] at kv
    repeat' first | refine Go.seq ?_ | refine Go.region rfl ?_ | refine Ops.nil ?_ | refine Ops.val eF rfl rfl (by first | exact Want.no rfl | exact Want.tT rfl rfl rfl rfl | exact Want.fF rfl rfl rfl rfl) (by first | exact Hop.move rfl rfl | exact Hop.assign rfl rfl | exact Hop.pickT rfl rfl rfl | exact Hop.pickF rfl rfl rfl | exact Hop.lss rfl rfl rfl | exact Hop.geq rfl rfl rfl | exact Hop.eql rfl rfl rfl | exact Hop.faR eF rfl rfl rfl rfl rfl rfl rfl | exact Hop.ldR eF rfl rfl rfl rfl rfl | exact Hop.ldRG eF rfl rfl rfl rfl rfl) ?_ | refine Ops.skip rfl rfl (by first | exact Want.fT rfl rfl rfl rfl | exact Want.tF rfl rfl rfl rfl | exact Want.und rfl rfl rfl rfl) ?_ | refine Ops.gF rfl rfl (by first | assumption | decide) ?_ | refine Ops.gP rfl rfl (fun _ => ?_) (fun _ => ?_) | refine Ops.call eF rfl rfl (by first | exact Want.no rfl | exact Want.tT rfl rfl rfl rfl | exact Want.fF rfl rfl rfl rfl) rfl rfl rfl rfl (kv) rfl ?_ | refine Ops.boxR eF rfl rfl (by first | exact Want.no rfl | exact Want.tT rfl rfl rfl rfl | exact Want.fF rfl rfl rfl rfl) rfl rfl rfl rfl ?_ | refine Go.retF rfl ?_ rfl
    all_goals first
      | (refine out_f ?_; simp [DaP, *]; done)
      | (refine out_e ?_; simp [DaP, *]; done)
      | (exfalso; omega)
theorem k32 (d : Da) (hd : d.v.s.length ≤ 100000) : KOk cF 39 [.agg (encDa d)] (.int .i64 (bif bd (DaP d) then 0 else 40)) := by
  refine KOk.of cF_ok eF.g Try.func39 rfl (Nat.le_of_ble_eq_true rfl) fun w F => ?_
  repeat' first | refine Go.seq ?_ | refine Go.region rfl ?_ | refine Ops.nil ?_ | refine Ops.val eF rfl rfl (by first | exact Want.no rfl | exact Want.tT rfl rfl rfl rfl | exact Want.fF rfl rfl rfl rfl) (by first | exact Hop.assign rfl rfl | exact Hop.not rfl rfl | exact Hop.ldRG eF rfl rfl rfl rfl rfl) ?_ | refine Ops.call eF rfl rfl (by first | exact Want.no rfl | exact Want.tT rfl rfl rfl rfl | exact Want.fF rfl rfl rfl rfl) rfl rfl rfl rfl (k42 d hd) rfl ?_ | refine Ops.boxR eF rfl rfl (by first | exact Want.no rfl | exact Want.tT rfl rfl rfl rfl | exact Want.fF rfl rfl rfl rfl) rfl rfl rfl rfl ?_ | refine Go.condNt rfl (fun _ => ?_) (fun _ => ?_) | refine Go.skip ?_ | refine Go.retF rfl ?_ rfl
  all_goals first | (rw [bd_of (by assumption)]; rfl) | (rw [bd_no (by assumption)]; rfl)
end Go.Px.Fs
end
/- FsP -/
section
set_option linter.unusedVariables false
set_option linter.unusedSimpArgs false
set_option maxHeartbeats 4000000
set_option maxRecDepth 20000
namespace Go.Px.Fs
open Go.Proofs
theorem eqNil (x : Sp) (l : List Sp) : eqv cF 6 85 (spsA (x :: l)) .nilsl = some false := by kernel_rfl
theorem fl2 (l : List Sp) : (l.flatMap encSp).length = l.length * 2 := flat_len (enc := encSp) (z := 2) (fun _ => rfl) l
theorem k24 (l : List Sp) (hl : l.length ≤ 20000) (h0 : 0 < l.length) : KOk cF 96 [spsA l] (spsA l) := by
  obtain ⟨x, l, rfl⟩ : ∃ x m, l = x :: m := by
    cases l with
    | nil => simp at h0
    | cons x m => exact ⟨x, m, rfl⟩
  refine KOk.of cF_ok eF.g Try.func96 rfl (Nat.le_of_ble_eq_true rfl) fun w F => ?_
  repeat' first | refine Go.seq ?_ | refine Go.region rfl ?_ | refine Ops.nil ?_ | refine Ops.val eF rfl rfl (by first | exact Want.no rfl | exact Want.tT rfl rfl rfl rfl | exact Want.fF rfl rfl rfl rfl) (by exact Hop.eqD rfl rfl rfl rfl (eqNil _ _)) ?_ | refine Ops.val eF rfl rfl (by first | exact Want.no rfl | exact Want.tT rfl rfl rfl rfl | exact Want.fF rfl rfl rfl rfl) (by first | exact Hop.move rfl rfl | exact Hop.assign rfl rfl) ?_ | refine Ops.csl0 eF 0 rfl rfl (by first | exact Want.no rfl | exact Want.tT rfl rfl rfl rfl | exact Want.fF rfl rfl rfl rfl) rfl rfl rfl rfl rfl ?_ | refine Go.condF rfl ?_ | refine Go.skip ?_
  refine Ops.clone eF rfl rfl (Want.no rfl) rfl rfl rfl rfl rfl rfl rfl rfl rfl rfl rfl rfl rfl rfl rfl rfl rfl (dats_flat (fun _ => rfl) _) (fl2 _) (by omega) (by omega) ?_
  repeat' first | refine Ops.nil ?_ | refine Ops.val eF rfl rfl (by first | exact Want.no rfl | exact Want.tT rfl rfl rfl rfl | exact Want.fF rfl rfl rfl rfl) (by first | exact Hop.assign rfl rfl) ?_ | refine Go.retF rfl ?_ rfl
  all_goals rfl
/-- the first that is not less -/
noncomputable def firstG (l : List Fa) (f : Fa) : Nat := match l with
  | [] => 0
  | x :: l => if cmpFa x f < 0 then firstG l f + 1 else 0
theorem firstG_at {f : Fa} : ∀ {l : List Fa} {i : Nat}, i ≤ l.length → (∀ j, j < i → cmpFa (l.getD j default) f < 0) → (i < l.length → ¬ cmpFa (l.getD i default) f < 0) → firstG l f = i
  | [], i, h, _, _ => by simp at h; simp [firstG, h]
  | x :: l, 0, _, _, h => by
    have h : ¬ cmpFa x f < 0 := by simpa using h (by simp)
    simp [firstG, h]
  | x :: l, i + 1, h1, h2, h3 => by
    have hx : cmpFa x f < 0 := by simpa using h2 0 (by omega)
    have := firstG_at (l := l) (i := i) (by simpa using h1) (fun j hj => by simpa using h2 (j + 1) (by omega)) (fun h => by simpa using h3 (by simpa using h))
    simp only [firstG, if_pos hx]
    rw [this]
noncomputable def n22 : Ent cF := ⟨94, Fa × Fa, fun p => [.agg (encFa p.1), .agg (encFa p.2)], fun p => .int .i64 (cmpFa p.1 p.2), fun p => k22 _ _, fun _ => rfl, fun a b h => by
  have h := pair_eq h; rw [encFa_eq (agg_eq h.1), encFa_eq (agg_eq h.2)]⟩
/-- in front of what is less stands what is less -/
def Mono (l : List Fa) (f : Fa) : Prop := ∀ j m, j ≤ m → m < l.length → cmpFa (l.getD m default) f < 0 → cmpFa (l.getD j default) f < 0
noncomputable def r95_0 : List Oper := ((drawn (Try.f95.body.getD .skip))[0]?).getD []
theorem dr95_0 : chkOrd cF r95_0 [0, 1, 2, 3, 4, 5, 6, 7] = true := by kernel_rfl
noncomputable def r95_1 : List Oper := ((drawn (Try.f95.body.getD .skip))[1]?).getD []
theorem dr95_1 : chkOrd cF r95_1 [1, 2, 3, 4, 5, 6, 7, 8, 9, 10, 11, 0, 12, 13, 14, 15] = true := by kernel_rfl
theorem k23 (l : List Fa) (f : Fa) (hl : FasB l) (hmo : Mono l f) : KOk cF 95 [fasA l, .agg (encFa f), .fn (.func 94) [] []] (.tup [.int .i64 (firstG l f), .bool (bd (firstG l f < l.length ∧ cmpFa (l.getD (firstG l f) default) f = 0))]) := by
  have hn := hl.1
  refine KOk.of cF_ok eF.g Try.func95 rfl (Nat.le_of_ble_eq_true rfl) fun w F => ?_
  repeat' first | refine Go.seq ?_ | refine Go.region rfl ?_ | refine Ops.nil ?_ | refine Ops.val eF rfl rfl (by first | exact Want.no rfl | exact Want.tT rfl rfl rfl rfl | exact Want.fF rfl rfl rfl rfl) (by first | exact Hop.move rfl rfl | exact Hop.assign rfl rfl | exact Hop.lenD eF rfl rfl rfl rfl rfl rfl rfl) ?_ | refine Ops.boxR eF rfl rfl (by first | exact Want.no rfl | exact Want.tT rfl rfl rfl rfl | exact Want.fF rfl rfl rfl rfl) rfl rfl rfl rfl ?_ | refine Go.block ?_
  refine Go.loop (fun s : Nat × Nat => [(0, fasA l), (2, .fn (.func 94) [] []), (4, .rptr (encFa f)), (8, .int .i64 l.length), (9, .int .i64 s.1), (10, .int .i64 s.2)]) (fun _ => hS) (fun s => s.1 ≤ s.2 ∧ s.2 ≤ l.length ∧ (∀ j, j < s.1 → cmpFa (l.getD j default) f < 0) ∧ (s.2 < l.length → ¬ cmpFa (l.getD s.2 default) f < 0)) (fun s => s.2 - s.1) (0, l.length) ⟨by simp, by simp, fun j hj => by simp at hj, fun h => by simp at h⟩ ⟨rfl, rfl, rfl, rfl, rfl, rfl, trivial⟩ rfl (fun s hP ih => ?_)
  obtain ⟨lo, hi⟩ := s
  obtain ⟨h1, h2, h3, h4⟩ := hP
  simp only [] at h1 h2 h3 h4 ih ⊢
  repeat' first | refine Go.seq ?_ | refine Go.region rfl ?_ | refine Ops.nil ?_ | refine Ops.val eF rfl rfl (by first | exact Want.no rfl | exact Want.tT rfl rfl rfl rfl | exact Want.fF rfl rfl rfl rfl) (by first | exact Hop.move rfl rfl | exact Hop.assign rfl rfl | exact Hop.lss rfl rfl rfl | exact Hop.add rfl rfl rfl (by omega) | exact Hop.half rfl rfl rfl (by omega) | exact Hop.conv eF rfl rfl rfl rfl rfl (wr_i64 (by omega)) | exact Hop.conv eF rfl rfl rfl rfl rfl (wr_u64 (by omega))) ?_ | refine Go.condPt rfl (fun _ => ?_) (fun _ => ?_) | refine Go.block ?_ | refine Go.skip ?_ | refine Go.exit rfl ?_
  · have em : ((((lo : Int) + hi) / 2).toNat) = (lo + hi) / 2 := by omega
    refine Go.draw eF hm [n22] [0, 1, 2, 3, 4, 5, 6, 7] dr95_0 ?_
    repeat' first | refine Dr.nil ?_ | refine Dr.pure rfl rfl rfl rfl (by first | exact Want.no rfl | exact Want.tT rfl rfl rfl rfl | exact Want.fF rfl rfl rfl rfl) (by first | exact Hop.move rfl rfl | exact Hop.lss rfl rfl rfl | exact Hop.idx eF rfl rfl rfl rfl rfl rfl rfl (fun _ => rfl) (by omega) | exact Hop.ldRG eF rfl rfl rfl rfl rfl) ?_ | refine Dr.light rfl rfl rfl rfl (by first | exact Want.no rfl | exact Want.tT rfl rfl rfl rfl | exact Want.fF rfl rfl rfl rfl) (by first | exact Hop.ldRG eF rfl rfl rfl rfl rfl) ?_ | refine Dr.call rfl rfl rfl rfl (by first | exact Want.no rfl | exact Want.tT rfl rfl rfl rfl | exact Want.fF rfl rfl rfl rfl) rfl rfl rfl rfl (by first | exact pans_hd (_, _) rfl rfl) ?_
    repeat' first | refine Go.region rfl ?_ | refine Ops.nil ?_ | refine Ops.val eF rfl rfl (by first | exact Want.no rfl | exact Want.tT rfl rfl rfl rfl | exact Want.fF rfl rfl rfl rfl) (by first | exact Hop.move rfl rfl | exact Hop.assign rfl rfl | exact Hop.add rfl rfl rfl (by omega)) ?_ | refine Go.condPt rfl (fun _ => ?_) (fun _ => ?_) | refine Go.unblk ?_
    all_goals try simp only [em] at *
    · rename_i q1 q2
      refine Go.to (ih ((lo + hi) / 2 + 1, hi) ⟨by simp only []; omega, h2, fun j hj => ?_, h4⟩ (by simp only []; omega)) ⟨rfl, rfl, rfl, rfl, ?_, rfl, trivial⟩
      · simp only [] at hj
        exact hmo j ((lo + hi) / 2) (by omega) (by omega) q2
      · show some (AV.int .i64 _) = some (AV.int .i64 _)
        congr 2
    · rename_i q1 q2
      refine Go.to (ih (lo, (lo + hi) / 2) ⟨by simp only []; omega, by simp only []; omega, h3, fun _ => q2⟩ (by simp only []; omega)) ⟨rfl, rfl, rfl, rfl, rfl, ?_, trivial⟩
      show some (AV.int .i64 _) = some (AV.int .i64 _)
      congr 2
  · rename_i q1
    have : lo = hi := by omega
    subst this
    have hg := firstG_at (l := l) (f := f) (i := lo) h2 h3 h4
    refine Go.draw eF hm [n22] [1, 2, 3, 4, 5, 6, 7, 8, 9, 10, 11, 0, 12, 13, 14, 15] dr95_1 ?_
    repeat' first | refine Dr.nil ?_ | refine Dr.pure rfl rfl rfl rfl (by first | exact Want.no rfl | exact Want.tT rfl rfl rfl rfl | exact Want.fF rfl rfl rfl rfl) (by first | exact Hop.move rfl rfl | exact Hop.assign rfl rfl | exact Hop.pickT rfl rfl rfl | exact Hop.pickF rfl rfl rfl | exact Hop.lss rfl rfl rfl | exact Hop.eql rfl rfl rfl | exact Hop.idx eF rfl rfl rfl rfl rfl rfl rfl (fun _ => rfl) (by omega) | exact Hop.ldRG eF rfl rfl rfl rfl rfl) ?_ | refine Dr.light rfl rfl rfl rfl (by first | exact Want.no rfl | exact Want.tT rfl rfl rfl rfl | exact Want.fF rfl rfl rfl rfl) (by first | exact Hop.ldRG eF rfl rfl rfl rfl rfl) ?_ | refine Dr.skip rfl rfl rfl (by first | exact Want.fT rfl rfl rfl rfl | exact Want.tF rfl rfl rfl rfl | exact Want.und rfl rfl rfl rfl) ?_ | refine Dr.gP rfl rfl (fun _ => ?_) (fun _ => ?_) | refine Dr.call rfl rfl rfl rfl (by first | exact Want.no rfl | exact Want.tT rfl rfl rfl rfl | exact Want.fF rfl rfl rfl rfl) rfl rfl rfl rfl (by first | exact pans_hd (_, _) rfl rfl) ?_
    repeat' first | refine Go.retF rfl ?_ rfl
    · rename_i q2
      rw [hg]
      show AV.tup [.int .i64 lo, .bool (bd (cmpFa (l.getD lo default) f = 0))] = _
      rw [bd_eq (p := cmpFa (l.getD lo default) f = 0) (q := lo < l.length ∧ cmpFa (l.getD lo default) f = 0) ⟨fun h => ⟨by omega, h⟩, fun h => h.2⟩]
    · rename_i q2
      rw [hg, bd_no (p := lo < l.length ∧ cmpFa (l.getD lo default) f = 0) (fun h => q2 (by omega))]; rfl
end Go.Px.Fs
end
/- FsQ -/
section
set_option linter.unusedVariables false
set_option linter.unusedSimpArgs false
set_option maxHeartbeats 4000000
set_option maxRecDepth 20000
namespace Go.Px.Fs
open Go.Proofs
attribute [local irreducible] Go.Px.KOk
def mkDa (f : Fa) : Da := ⟨f.e, f.a, f.v, 1, false, 0, 1⟩
/-- may a fact be -/
def MayF (f : Fa) : Prop := DaP (mkDa f) ∧ 0 < f.l.length ∧ SetP f.l
theorem k21 (f : Fa) (hf : FaB f) : KOk cF 93 [.agg (encFa f)] (.bool (bd (MayF f))) := by
  have k1 := k32 (mkDa f) hf.1
  have k2 := k33 f.l (by have := hf.2; omega)
  refine KOk.of cF_ok eF.g Try.func93 rfl (Nat.le_of_ble_eq_true rfl) fun w F => ?_
  by_cases h1 : DaP (mkDa f)
  · rw [bd_of h1] at k1
    have k1 : KOk cF 39 [.agg (encDa (mkDa f))] (.int .i64 0) := k1
    by_cases h2 : SetP f.l
    · rw [bd_of h2] at k2
      have k2 : KOk cF 121 [spsA f.l] (.int .i64 0) := k2
      repeat' first | refine Go.seq ?_ | refine Go.region rfl ?_ | refine Ops.nil ?_ | refine Ops.val (d := 10) (v := .agg (encDa (mkDa f))) eF rfl rfl (by first | exact Want.no rfl | exact Want.tT rfl rfl rfl rfl | exact Want.fF rfl rfl rfl rfl) (by exact Hop.build eF rfl rfl rfl rfl rfl rfl rfl) ?_ | refine Ops.val eF rfl rfl (by first | exact Want.no rfl | exact Want.tT rfl rfl rfl rfl | exact Want.fF rfl rfl rfl rfl) (by first | exact Hop.move rfl rfl | exact Hop.assign rfl rfl | exact Hop.pickT rfl rfl rfl | exact Hop.pickF rfl rfl rfl | exact Hop.gtr rfl rfl rfl | exact Hop.eql rfl rfl rfl | exact Hop.faR eF rfl rfl rfl rfl rfl rfl rfl | exact Hop.ldR eF rfl rfl rfl rfl rfl | exact Hop.ldRG eF rfl rfl rfl rfl rfl | exact Hop.ldPG eF rfl rfl rfl rfl rfl rfl rfl | exact Hop.lenD eF rfl rfl rfl rfl rfl rfl rfl) ?_ | refine Ops.skip rfl rfl (by first | exact Want.fT rfl rfl rfl rfl | exact Want.tF rfl rfl rfl rfl | exact Want.und rfl rfl rfl rfl) ?_ | refine Ops.gT rfl rfl (by first | assumption | decide) ?_ | refine Ops.gP rfl rfl (fun _ => ?_) (fun _ => ?_) | refine Ops.call eF rfl rfl (by first | exact Want.no rfl | exact Want.tT rfl rfl rfl rfl | exact Want.fF rfl rfl rfl rfl) rfl rfl rfl rfl (k1) rfl ?_ | refine Ops.call eF rfl rfl (by first | exact Want.no rfl | exact Want.tT rfl rfl rfl rfl | exact Want.fF rfl rfl rfl rfl) rfl rfl rfl rfl (k2) rfl ?_ | refine Ops.boxR eF rfl rfl (by first | exact Want.no rfl | exact Want.tT rfl rfl rfl rfl | exact Want.fF rfl rfl rfl rfl) rfl rfl rfl rfl ?_ | refine Ops.rowAt eF 0 rfl rfl (by first | exact Want.no rfl | exact Want.tT rfl rfl rfl rfl | exact Want.fF rfl rfl rfl rfl) rfl (Hop.alloc eF rfl rfl rfl) ?_ | refine Ops.unit eF rfl (by first | exact Want.no rfl | exact Want.tT rfl rfl rfl rfl | exact Want.fF rfl rfl rfl rfl) (Hop.store eF rfl rfl rfl rfl rfl rfl) (ArrKeep.put rfl) ?_ | refine Go.retF rfl ?_ rfl
      all_goals first
        | (refine out_t ?_; refine ⟨h1, ?_, h2⟩; omega)
        | (refine out_f ?_; intro q; have := q.2.1; omega)
        | (refine out_e ?_; exact ⟨fun _ => ⟨h1, by omega, h2⟩, fun _ => by first | omega | rfl⟩)
    · rw [bd_no h2] at k2
      have k2 : KOk cF 121 [spsA f.l] (.int .i64 30) := k2
      repeat' first | refine Go.seq ?_ | refine Go.region rfl ?_ | refine Ops.nil ?_ | refine Ops.val (d := 10) (v := .agg (encDa (mkDa f))) eF rfl rfl (by first | exact Want.no rfl | exact Want.tT rfl rfl rfl rfl | exact Want.fF rfl rfl rfl rfl) (by exact Hop.build eF rfl rfl rfl rfl rfl rfl rfl) ?_ | refine Ops.val eF rfl rfl (by first | exact Want.no rfl | exact Want.tT rfl rfl rfl rfl | exact Want.fF rfl rfl rfl rfl) (by first | exact Hop.move rfl rfl | exact Hop.assign rfl rfl | exact Hop.pickT rfl rfl rfl | exact Hop.pickF rfl rfl rfl | exact Hop.gtr rfl rfl rfl | exact Hop.eql rfl rfl rfl | exact Hop.faR eF rfl rfl rfl rfl rfl rfl rfl | exact Hop.ldR eF rfl rfl rfl rfl rfl | exact Hop.ldRG eF rfl rfl rfl rfl rfl | exact Hop.ldPG eF rfl rfl rfl rfl rfl rfl rfl | exact Hop.lenD eF rfl rfl rfl rfl rfl rfl rfl) ?_ | refine Ops.skip rfl rfl (by first | exact Want.fT rfl rfl rfl rfl | exact Want.tF rfl rfl rfl rfl | exact Want.und rfl rfl rfl rfl) ?_ | refine Ops.gT rfl rfl (by first | assumption | decide) ?_ | refine Ops.gP rfl rfl (fun _ => ?_) (fun _ => ?_) | refine Ops.call eF rfl rfl (by first | exact Want.no rfl | exact Want.tT rfl rfl rfl rfl | exact Want.fF rfl rfl rfl rfl) rfl rfl rfl rfl (k1) rfl ?_ | refine Ops.call eF rfl rfl (by first | exact Want.no rfl | exact Want.tT rfl rfl rfl rfl | exact Want.fF rfl rfl rfl rfl) rfl rfl rfl rfl (k2) rfl ?_ | refine Ops.boxR eF rfl rfl (by first | exact Want.no rfl | exact Want.tT rfl rfl rfl rfl | exact Want.fF rfl rfl rfl rfl) rfl rfl rfl rfl ?_ | refine Ops.rowAt eF 0 rfl rfl (by first | exact Want.no rfl | exact Want.tT rfl rfl rfl rfl | exact Want.fF rfl rfl rfl rfl) rfl (Hop.alloc eF rfl rfl rfl) ?_ | refine Ops.unit eF rfl (by first | exact Want.no rfl | exact Want.tT rfl rfl rfl rfl | exact Want.fF rfl rfl rfl rfl) (Hop.store eF rfl rfl rfl rfl rfl rfl) (ArrKeep.put rfl) ?_ | refine Go.retF rfl ?_ rfl
      all_goals first
        | (refine out_f ?_; intro q; exact h2 q.2.2)
        | (refine out_e ?_; exact ⟨fun q => absurd q (by decide), fun q => absurd q.2.2 h2⟩)
  · rw [bd_no h1] at k1
    have k1 : KOk cF 39 [.agg (encDa (mkDa f))] (.int .i64 40) := k1
    repeat' first | refine Go.seq ?_ | refine Go.region rfl ?_ | refine Ops.nil ?_ | refine Ops.val (d := 10) (v := .agg (encDa (mkDa f))) eF rfl rfl (by first | exact Want.no rfl | exact Want.tT rfl rfl rfl rfl | exact Want.fF rfl rfl rfl rfl) (by exact Hop.build eF rfl rfl rfl rfl rfl rfl rfl) ?_ | refine Ops.val eF rfl rfl (by first | exact Want.no rfl | exact Want.tT rfl rfl rfl rfl | exact Want.fF rfl rfl rfl rfl) (by first | exact Hop.move rfl rfl | exact Hop.assign rfl rfl | exact Hop.pickF rfl rfl rfl | exact Hop.eql rfl rfl rfl | exact Hop.faR eF rfl rfl rfl rfl rfl rfl rfl | exact Hop.ldR eF rfl rfl rfl rfl rfl | exact Hop.ldRG eF rfl rfl rfl rfl rfl | exact Hop.ldPG eF rfl rfl rfl rfl rfl rfl rfl) ?_ | refine Ops.skip rfl rfl (by first | exact Want.fT rfl rfl rfl rfl | exact Want.tF rfl rfl rfl rfl | exact Want.und rfl rfl rfl rfl) ?_ | refine Ops.gF rfl rfl (by first | assumption | decide) ?_ | refine Ops.call eF rfl rfl (by first | exact Want.no rfl | exact Want.tT rfl rfl rfl rfl | exact Want.fF rfl rfl rfl rfl) rfl rfl rfl rfl (k1) rfl ?_ | refine Ops.boxR eF rfl rfl (by first | exact Want.no rfl | exact Want.tT rfl rfl rfl rfl | exact Want.fF rfl rfl rfl rfl) rfl rfl rfl rfl ?_ | refine Ops.rowAt eF 0 rfl rfl (by first | exact Want.no rfl | exact Want.tT rfl rfl rfl rfl | exact Want.fF rfl rfl rfl rfl) rfl (Hop.alloc eF rfl rfl rfl) ?_ | refine Ops.unit eF rfl (by first | exact Want.no rfl | exact Want.tT rfl rfl rfl rfl | exact Want.fF rfl rfl rfl rfl) (Hop.store eF rfl rfl rfl rfl rfl rfl) (ArrKeep.put rfl) ?_ | refine Go.retF rfl ?_ rfl
    all_goals first
      | (refine out_f ?_; intro q; exact h1 q.1)
      | (refine out_e ?_; exact ⟨fun q => absurd q (by decide), fun q => absurd q.1 h1⟩)
/-- may a list of facts be -/
def OkF (l : List Fa) (i : Nat) : Prop := MayF (l.getD i default) ∧ (0 < i → cmpFa (l.getD (i - 1) default) (l.getD i default) < 0)
def AllP (l : List Fa) : Prop := ∀ i, i < l.length → OkF l i
noncomputable def n21 : Ent cF := ⟨93, {f : Fa // FaB f}, fun p => [.agg (encFa p.1)], fun p => .bool (bd (MayF p.1)), fun p => k21 _ p.2, fun _ => rfl, fun a b h => by
  rw [encFa_eq (agg_eq (cons_eq h).1)]⟩
noncomputable def r74_0 : List Oper := ((drawn (Try.f74.body.getD .skip))[0]?).getD []
theorem dr74_0 : chkOrd cF r74_0 [0, 1, 2, 3, 4, 5, 6, 7, 8, 9, 10, 11, 12, 13, 14, 15, 16] = true := by kernel_rfl
theorem k13 (l : List Fa) (hl : FasB l) : KOk cF 74 [fasA l] (.bool (bd (AllP l))) := by
  have hn := hl.1
  refine KOk.of cF_ok eF.g Try.func74 rfl (Nat.le_of_ble_eq_true rfl) fun w F => ?_
  repeat' first | refine Go.seq ?_ | refine Go.region rfl ?_ | refine Ops.nil ?_ | refine Ops.val eF rfl rfl (by first | exact Want.no rfl | exact Want.tT rfl rfl rfl rfl | exact Want.fF rfl rfl rfl rfl) (by first | exact Hop.move rfl rfl | exact Hop.assign rfl rfl | exact Hop.lenD eF rfl rfl rfl rfl rfl rfl rfl) ?_ | refine Go.block ?_
  refine Go.loop (fun i : Nat => [(0, fasA l), (5, fasA l), (6, .int .i64 l.length), (7, .int .i64 i)]) (fun _ => hp []) (fun i => i ≤ l.length ∧ ∀ j, j < i → OkF l j) (fun i => l.length - i) 0 ⟨by omega, fun j hj => by omega⟩ ⟨rfl, rfl, rfl, rfl, trivial⟩ rfl (fun i hP ih => ?_)
  obtain ⟨hi, hq⟩ := hP
  have e1 : ((i : Int) - 1).toNat = i - 1 := by omega
  repeat' first | refine Go.seq ?_ | refine Go.region rfl ?_ | refine Ops.nil ?_ | refine Ops.val eF rfl rfl (by first | exact Want.no rfl | exact Want.tT rfl rfl rfl rfl | exact Want.fF rfl rfl rfl rfl) (by first | exact Hop.move rfl rfl | exact Hop.assign rfl rfl | exact Hop.lss rfl rfl rfl | exact Hop.idx eF rfl rfl rfl rfl rfl rfl rfl (fun _ => rfl) (by omega) | exact Hop.ldRG eF rfl rfl rfl rfl rfl) ?_ | refine Ops.rowAt eF 0 rfl rfl (by first | exact Want.no rfl | exact Want.tT rfl rfl rfl rfl | exact Want.fF rfl rfl rfl rfl) rfl (Hop.alloc eF rfl rfl rfl) ?_ | refine Ops.unit eF rfl (by first | exact Want.no rfl | exact Want.tT rfl rfl rfl rfl | exact Want.fF rfl rfl rfl rfl) (Hop.store eF rfl rfl rfl rfl rfl rfl) (ArrKeep.put rfl) ?_ | refine Go.condPt rfl (fun _ => ?_) (fun _ => ?_) | refine Go.block ?_ | refine Go.skip ?_ | refine Go.exit rfl ?_ | refine Go.retF rfl ?_ rfl
  · refine Go.draw eF hm [n21, n22] [0, 1, 2, 3, 4, 5, 6, 7, 8, 9, 10, 11, 12, 13, 14, 15, 16] dr74_0 ?_
    repeat' first | refine Dr.nil ?_ | refine Dr.pure rfl rfl rfl rfl (by first | exact Want.no rfl | exact Want.tT rfl rfl rfl rfl | exact Want.fF rfl rfl rfl rfl) (by first | exact Hop.move rfl rfl | exact Hop.pickT rfl rfl rfl | exact Hop.pickF rfl rfl rfl | exact Hop.not rfl rfl | exact Hop.gtr rfl rfl rfl | exact Hop.geq rfl rfl rfl | exact Hop.sub rfl rfl rfl (by omega) | exact Hop.idx eF rfl rfl rfl rfl rfl rfl rfl (fun _ => rfl) (by omega) | exact Hop.ldRG eF rfl rfl rfl rfl rfl | exact Hop.ldPG eF rfl rfl rfl rfl rfl rfl rfl) ?_ | refine Dr.light rfl rfl rfl rfl (by first | exact Want.no rfl | exact Want.tT rfl rfl rfl rfl | exact Want.fF rfl rfl rfl rfl) (by first | exact Hop.ldRG eF rfl rfl rfl rfl rfl | exact Hop.ldPG eF rfl rfl rfl rfl rfl rfl rfl) ?_ | refine Dr.skip rfl rfl rfl (by first | exact Want.fT rfl rfl rfl rfl | exact Want.tF rfl rfl rfl rfl | exact Want.und rfl rfl rfl rfl) ?_ | refine Dr.gP rfl rfl (fun _ => ?_) (fun _ => ?_) | refine Dr.gN rfl rfl (fun _ => ?_) (fun _ => ?_) | refine Dr.call rfl rfl rfl rfl (by first | exact Want.no rfl | exact Want.tT rfl rfl rfl rfl | exact Want.fF rfl rfl rfl rfl) rfl rfl rfl rfl (by first | exact pans_hd (Subtype.mk _ (hl.2 _)) rfl rfl | exact pans_tl rfl (pans_hd (_, _) rfl rfl)) ?_
    repeat' first | refine Go.seq ?_ | refine Go.region rfl ?_ | refine Ops.nil ?_ | refine Ops.val eF rfl rfl (by first | exact Want.no rfl | exact Want.tT rfl rfl rfl rfl | exact Want.fF rfl rfl rfl rfl) (by first | exact Hop.move rfl rfl | exact Hop.assign rfl rfl | exact Hop.add rfl rfl rfl (by omega)) ?_ | refine Go.condT rfl ?_ | refine Go.condF rfl ?_ | refine Go.condPt rfl (fun _ => ?_) (fun _ => ?_) | refine Go.unblk ?_ | refine Go.skip ?_ | refine Go.retF rfl ?_ rfl
    · rename_i q1 q2
      have q2 : ¬ MayF (l.getD (i : Int).toNat default) := q2
      rw [Int.toNat_natCast] at q2
      exact out_f fun h => q2 (h i (by omega)).1
    · rename_i q1 q2 q3 q4
      have q4 : 0 ≤ cmpFa (l.getD ((i : Int) - 1).toNat default) (l.getD (i : Int).toNat default) := q4
      rw [e1, Int.toNat_natCast] at q4
      exact out_f fun h => by have := (h i (by omega)).2 (by omega); omega
    · rename_i q1 q2 q3 q4
      have q2 : MayF (l.getD (i : Int).toNat default) := q2
      have q4 : ¬ 0 ≤ cmpFa (l.getD ((i : Int) - 1).toNat default) (l.getD (i : Int).toNat default) := q4
      rw [Int.toNat_natCast] at q2
      rw [e1, Int.toNat_natCast] at q4
      refine Go.toC (bs := []) (ih (i + 1) ⟨by omega, fun j hj => ?_⟩ (by omega)) eF.g ⟨rfl, rfl, rfl, rfl, trivial⟩ rfl rfl trivial trivial rfl rfl
      rcases lt_succ_cases hj with h | rfl
      · exact hq j h
      · exact ⟨q2, fun _ => by omega⟩
    · rename_i q1 q2 q3
      have q2 : MayF (l.getD (i : Int).toNat default) := q2
      rw [Int.toNat_natCast] at q2
      refine Go.toC (bs := []) (ih (i + 1) ⟨by omega, fun j hj => ?_⟩ (by omega)) eF.g ⟨rfl, rfl, rfl, rfl, trivial⟩ rfl rfl trivial trivial rfl rfl
      rcases lt_succ_cases hj with h | rfl
      · exact hq j h
      · exact ⟨q2, fun h => absurd h (by omega)⟩
  · rw [bd_of (p := AllP l) (fun j hj => hq j (by omega))]; rfl
end Go.Px.Fs
end
/- FsR -/
section
set_option linter.unusedVariables false
set_option linter.unusedSimpArgs false
set_option maxHeartbeats 4000000
set_option maxRecDepth 20000
namespace Go.Px.Fs
open Go.Proofs
attribute [local irreducible] Go.Px.KOk
theorem encDa_eq {a b : Da} (h : encDa a = encDa b) : a = b := by
  obtain ⟨h1, g1⟩ := cons_eq h
  obtain ⟨h2, g2⟩ := cons_eq g1
  obtain ⟨h3, g3⟩ := cons_eq g2
  obtain ⟨h4, g4⟩ := cons_eq g3
  obtain ⟨h5, g5⟩ := cons_eq g4
  obtain ⟨h6, g6⟩ := cons_eq g5
  obtain ⟨h7, g7⟩ := cons_eq g6
  obtain ⟨h8, g8⟩ := cons_eq g7
  obtain ⟨h9, g9⟩ := cons_eq g8
  have e1 := int_eq h1; have e2 := int_eq h2; have e3 := int_eq h3; have e4 := int_eq h4; have e5 := sA_eq h5; have e6 := int_eq h6; have e8 := int_eq h8; have e9 := int_eq h9
  have e7 : a.add = b.add := by injection h7
  clear h h1 h2 h3 h4 h5 h6 h7 h8 h9 g1 g2 g3 g4 g5 g6 g7 g8 g9
  obtain ⟨e, c, ⟨k, n, s⟩, t, ad, fr, to⟩ := a; obtain ⟨e', c', ⟨k', n', s'⟩, t', ad', fr', to'⟩ := b
  simp only [] at e1 e2 e3 e4 e5 e6 e7 e8 e9
  rw [e1, e2, e3, e4, e5, e6, e7, e8, e9]
noncomputable def n16 : Ent cF := ⟨24, {d : Da // d.v.s.length ≤ 100000}, fun p => [.agg (encDa p.1)], fun p => .bool (bd (DaP p.1)), fun p => k16 _ p.2, fun _ => rfl, fun a b h => by
  show AV.bool (bd (DaP a.1)) = AV.bool (bd (DaP b.1))
  rw [encDa_eq (agg_eq (cons_eq h).1)]⟩
noncomputable def n17 : Ent cF := ⟨46, {l : List Sp // l.length ≤ 100000}, fun p => [spsA p.1], fun p => .bool (bd (SetP p.1)), fun p => k17 _ p.2, fun _ => rfl, fun a b h => by
  rw [spsA_eq (cons_eq h).1]⟩
noncomputable def r23_0 : List Oper := ((drawn (Try.f23.body.getD .skip))[0]?).getD []
theorem dr23_0 : chkOrd cF r23_0 [0, 1, 2, 3, 4, 5, 6, 7, 8, 9, 10, 11, 12, 13, 14, 15, 16, 17] = true := by kernel_rfl
noncomputable def r23_1 : List Oper := ((drawn (Try.f23.body.getD .skip))[1]?).getD []
theorem dr23_1 : chkOrd cF r23_1 [0, 1, 2, 3, 4, 5, 6, 7, 8, 9, 10, 11, 12, 13, 14, 15, 16, 17, 18, 19, 20, 21, 22, 23, 24, 25, 26, 27, 28, 29, 30, 31, 32, 33, 34, 35, 36, 37] = true := by kernel_rfl
theorem k10 (l : List Fa) (hl : FasB l) : KOk cF 23 [fasA l] (.bool (bd (AllP l))) := by
  have hn := hl.1
  refine KOk.of cF_ok eF.g Try.func23 rfl (Nat.le_of_ble_eq_true rfl) fun w F => ?_
  repeat' first | refine Go.seq ?_ | refine Go.region rfl ?_ | refine Ops.nil ?_ | refine Ops.val eF rfl rfl (by first | exact Want.no rfl | exact Want.tT rfl rfl rfl rfl | exact Want.fF rfl rfl rfl rfl) (by first | exact Hop.assign rfl rfl) ?_ | refine Go.block ?_
  refine Go.loop (fun i : Nat => [(0, fasA l), (3, .int .i64 i)]) (fun _ => hp []) (fun i => i ≤ l.length ∧ ∀ j, j < i → OkF l j) (fun i => l.length - i) 0 ⟨by omega, fun j hj => by omega⟩ ⟨rfl, rfl, trivial⟩ rfl (fun i hP ih => ?_)
  obtain ⟨hi, hq⟩ := hP
  have e1 : ((i : Int) - 1).toNat = i - 1 := by omega
  repeat' first | refine Go.seq ?_ | refine Go.region rfl ?_ | refine Ops.nil ?_ | refine Ops.val eF rfl rfl (by first | exact Want.no rfl | exact Want.tT rfl rfl rfl rfl | exact Want.fF rfl rfl rfl rfl) (by first | exact Hop.move rfl rfl | exact Hop.assign rfl rfl | exact Hop.lss rfl rfl rfl | exact Hop.lenD eF rfl rfl rfl rfl rfl rfl rfl) ?_ | refine Go.condPt rfl (fun _ => ?_) (fun _ => ?_) | refine Go.block ?_ | refine Go.skip ?_ | refine Go.exit rfl ?_ | refine Go.retF rfl ?_ rfl
  · have hb : FaB (l.getD (i : Int).toNat default) := hl.2 _
    have hb1 : (l.getD (i : Int).toNat default).l.length ≤ 100000 := by have := hb.2; omega
    refine Go.draw eF hm [] [0, 1, 2, 3, 4, 5, 6, 7, 8, 9, 10, 11, 12, 13, 14, 15, 16, 17] dr23_0 ?_
    repeat' first | refine Dr.nil ?_ | refine Dr.pure (d := 26) (v := .agg (encDa (mkDa (l.getD (i : Int).toNat default)))) rfl rfl rfl rfl (by first | exact Want.no rfl | exact Want.tT rfl rfl rfl rfl | exact Want.fF rfl rfl rfl rfl) (by exact Hop.build eF rfl rfl rfl rfl rfl rfl rfl) ?_ | refine Dr.pure rfl rfl rfl rfl (by first | exact Want.no rfl | exact Want.tT rfl rfl rfl rfl | exact Want.fF rfl rfl rfl rfl) (by first | exact Hop.move rfl rfl | exact Hop.faR eF rfl rfl rfl rfl rfl rfl rfl | exact Hop.idx eF rfl rfl rfl rfl rfl rfl rfl (fun _ => rfl) (by omega) | exact Hop.ldR eF rfl rfl rfl rfl rfl | exact Hop.ldRG eF rfl rfl rfl rfl rfl) ?_ | refine Dr.light rfl rfl rfl rfl (by first | exact Want.no rfl | exact Want.tT rfl rfl rfl rfl | exact Want.fF rfl rfl rfl rfl) (by first | exact Hop.ldR eF rfl rfl rfl rfl rfl | exact Hop.ldRG eF rfl rfl rfl rfl rfl) ?_ | refine Dr.rowAt 0 rfl rfl rfl rfl (by first | exact Want.no rfl | exact Want.tT rfl rfl rfl rfl | exact Want.fF rfl rfl rfl rfl) rfl (Hop.alloc eF rfl rfl rfl) ?_ | refine Dr.store rfl rfl rfl (by first | exact Want.no rfl | exact Want.tT rfl rfl rfl rfl | exact Want.fF rfl rfl rfl rfl) (Hop.store eF rfl rfl rfl rfl rfl rfl) (ArrKeep.put rfl) rfl ?_
    repeat' first | refine Go.seq ?_
    refine Go.draw eF hm [n16, n17, n18] [0, 1, 2, 3, 4, 5, 6, 7, 8, 9, 10, 11, 12, 13, 14, 15, 16, 17, 18, 19, 20, 21, 22, 23, 24, 25, 26, 27, 28, 29, 30, 31, 32, 33, 34, 35, 36, 37] dr23_1 ?_
    repeat' first | refine Dr.nil ?_ | refine Dr.pure rfl rfl rfl rfl (by first | exact Want.no rfl | exact Want.tT rfl rfl rfl rfl | exact Want.fF rfl rfl rfl rfl) (by first | exact Hop.move rfl rfl | exact Hop.pickT rfl rfl rfl | exact Hop.pickF rfl rfl rfl | exact Hop.not rfl rfl | exact Hop.gtr rfl rfl rfl | exact Hop.geq rfl rfl rfl | exact Hop.eql rfl rfl rfl | exact Hop.sub rfl rfl rfl (by omega) | exact Hop.faR eF rfl rfl rfl rfl rfl rfl rfl | exact Hop.idx eF rfl rfl rfl rfl rfl rfl rfl (fun _ => rfl) (by omega) | exact Hop.ldR eF rfl rfl rfl rfl rfl | exact Hop.ldRG eF rfl rfl rfl rfl rfl | exact Hop.ldPG eF rfl rfl rfl rfl rfl rfl rfl | exact Hop.lenD eF rfl rfl rfl rfl rfl rfl rfl) ?_ | refine Dr.light rfl rfl rfl rfl (by first | exact Want.no rfl | exact Want.tT rfl rfl rfl rfl | exact Want.fF rfl rfl rfl rfl) (by first | exact Hop.ldR eF rfl rfl rfl rfl rfl | exact Hop.ldRG eF rfl rfl rfl rfl rfl | exact Hop.ldPG eF rfl rfl rfl rfl rfl rfl rfl | exact Hop.lenD eF rfl rfl rfl rfl rfl rfl rfl) ?_ | refine Dr.skip rfl rfl rfl (by first | exact Want.fT rfl rfl rfl rfl | exact Want.tF rfl rfl rfl rfl | exact Want.und rfl rfl rfl rfl) ?_ | refine Dr.gP rfl rfl (fun _ => ?_) (fun _ => ?_) | refine Dr.gN rfl rfl (fun _ => ?_) (fun _ => ?_) | refine Dr.call rfl rfl rfl rfl (by first | exact Want.no rfl | exact Want.tT rfl rfl rfl rfl | exact Want.fF rfl rfl rfl rfl) rfl rfl rfl rfl (by first | exact pans_hd (Subtype.mk (mkDa (l.getD (i : Int).toNat default)) hb.1) rfl rfl | exact pans_tl rfl (pans_hd (Subtype.mk (l.getD (i : Int).toNat default).l hb1) rfl rfl) | exact pans_tl rfl (pans_tl rfl (pans_hd (Subtype.mk (_, _) ⟨(hl.2 _).1, (hl.2 _).1⟩) rfl rfl))) ?_
    repeat' first | refine Go.seq ?_ | refine Go.region rfl ?_ | refine Ops.nil ?_ | refine Ops.val eF rfl rfl (by first | exact Want.no rfl | exact Want.tT rfl rfl rfl rfl | exact Want.fF rfl rfl rfl rfl) (by first | exact Hop.move rfl rfl | exact Hop.assign rfl rfl | exact Hop.add rfl rfl rfl (by omega)) ?_ | refine Go.condT rfl ?_ | refine Go.condF rfl ?_ | refine Go.condPt rfl (fun _ => ?_) (fun _ => ?_) | refine Go.unblk ?_ | refine Go.skip ?_ | refine Go.retF rfl ?_ rfl
    · rename_i q1 q2
      have q2 : ¬ DaP (mkDa (l.getD (i : Int).toNat default)) := q2
      rw [Int.toNat_natCast] at q2
      exact out_f fun h => q2 (h i (by omega)).1.1
    · rename_i q1 q2 q3
      have q3 : ((l.getD (i : Int).toNat default).l.length : Int) = 0 := q3
      rw [Int.toNat_natCast] at q3
      exact out_f fun h => by have := (h i (by omega)).1.2.1; omega
    · rename_i q1 q2 q3 q4
      have q4 : ¬ SetP (l.getD (i : Int).toNat default).l := q4
      rw [Int.toNat_natCast] at q4
      exact out_f fun h => q4 (h i (by omega)).1.2.2
    · rename_i q1 q2 q3 q4 q5 q6
      have q6 : 0 ≤ cmpFa (l.getD ((i : Int) - 1).toNat default) (l.getD (i : Int).toNat default) := q6
      rw [e1, Int.toNat_natCast] at q6
      exact out_f fun h => by have := (h i (by omega)).2 (by omega); omega
    · rename_i q1 q2 q3 q4 q5 q6
      have q2 : DaP (mkDa (l.getD (i : Int).toNat default)) := q2
      have q3 : ¬ ((l.getD (i : Int).toNat default).l.length : Int) = 0 := q3
      have q4 : SetP (l.getD (i : Int).toNat default).l := q4
      have q6 : ¬ 0 ≤ cmpFa (l.getD ((i : Int) - 1).toNat default) (l.getD (i : Int).toNat default) := q6
      rw [e1, Int.toNat_natCast] at q6
      rw [Int.toNat_natCast] at q2 q3 q4
      refine Go.toC (bs := []) (ih (i + 1) ⟨by omega, fun j hj => ?_⟩ (by omega)) eF.g ⟨rfl, rfl, trivial⟩ rfl rfl trivial trivial rfl rfl
      rcases lt_succ_cases hj with h | rfl
      · exact hq j h
      · exact ⟨⟨q2, by omega, q4⟩, fun _ => by omega⟩
    · rename_i q1 q2 q3 q4 q5
      have q2 : DaP (mkDa (l.getD (i : Int).toNat default)) := q2
      have q3 : ¬ ((l.getD (i : Int).toNat default).l.length : Int) = 0 := q3
      have q4 : SetP (l.getD (i : Int).toNat default).l := q4
      rw [Int.toNat_natCast] at q2 q3 q4
      refine Go.toC (bs := []) (ih (i + 1) ⟨by omega, fun j hj => ?_⟩ (by omega)) eF.g ⟨rfl, rfl, trivial⟩ rfl rfl trivial trivial rfl rfl
      rcases lt_succ_cases hj with h | rfl
      · exact hq j h
      · exact ⟨⟨q2, by omega, q4⟩, fun h => absurd h (by omega)⟩
  · rw [bd_of (p := AllP l) (fun j hj => hq j (by omega))]; rfl
theorem eqFa (a b : Va) : eqv cF 6 56 (.agg (encVa a)) (.agg (encVa b)) = some (bd (a = b)) := eqVa a b
noncomputable def n12 : Ent cF := ⟨45, {p : List Sp × List Sp // p.1.length ≤ 100000 ∧ p.2.length ≤ 100000}, fun p => [spsA p.1.1, spsA p.1.2], fun p => .bool (bd (p.1.1 = p.1.2)), fun p => k12 _ _ p.2.1 p.2.2, fun _ => rfl, fun a b h => by
  have h := pair_eq h; rw [spsA_eq h.1, spsA_eq h.2]⟩
theorem fa_eq {a b : Fa} (h1 : a.e = b.e) (h2 : a.a = b.a) (h3 : a.v = b.v) (h4 : a.l = b.l) : a = b := by
  cases a; cases b; simp only [] at h1 h2 h3 h4; rw [h1, h2, h3, h4]
noncomputable def r22_0 : List Oper := ((drawn (Try.f22.body.getD .skip))[0]?).getD []
theorem dr22_0 : chkOrd cF r22_0 [0, 1, 2, 3, 4, 5, 6, 7, 8, 9, 10, 11, 12, 13, 14, 15, 16, 17, 18, 19, 20, 21, 22, 23, 24, 25, 26, 27, 28, 29, 30, 31, 32, 33, 34, 35, 36, 37, 38, 39, 40, 41, 42, 43, 44, 45, 46, 47, 48, 49, 50] = true := by kernel_rfl
theorem k7 (a b : List Fa) (ha : FasB a) (hb : FasB b) : KOk cF 22 [fasA a, fasA b] (.bool (bd (a = b))) := by
  have hna := ha.1
  have hnb := hb.1
  refine KOk.of cF_ok eF.g Try.func22 rfl (Nat.le_of_ble_eq_true rfl) fun w F => ?_
  repeat' first | refine Go.seq ?_ | refine Go.region rfl ?_ | refine Ops.nil ?_ | refine Ops.val eF rfl rfl (by first | exact Want.no rfl | exact Want.tT rfl rfl rfl rfl | exact Want.fF rfl rfl rfl rfl) (by first | exact Hop.move rfl rfl | exact Hop.assign rfl rfl | exact Hop.neq rfl rfl rfl | exact Hop.lenD eF rfl rfl rfl rfl rfl rfl rfl) ?_ | refine Go.condNt rfl (fun _ => ?_) (fun _ => ?_) | refine Go.block ?_ | refine Go.skip ?_ | refine Go.retF rfl ?_ rfl
  · rw [bd_no (fun h => by rename_i hne; exact hne (by rw [h]))]; rfl
  rename_i hlen
  have hlen : a.length = b.length := by omega
  refine Go.loop (fun i : Nat => [(0, fasA a), (1, fasA b), (5, .int .i64 i)]) (fun _ => hp []) (fun i => i ≤ a.length ∧ ∀ j, j < i → a.getD j default = b.getD j default) (fun i => a.length - i) 0 ⟨by omega, fun j hj => by omega⟩ ⟨rfl, rfl, rfl, trivial⟩ rfl (fun i hP ih => ?_)
  obtain ⟨hi, hq⟩ := hP
  repeat' first | refine Go.seq ?_ | refine Go.region rfl ?_ | refine Ops.nil ?_ | refine Ops.val eF rfl rfl (by first | exact Want.no rfl | exact Want.tT rfl rfl rfl rfl | exact Want.fF rfl rfl rfl rfl) (by first | exact Hop.move rfl rfl | exact Hop.assign rfl rfl | exact Hop.lss rfl rfl rfl | exact Hop.lenD eF rfl rfl rfl rfl rfl rfl rfl) ?_ | refine Go.condPt rfl (fun _ => ?_) (fun _ => ?_) | refine Go.block ?_ | refine Go.skip ?_ | refine Go.exit rfl ?_ | refine Go.retF rfl ?_ rfl
  · have h1 : (a.getD (i : Int).toNat default).l.length ≤ 100000 := by have := (ha.2 (i : Int).toNat).2; omega
    have h2 : (b.getD (i : Int).toNat default).l.length ≤ 100000 := by have := (hb.2 (i : Int).toNat).2; omega
    refine Go.draw eF hm [n12] [0, 1, 2, 3, 4, 5, 6, 7, 8, 9, 10, 11, 12, 13, 14, 15, 16, 17, 18, 19, 20, 21, 22, 23, 24, 25, 26, 27, 28, 29, 30, 31, 32, 33, 34, 35, 36, 37, 38, 39, 40, 41, 42, 43, 44, 45, 46, 47, 48, 49, 50] dr22_0 ?_
    repeat' first | refine Dr.nil ?_ | refine Dr.pure rfl rfl rfl rfl (by first | exact Want.no rfl | exact Want.tT rfl rfl rfl rfl | exact Want.fF rfl rfl rfl rfl) (by first | exact Hop.move rfl rfl | exact Hop.pickT rfl rfl rfl | exact Hop.pickF rfl rfl rfl | exact Hop.not rfl rfl | exact Hop.neq rfl rfl rfl | exact Hop.faR eF rfl rfl rfl rfl rfl rfl rfl | exact Hop.idx eF rfl rfl rfl rfl rfl rfl rfl (fun _ => rfl) (by omega) | exact Hop.ldR eF rfl rfl rfl rfl rfl | exact Hop.ldRG eF rfl rfl rfl rfl rfl | exact Hop.neD rfl rfl rfl rfl (eqVa _ _)) ?_ | refine Dr.light rfl rfl rfl rfl (by first | exact Want.no rfl | exact Want.tT rfl rfl rfl rfl | exact Want.fF rfl rfl rfl rfl) (by first | exact Hop.ldR eF rfl rfl rfl rfl rfl | exact Hop.ldRG eF rfl rfl rfl rfl rfl) ?_ | refine Dr.skip rfl rfl rfl (by first | exact Want.fT rfl rfl rfl rfl | exact Want.tF rfl rfl rfl rfl | exact Want.und rfl rfl rfl rfl) ?_ | refine Dr.gN rfl rfl (fun _ => ?_) (fun _ => ?_) | refine Dr.call rfl rfl rfl rfl (by first | exact Want.no rfl | exact Want.tT rfl rfl rfl rfl | exact Want.fF rfl rfl rfl rfl) rfl rfl rfl rfl (by first | exact pans_hd (Subtype.mk ((a.getD (i : Int).toNat default).l, (b.getD (i : Int).toNat default).l) ⟨h1, h2⟩) rfl rfl) ?_
    repeat' first | refine Go.seq ?_ | refine Go.region rfl ?_ | refine Ops.nil ?_ | refine Ops.val eF rfl rfl (by first | exact Want.no rfl | exact Want.tT rfl rfl rfl rfl | exact Want.fF rfl rfl rfl rfl) (by first | exact Hop.move rfl rfl | exact Hop.assign rfl rfl | exact Hop.add rfl rfl rfl (by omega)) ?_ | refine Go.condT rfl ?_ | refine Go.condNt rfl (fun _ => ?_) (fun _ => ?_) | refine Go.unblk ?_ | refine Go.skip ?_ | refine Go.retF rfl ?_ rfl
    · rename_i q1 q2
      exact out_f fun h => q2 (by rw [h])
    · rename_i q1 q2 q3
      exact out_f fun h => q3 (by rw [h])
    · rename_i q1 q2 q3 q4
      exact out_f fun h => q4 (by rw [h])
    · rename_i q1 q2 q3 q4 q5
      have q5 : ¬ (a.getD (i : Int).toNat default).l = (b.getD (i : Int).toNat default).l := q5
      exact out_f fun h => q5 (by rw [h])
    · rename_i q1 q2 q3 q4 q5
      have q5 : (a.getD (i : Int).toNat default).l = (b.getD (i : Int).toNat default).l := q5
      have q := fa_eq q2 q3 q4 q5
      rw [Int.toNat_natCast] at q
      refine Go.to (ih (i + 1) ⟨by omega, fun j hj => ?_⟩ (by omega)) ⟨rfl, rfl, rfl, trivial⟩
      rcases lt_succ_cases hj with h | rfl
      · exact hq j h
      · exact q
  · rw [bd_of (getD_ext hlen fun j hj => hq j (by omega))]; rfl
end Go.Px.Fs
end
/- FsT -/
section
set_option linter.unusedVariables false
set_option linter.unusedSimpArgs false
set_option maxHeartbeats 4000000
set_option maxRecDepth 20000
namespace Go.Px.Fs
open Go.Proofs
attribute [local irreducible] Go.Px.KOk
theorem k8 (l : List Fa) (hl : FasB l) : KOk cF 43 [fasA l] (.int .i64 (bif bd (AllP l) then 0 else 60)) := by
  refine KOk.of cF_ok eF.g Try.func43 rfl (Nat.le_of_ble_eq_true rfl) fun w F => ?_
  repeat' first | refine Go.seq ?_ | refine Go.region rfl ?_ | refine Ops.nil ?_ | refine Ops.val eF rfl rfl (by first | exact Want.no rfl | exact Want.tT rfl rfl rfl rfl | exact Want.fF rfl rfl rfl rfl) (by first | exact Hop.move rfl rfl | exact Hop.assign rfl rfl | exact Hop.not rfl rfl) ?_ | refine Ops.call eF rfl rfl (by first | exact Want.no rfl | exact Want.tT rfl rfl rfl rfl | exact Want.fF rfl rfl rfl rfl) rfl rfl rfl rfl (k13 l hl) rfl ?_ | refine Go.condNt rfl (fun _ => ?_) (fun _ => ?_) | refine Go.skip ?_ | refine Go.retF rfl ?_ rfl
  all_goals first | (rw [bd_of (by assumption)]; rfl) | (rw [bd_no (by assumption)]; rfl)
theorem vrs_last {ρ : Map} {u v : AV} (H : ∀ x, VR ρ u x → VR ρ v x) : ∀ (pre : List AV) (L : List Value), VRs ρ (pre ++ [u]) L → VRs ρ (pre ++ [v]) L
  | [], L, h => by
    simp only [List.nil_append, VRs] at h ⊢
    obtain ⟨x, r, h1, h2, h3⟩ := h
    exact ⟨x, r, H x h1, h2, h3⟩
  | a :: pre, L, h => by
    simp only [List.cons_append, VRs] at h ⊢
    obtain ⟨x, r, h1, h2, h3⟩ := h
    exact ⟨x, r, h1, vrs_last H pre r h2, h3⟩
/-- the spans found by halves -/
noncomputable def findB (l : List Fa) (f : Fa) : List Sp := bif bd (firstG l f < l.length ∧ cmpFa (l.getD (firstG l f) default) f = 0) then (l.getD (firstG l f) default).l else []
theorem weakFa (f : Fa) : ∀ ρ x, VR ρ (.agg [.int .i64 f.e, .int .i64 f.a, .int .i64 f.v.k, .int .i64 f.v.n, sA f.v.s, .nilsl]) x → VR ρ (.agg (encFa { f with l := [] })) x := fun ρ x q => by
  simp only [VR] at q ⊢
  obtain ⟨L, h1, h2⟩ := q
  exact ⟨L, vrs_last (weak_nil 2 ρ) [.int .i64 f.e, .int .i64 f.a, .int .i64 f.v.k, .int .i64 f.v.n, sA f.v.s] L h1, h2⟩
theorem k14 (l : List Fa) (e a : Int) (v : Va) (hl : FasB l) (hp : AllP l) (hv : v.s.length ≤ 100000) (hmo : Mono l ⟨e, a, v, []⟩) : KOk cF 75 [fasA l, .int .i64 e, .int .i64 a, .agg (encVa v)] (.tup [spsA (findB l ⟨e, a, v, []⟩), .int .i64 0]) := by
  have k1 := k13 l hl
  rw [bd_of hp] at k1
  have k2 := k23 l ⟨e, a, v, []⟩ hl hmo
  have hn := hl.1
  unfold findB
  refine KOk.of cF_ok eF.g Try.func75 rfl (Nat.le_of_ble_eq_true rfl) fun w F => ?_
  by_cases hf : firstG l ⟨e, a, v, []⟩ < l.length ∧ cmpFa (l.getD (firstG l ⟨e, a, v, []⟩) default) ⟨e, a, v, []⟩ = 0
  · have h3 := k24 (l.getD (firstG l ⟨e, a, v, []⟩ : Int).toNat default).l (by have := (hl.2 (firstG l ⟨e, a, v, []⟩ : Int).toNat).2; omega) (by rw [Int.toNat_natCast]; exact (hp _ hf.1).1.2.1)
    have hf1 := hf.1
    rw [bd_of hf] at k2 ⊢
    repeat' first | refine Go.seq ?_ | refine Go.region rfl ?_ | refine Ops.nil ?_ | refine Ops.weakAt eF 20 rfl rfl (by first | exact Want.no rfl | exact Want.tT rfl rfl rfl rfl | exact Want.fF rfl rfl rfl rfl) (by exact Hop.build eF rfl rfl rfl rfl rfl rfl rfl) (weakFa ⟨e, a, v, []⟩) ?_ | refine Ops.val eF rfl rfl (by first | exact Want.no rfl | exact Want.tT rfl rfl rfl rfl | exact Want.fF rfl rfl rfl rfl) (by first | exact Hop.move rfl rfl | exact Hop.assign rfl rfl | exact Hop.not rfl rfl | exact Hop.faR eF rfl rfl rfl rfl rfl rfl rfl | exact Hop.idx eF rfl rfl rfl rfl rfl rfl rfl (fun _ => rfl) (by omega) | exact Hop.ldR eF rfl rfl rfl rfl rfl | exact Hop.ldRG eF rfl rfl rfl rfl rfl | exact Hop.extract rfl rfl rfl) ?_ | refine Ops.call eF rfl rfl (by first | exact Want.no rfl | exact Want.tT rfl rfl rfl rfl | exact Want.fF rfl rfl rfl rfl) rfl rfl rfl rfl (k1) rfl ?_ | refine Ops.call eF rfl rfl (by first | exact Want.no rfl | exact Want.tT rfl rfl rfl rfl | exact Want.fF rfl rfl rfl rfl) rfl rfl rfl rfl (k2) rfl ?_ | refine Ops.call eF rfl rfl (by first | exact Want.no rfl | exact Want.tT rfl rfl rfl rfl | exact Want.fF rfl rfl rfl rfl) rfl rfl rfl rfl (h3) rfl ?_ | refine Ops.boxR eF rfl rfl (by first | exact Want.no rfl | exact Want.tT rfl rfl rfl rfl | exact Want.fF rfl rfl rfl rfl) rfl rfl rfl rfl ?_ | refine Go.condF rfl ?_ | refine Go.skip ?_ | refine Go.retF rfl ?_ rfl
    rw [Int.toNat_natCast]; rfl
  · rw [bd_no hf] at k2 ⊢
    repeat' first | refine Go.seq ?_ | refine Go.region rfl ?_ | refine Ops.nil ?_ | refine Ops.weakAt eF 20 rfl rfl (by first | exact Want.no rfl | exact Want.tT rfl rfl rfl rfl | exact Want.fF rfl rfl rfl rfl) (by exact Hop.build eF rfl rfl rfl rfl rfl rfl rfl) (weakFa ⟨e, a, v, []⟩) ?_ | refine Ops.weakAt eF 8 rfl rfl (by first | exact Want.no rfl | exact Want.tT rfl rfl rfl rfl | exact Want.fF rfl rfl rfl rfl) (Hop.assign rfl rfl) (weak_nil 2) ?_ | refine Ops.val eF rfl rfl (by first | exact Want.no rfl | exact Want.tT rfl rfl rfl rfl | exact Want.fF rfl rfl rfl rfl) (by first | exact Hop.move rfl rfl | exact Hop.assign rfl rfl | exact Hop.not rfl rfl | exact Hop.ldRG eF rfl rfl rfl rfl rfl | exact Hop.extract rfl rfl rfl) ?_ | refine Ops.call eF rfl rfl (by first | exact Want.no rfl | exact Want.tT rfl rfl rfl rfl | exact Want.fF rfl rfl rfl rfl) rfl rfl rfl rfl (k1) rfl ?_ | refine Ops.call eF rfl rfl (by first | exact Want.no rfl | exact Want.tT rfl rfl rfl rfl | exact Want.fF rfl rfl rfl rfl) rfl rfl rfl rfl (k2) rfl ?_ | refine Ops.boxR eF rfl rfl (by first | exact Want.no rfl | exact Want.tT rfl rfl rfl rfl | exact Want.fF rfl rfl rfl rfl) rfl rfl rfl rfl ?_ | refine Go.condT rfl ?_ | refine Go.condF rfl ?_ | refine Go.skip ?_ | refine Go.retF rfl ?_ rfl
    rfl
/-- what of a fact is left -/
noncomputable def leftN (D : Fa → List Sp) (a : List Fa) : Nat → List Fa
  | 0 => []
  | i + 1 => if 0 < (D (a.getD i default)).length then leftN D a i ++ [{ (a.getD i default) with l := D (a.getD i default) }] else leftN D a i
theorem leftN_len (D : Fa → List Sp) (a : List Fa) : ∀ i, (leftN D a i).length ≤ i
  | 0 => by simp [leftN]
  | i + 1 => by
    have := leftN_len D a i
    unfold leftN
    split
    · rw [List.length_append]; simp; omega
    · omega
theorem flatFa (o : List Fa) (x : Fa) : (o ++ [x]).flatMap encFa = o.flatMap encFa ++ encFa x := by simp
def keyF (f : Fa) : Fa := { f with l := [] }
noncomputable def less1 (b : List Fa) (f : Fa) : List Sp := meetL f.l (restL (findB b (keyF f)))
theorem findB_len {b : List Fa} (hb : FasB b) (f : Fa) : (findB b f).length ≤ 10000 := by
  unfold findB
  cases bd (firstG b f < b.length ∧ cmpFa (b.getD (firstG b f) default) f = 0)
  · exact Nat.zero_le _
  · exact (hb.2 _).2
theorem k9 (a b : List Fa) (ha : FasB a) (hb : FasB b) (pa : AllP a) (pb : AllP b) (hmo : ∀ f, Mono b f) (hset : ∀ f, SetP (findB b f)) : KOk cF 44 [fasA a, fasA b] (fasA (leftN (less1 b) a a.length)) := by
  have hna := ha.1
  refine KOk.of cF_ok eF.g Try.func44 rfl (Nat.le_of_ble_eq_true rfl) fun w F => ?_
  repeat' first | refine Go.seq ?_ | refine Go.region rfl ?_ | refine Ops.nil ?_ | refine Ops.val eF rfl rfl (by first | exact Want.no rfl | exact Want.tT rfl rfl rfl rfl | exact Want.fF rfl rfl rfl rfl) (by first | exact Hop.move rfl rfl | exact Hop.assign rfl rfl | exact Hop.lenD eF rfl rfl rfl rfl rfl rfl rfl) ?_ | refine Go.block ?_
  refine Go.change (Chg.tokAt 0 5 87 6 rfl rfl) ?_
  refine Go.toHQ (N := 1) (bs := [.arr 87 6 0 []]) (L' := [(1, fasA b), (5, .own 0 0 6), (10, fasA a), (11, .int .i64 a.length), (12, .int .i64 0)]) ?_ rfl eF.g ⟨rfl, rfl, rfl, rfl, rfl, trivial⟩ rfl rfl ⟨.inr rfl, trivial⟩ ⟨trivial, trivial⟩ rfl rfl
  refine Go.loop (fun i : Nat => [(1, fasA b), (5, .own 0 (leftN (less1 b) a i).length 6), (10, fasA a), (11, .int .i64 a.length), (12, .int .i64 i)]) (fun i => hq 1 [.arr 87 6 (leftN (less1 b) a i).length ((leftN (less1 b) a i).flatMap encFa)]) (fun i => i ≤ a.length) (fun i => a.length - i) 0 (by omega) ⟨rfl, rfl, rfl, rfl, rfl, trivial⟩ rfl (fun i hi ih => ?_)
  have ho := leftN_len (less1 b) a i
  have hb1 : FaB (a.getD (i : Int).toNat default) := ha.2 _
  have hfl := findB_len hb (keyF (a.getD (i : Int).toNat default))
  have h14 := k14 b (a.getD (i : Int).toNat default).e (a.getD (i : Int).toNat default).a (a.getD (i : Int).toNat default).v hb pb hb1.1 (hmo _)
  have h15 : i < a.length → KOk cF 76 [spsA (a.getD (i : Int).toNat default).l, spsA (findB b (keyF (a.getD (i : Int).toNat default)))] (.tup [spsA (less1 b (a.getD (i : Int).toNat default)), .int .i64 0]) := fun q => k15 _ _ (by have := hb1.2; omega) hfl (by rw [Int.toNat_natCast]; exact (pa i q).1.2.2) (hset _)
  repeat' first | refine Go.seq ?_ | refine Go.region rfl ?_ | refine Ops.nil ?_ | refine Ops.val (d := 40) (v := .agg (encFa { (a.getD (i : Int).toNat default) with l := less1 b (a.getD (i : Int).toNat default) })) eF rfl rfl (by first | exact Want.no rfl | exact Want.tT rfl rfl rfl rfl | exact Want.fF rfl rfl rfl rfl) (by exact Hop.ldPG eF rfl rfl rfl rfl rfl rfl rfl) ?_ | refine Ops.frzMv eF 4 rfl rfl rfl (by first | exact Want.no rfl | exact Want.tT rfl rfl rfl rfl | exact Want.fF rfl rfl rfl rfl) (by first | exact Hop.move rfl rfl | exact Hop.assign rfl rfl) rfl (by repeat' first | exact trivial | refine And.intro ?_ ?_ | exact .inr trivial | exact .inr (ind_row rfl rfl) | exact .inr rfl | exact .inl rfl | exact .inr (hindL _ _)) rfl rfl rfl rfl ?_ | refine Ops.val eF rfl rfl (by first | exact Want.no rfl | exact Want.tT rfl rfl rfl rfl | exact Want.fF rfl rfl rfl rfl) (by first | exact Hop.move rfl rfl | exact Hop.assign rfl rfl | exact Hop.lss rfl rfl rfl | exact Hop.gtr rfl rfl rfl | exact Hop.add rfl rfl rfl (by omega) | exact Hop.faP eF rfl rfl rfl rfl rfl rfl rfl | exact Hop.idx eF rfl rfl rfl rfl rfl rfl rfl (fun _ => rfl) (by omega) | exact Hop.ldRG eF rfl rfl rfl rfl rfl | exact Hop.ldP eF rfl rfl rfl rfl rfl rfl rfl | exact Hop.ldPG eF rfl rfl rfl rfl rfl rfl rfl | exact Hop.lenD eF rfl rfl rfl rfl rfl rfl rfl | exact Hop.extract rfl rfl rfl) ?_ | refine Ops.call eF rfl rfl (by first | exact Want.no rfl | exact Want.tT rfl rfl rfl rfl | exact Want.fF rfl rfl rfl rfl) rfl rfl rfl rfl (h14) rfl ?_ | refine Ops.call eF rfl rfl (by first | exact Want.no rfl | exact Want.tT rfl rfl rfl rfl | exact Want.fF rfl rfl rfl rfl) rfl rfl rfl rfl (h15 (by omega)) rfl ?_ | refine Ops.data eF rfl rfl (by first | exact Want.no rfl | exact Want.tT rfl rfl rfl rfl | exact Want.fF rfl rfl rfl rfl) rfl (Hop.bslice eF rfl rfl rfl rfl rfl rfl rfl rfl rfl rfl rfl) rfl rfl ?_ | refine Ops.appendE eF rfl rfl (by first | exact Want.no rfl | exact Want.tT rfl rfl rfl rfl | exact Want.fF rfl rfl rfl rfl) rfl rfl rfl rfl rfl rfl rfl rfl rfl rfl rfl rfl rfl rfl rfl rfl (by repeat' first | exact trivial | refine And.intro ?_ ?_ | exact .inr trivial | exact .inr (ind_row rfl rfl) | exact .inr rfl | exact .inl rfl | exact .inr (hindL _ _)) rfl rfl rfl rfl rfl (by first | rfl | exact ones_flat (fun _ => rfl) _) (by omega) ?_ | refine Ops.rowAt eF 1 rfl rfl (by first | exact Want.no rfl | exact Want.tT rfl rfl rfl rfl | exact Want.fF rfl rfl rfl rfl) rfl (Hop.alloc eF rfl rfl rfl) ?_ | refine Ops.unit eF rfl (by first | exact Want.no rfl | exact Want.tT rfl rfl rfl rfl | exact Want.fF rfl rfl rfl rfl) (Hop.store eF rfl rfl rfl rfl rfl rfl) (ArrKeep.put rfl) ?_ | refine Go.condPt rfl (fun _ => ?_) (fun _ => ?_) | refine Go.block ?_ | refine Go.unblk ?_ | refine Go.skip ?_ | refine Go.exit rfl ?_ | refine Go.retF rfl ?_ rfl
  · rename_i q1 q2
    have e : leftN (less1 b) a (i + 1) = leftN (less1 b) a i ++ [{ (a.getD (i : Int).toNat default) with l := less1 b (a.getD (i : Int).toNat default) }] := by
      rw [Int.toNat_natCast] at q2 ⊢
      conv => lhs; unfold leftN
      rw [if_pos (by omega)]
    have g := ih (i + 1) (by omega) (by omega)
    simp only [e, flatFa, List.length_append] at g
    exact Go.toQ g rfl eF.g ⟨rfl, rfl, rfl, rfl, rfl, trivial⟩ rfl rfl ⟨.inr rfl, trivial⟩ ⟨trivial, trivial⟩ rfl rfl
  · rename_i q1 q2
    have e : leftN (less1 b) a (i + 1) = leftN (less1 b) a i := by
      rw [Int.toNat_natCast] at q2
      conv => lhs; unfold leftN
      rw [if_neg (by omega)]
    have g := ih (i + 1) (by omega) (by omega)
    simp only [e] at g
    exact Go.toQ g rfl eF.g ⟨rfl, rfl, rfl, rfl, rfl, trivial⟩ rfl rfl ⟨.inr rfl, trivial⟩ ⟨trivial, trivial⟩ rfl rfl
  · have hi' : i = a.length := by omega
    subst hi'
    rfl
noncomputable def less2 (b : List Fa) (f : Fa) : List Sp := minusL f.l (findL b f)
theorem findL_len {b : List Fa} (hb : ∀ i, FaB (b.getD i default)) (f : Fa) : (findL b f).length ≤ 10000 := by
  induction b with
  | nil => simp [findL]
  | cons x b ih =>
    unfold findL
    split
    · exact (hb 0).2
    · exact ih fun i => hb (i + 1)
end Go.Px.Fs
end
/- FsV -/
section
set_option linter.unusedVariables false
namespace Go.Px.Fs
/-! ## sets, by recursion -/
/-- a set, all of it above x -/
def CanF : Int → List Sp → Prop
  | _, [] => True
  | x, s :: l => x < s.a ∧ s.a < s.b ∧ CanF s.b l
def InR : List Sp → Int → Prop
  | [], _ => False
  | s :: l, t => (s.a ≤ t ∧ t < s.b) ∨ InR l t
theorem inP_R : ∀ {l : List Sp} {t : Int}, InP l t ↔ InR l t
  | [], t => ⟨fun ⟨j, h, _⟩ => by simp at h, fun h => h.elim⟩
  | s :: l, t => by
    have ih := inP_R (l := l) (t := t)
    constructor
    · rintro ⟨j, h1, h2⟩
      cases j with
      | zero => exact .inl (by simpa using h2)
      | succ j => exact .inr (ih.1 ⟨j, by simpa using h1, by simpa using h2⟩)
    · rintro (h | h)
      · exact ⟨0, by simp, by simpa using h⟩
      · obtain ⟨j, h1, h2⟩ := ih.2 h
        exact ⟨j + 1, by simpa using h1, by simpa using h2⟩
theorem okAt_succ {s : Sp} {l : List Sp} {i : Nat} : OkAt (s :: l) (i + 1) ↔ (l.getD i default).a < (l.getD i default).b ∧ ((s :: l).getD i default).b < (l.getD i default).a := by
  unfold OkAt
  simp only [Nat.add_sub_cancel, List.getD_cons_succ]
  constructor
  · rintro ⟨h1, h2⟩; exact ⟨h1, h2 (by omega)⟩
  · rintro ⟨h1, h2⟩; exact ⟨h1, fun _ => h2⟩
theorem setP_tail {s : Sp} {l : List Sp} (h : SetP (s :: l)) : SetP l := fun i hi => by
  have h1 := okAt_succ.1 (h (i + 1) (by simpa using hi))
  refine ⟨h1.1, fun q => ?_⟩
  obtain ⟨j, rfl⟩ : ∃ j, i = j + 1 := ⟨i - 1, by omega⟩
  simpa using h1.2
theorem setP_can : ∀ {l : List Sp} {s : Sp}, SetP (s :: l) → s.a < s.b ∧ CanF s.b l
  | [], s, h => ⟨by have := (h 0 (by simp)).1; simpa using this, trivial⟩
  | t :: l, s, h => by
    have h0 := (h 0 (by simp)).1
    have h1 := okAt_succ.1 (h 1 (by simp))
    have h2 := setP_can (setP_tail h)
    exact ⟨by simpa using h0, by simpa using h1.2, h2.1, h2.2⟩
theorem can_setP : ∀ {l : List Sp} {x : Int}, CanF x l → SetP l
  | [], x, _ => fun i hi => by simp at hi
  | s :: l, x, h => fun i hi => by
    have ih := can_setP h.2.2
    cases i with
    | zero => exact ⟨by simpa using h.2.1, fun q => absurd q (by omega)⟩
    | succ i =>
      refine okAt_succ.2 ?_
      have h1 := ih i (by simpa using hi)
      refine ⟨h1.1, ?_⟩
      cases i with
      | zero =>
        cases l with
        | nil => simp at hi
        | cons t l => simpa using h.2.2.1
      | succ i => simpa using h1.2 (by omega)
theorem setP_ex {l : List Sp} (h : SetP l) : ∃ x, CanF x l := by
  cases l with
  | nil => exact ⟨0, trivial⟩
  | cons s l => exact ⟨s.a - 1, by omega, setP_can h⟩
theorem can_low : ∀ {l : List Sp} {x t : Int}, CanF x l → InR l t → x < t
  | s :: l, x, t, h, .inl q => by have := h.1; omega
  | s :: l, x, t, h, .inr q => by
    have := can_low h.2.2 q
    have := h.1; have := h.2.1; omega
theorem can_mono {l : List Sp} {x y : Int} (h : CanF x l) (q : y ≤ x) : CanF y l := by
  cases l with
  | nil => trivial
  | cons s l => exact ⟨by have := h.1; omega, h.2⟩
/-- two sets with the same in them are the same -/
theorem can_ext : ∀ {l m : List Sp} {x y : Int}, CanF x l → CanF y m → (∀ t, InR l t ↔ InR m t) → l = m
  | [], [], _, _, _, _, _ => rfl
  | [], t :: m, x, y, _, h, q => ((q t.a).2 (.inl ⟨by omega, h.2.1⟩)).elim
  | s :: l, [], x, y, h, _, q => ((q s.a).1 (.inl ⟨by omega, h.2.1⟩)).elim
  | s :: l, t :: m, x, y, h, k, q => by
    have h1 := h.2.1; have k1 := k.2.1
    have ha : s.a = t.a := by
      have e1 : t.a ≤ s.a := by
        rcases (q s.a).1 (.inl ⟨by omega, h1⟩) with r | r
        · exact r.1
        · have := can_low k.2.2 r; omega
      have e2 : s.a ≤ t.a := by
        rcases (q t.a).2 (.inl ⟨by omega, k1⟩) with r | r
        · exact r.1
        · have := can_low h.2.2 r; omega
      omega
    have hb : s.b = t.b := by
      rcases Int.lt_trichotomy s.b t.b with r | r | r
      · rcases (q s.b).2 (.inl ⟨by omega, r⟩) with r' | r'
        · omega
        · have := can_low h.2.2 r'; omega
      · exact r
      · rcases (q t.b).1 (.inl ⟨by omega, r⟩) with r' | r'
        · omega
        · have := can_low k.2.2 r'; omega
    have hst : s = t := by cases s; cases t; simp only [] at ha hb; rw [ha, hb]
    have ht : l = m := can_ext h.2.2 k.2.2 fun u => by
      constructor
      · intro r
        have := can_low h.2.2 r
        rcases (q u).1 (.inr r) with r' | r'
        · omega
        · exact r'
      · intro r
        have := can_low k.2.2 r
        rcases (q u).2 (.inr r) with r' | r'
        · omega
        · exact r'
    rw [hst, ht]
/-! ## what two share -/
theorem meet_in (s t : Sp) (u : Int) : InR (if max s.a t.a < min s.b t.b then [⟨max s.a t.a, min s.b t.b⟩] else []) u ↔ (s.a ≤ u ∧ u < s.b) ∧ (t.a ≤ u ∧ u < t.b) := by
  split
  · simp only [InR, or_false]; omega
  · simp only [InR, false_iff]; omega
theorem inR_app : ∀ {l m : List Sp} {u : Int}, InR (l ++ m) u ↔ InR l u ∨ InR m u
  | [], m, u => by simp [InR]
  | s :: l, m, u => by
    have ih := inR_app (l := l) (m := m) (u := u)
    simp only [List.cons_append, InR, ih, or_assoc]
theorem meet_ok : ∀ (n : Nat) (a b : List Sp) (x y : Int), a.length + b.length ≤ n → CanF x a → CanF y b → CanF (max x y) (meetL a b) ∧ ∀ u, InR (meetL a b) u ↔ InR a u ∧ InR b u
  | n, [], b, x, y, _, _, _ => by
    rw [meetL_0 (.inl rfl)]
    exact ⟨trivial, fun u => ⟨fun h => h.elim, fun h => h.1⟩⟩
  | n, s :: a, [], x, y, _, _, _ => by
    rw [meetL_0 (.inr rfl)]
    exact ⟨trivial, fun u => ⟨fun h => h.elim, fun h => h.2⟩⟩
  | 0, s :: a, t :: b, x, y, hn, _, _ => by simp at hn
  | n + 1, s :: a, t :: b, x, y, hn, ha, hb => by
    have a1 := ha.1; have a2 := ha.2.1; have b1 := hb.1; have b2 := hb.2.1
    rw [meetL.eq_1 s a t b]
    simp only [List.length_cons] at hn
    by_cases h : s.b < t.b
    · rw [if_pos h]
      obtain ⟨c, i⟩ := meet_ok n a (t :: b) s.b y (by simp only [List.length_cons]; omega) ha.2.2 hb
      constructor
      · split
        · rename_i h2
          exact ⟨by show max x y < max s.a t.a; omega, h2, can_mono c (by show min s.b t.b ≤ _; omega)⟩
        · exact can_mono c (by omega)
      · intro u
        rw [inR_app, meet_in, i u]
        simp only [InR]
        constructor
        · rintro (⟨h1, h2⟩ | ⟨h1, h2⟩)
          · exact ⟨.inl h1, .inl h2⟩
          · exact ⟨.inr h1, h2⟩
        · rintro ⟨h1 | h1, h2⟩
          · rcases h2 with h2 | h2
            · exact .inl ⟨h1, h2⟩
            · have := can_low hb.2.2 h2; omega
          · exact .inr ⟨h1, h2⟩
    · rw [if_neg h]
      obtain ⟨c, i⟩ := meet_ok n (s :: a) b x t.b (by simp only [List.length_cons]; omega) ha hb.2.2
      constructor
      · split
        · rename_i h2
          exact ⟨by show max x y < max s.a t.a; omega, h2, can_mono c (by show min s.b t.b ≤ _; omega)⟩
        · exact can_mono c (by omega)
      · intro u
        rw [inR_app, meet_in, i u]
        simp only [InR]
        constructor
        · rintro (⟨h1, h2⟩ | ⟨h1, h2⟩)
          · exact ⟨.inl h1, .inl h2⟩
          · exact ⟨h1, .inr h2⟩
        · rintro ⟨h1, h2 | h2⟩
          · rcases h1 with h1 | h1
            · exact .inl ⟨h1, h2⟩
            · have := can_low ha.2.2 h1; omega
          · exact .inr ⟨h1, h2⟩
/-! ## what lies outside -/
def MX : Int := 9223372036854775807
def MN : Int := -9223372036854775808
/-- within what 64 bits hold -/
def Rng (l : List Sp) : Prop := ∀ s ∈ l, MN ≤ s.a ∧ s.b ≤ MX
def gapR (f : Int) : List Sp → List Sp
  | [] => if f < MX then [⟨f, MX⟩] else []
  | s :: l => (if f < s.a then [⟨f, s.a⟩] else []) ++ gapR s.b l
theorem gapSp_app (o : List Sp) (f t : Int) : gapSp o f t = o ++ if f < t then [⟨f, t⟩] else [] := by
  unfold gapSp
  split
  · rfl
  · simp
theorem gapN_R (l : List Sp) : ∀ i, i ≤ l.length → (gapN l i).1 ++ gapR (gapN l i).2 (l.drop i) = gapR MN l
  | 0, _ => rfl
  | i + 1, h => by
    rw [← gapN_R l i (by omega)]
    have e : l.drop i = (l.getD i default) :: l.drop (i + 1) := by
      rw [List.drop_eq_getElem_cons (by omega : i < l.length), List.getD_eq_getElem?_getD, List.getElem?_eq_getElem (by omega : i < l.length)]; rfl
    rw [e]
    conv => lhs; unfold gapN
    simp only [gapR, gapSp_app, List.append_assoc]
theorem restL_R (l : List Sp) : restL l = gapR MN l := by
  rw [← gapN_R l l.length (Nat.le_refl _), List.drop_length]
  unfold restL
  rw [gapSp_app]; rfl
theorem gap_can : ∀ (l : List Sp) (f z : Int), CanF f l → z < f → CanF z (gapR f l)
  | [], f, z, _, hz => by
    unfold gapR
    split
    · rename_i h; exact ⟨hz, h, trivial⟩
    · trivial
  | s :: l, f, z, h, hz => by
    unfold gapR
    rw [if_pos h.1]
    exact ⟨hz, h.1, gap_can l s.b s.a h.2.2 h.2.1⟩
theorem gap_in : ∀ (l : List Sp) (f : Int), CanF (f - 1) l → (∀ s ∈ l, s.b ≤ MX) → ∀ u, InR (gapR f l) u ↔ f ≤ u ∧ u < MX ∧ ¬ InR l u
  | [], f, _, _, u => by
    unfold gapR
    split
    · simp only [InR, or_false, not_false_eq_true, and_true]
    · simp only [InR, not_false_eq_true, and_true, false_iff]; omega
  | s :: l, f, h, hm, u => by
    have h1 := h.1; have h2 := h.2.1
    have hs := hm s (by simp)
    have ih := gap_in l s.b (can_mono h.2.2 (by omega)) (fun t ht => hm t (by simp [ht])) u
    unfold gapR
    rw [inR_app, ih]
    simp only [InR]
    have low : InR l u → s.b < u := fun q => can_low h.2.2 q
    constructor
    · rintro (q | ⟨q1, q2, q3⟩)
      · split at q
        · simp only [InR, or_false] at q
          refine ⟨q.1, by omega, ?_⟩
          rintro (r | r)
          · omega
          · have := low r; omega
        · exact q.elim
      · refine ⟨by omega, q2, ?_⟩
        rintro (r | r)
        · omega
        · exact q3 r
    · rintro ⟨q1, q2, q3⟩
      by_cases hu : u < s.a
      · left
        rw [if_pos (by omega)]
        exact .inl ⟨q1, hu⟩
      · right
        have : ¬ (s.a ≤ u ∧ u < s.b) := fun r => q3 (.inl r)
        exact ⟨by omega, q2, fun r => q3 (.inr r)⟩
theorem rest_ok {l : List Sp} (h : SetP l) (hr : Rng l) : (∃ z, CanF z (restL l)) ∧ ∀ u, InR (restL l) u ↔ MN ≤ u ∧ u < MX ∧ ¬ InR l u := by
  rw [restL_R]
  have hc : CanF (MN - 1) l := by
    cases l with
    | nil => trivial
    | cons s l => exact ⟨by have := (hr s (by simp)).1; omega, setP_can h⟩
  refine ⟨?_, gap_in l MN hc fun s hs => (hr s hs).2⟩
  cases l with
  | nil => exact ⟨MN - 1, gap_can [] MN _ trivial (by omega)⟩
  | cons s l =>
    by_cases hs : MN < s.a
    · exact ⟨MN - 1, gap_can _ MN _ ⟨hs, setP_can h⟩ (by omega)⟩
    · have h2 := setP_can h
      refine ⟨s.a, ?_⟩
      unfold gapR
      rw [if_neg hs, List.nil_append]
      exact gap_can l s.b s.a h2.2 h2.1
end Go.Px.Fs
end
/- FsW -/
section
set_option linter.unusedVariables false
namespace Go.Px.Fs
/-! ## numbers in order -/
def SrtF : Int → List Int → Prop
  | _, [] => True
  | x, y :: l => x < y ∧ SrtF y l
theorem srt_mono {l : List Int} {x y : Int} (h : SrtF x l) (q : y ≤ x) : SrtF y l := by
  cases l with
  | nil => trivial
  | cons s l => exact ⟨by have := h.1; omega, h.2⟩
theorem ins_srt {x : Int} : ∀ {l : List Int} {z : Int}, SrtF z l → z < x → SrtF z (insI x l)
  | [], z, _, h => ⟨h, trivial⟩
  | y :: l, z, h, hx => by
    unfold insI
    split
    · rename_i q; exact ⟨h.1, ins_srt h.2 q⟩
    · split
      · exact h
      · exact ⟨hx, by omega, h.2⟩
theorem ins_mem {x u : Int} : ∀ {l : List Int}, u ∈ insI x l ↔ u = x ∨ u ∈ l
  | [] => by simp [insI]
  | y :: l => by
    have ih := ins_mem (x := x) (u := u) (l := l)
    unfold insI
    split
    · simp only [List.mem_cons, ih]
      constructor
      · rintro (h | h | h)
        · exact .inr (.inl h)
        · exact .inl h
        · exact .inr (.inr h)
      · rintro (h | h | h)
        · exact .inr (.inl h)
        · exact .inl h
        · exact .inr (.inr h)
    · split
      · rename_i q
        simp only [List.mem_cons]
        constructor
        · exact .inr
        · rintro (h | h)
          · exact .inl (by omega)
          · exact h
      · simp only [List.mem_cons]
theorem ends_srt (l : List Sp) {z : Int} : ∀ i, (∀ j, j < i → z < endAt l j) → SrtF z (endsN l i)
  | 0, _ => trivial
  | i + 1, h => ins_srt (ends_srt l i fun j hj => h j (by omega)) (h i (by omega))
theorem ends_ex (l : List Sp) : ∀ i, ∃ z, ∀ j, j < i → z < endAt l j
  | 0 => ⟨0, fun j hj => by omega⟩
  | i + 1 => by
    obtain ⟨z, h⟩ := ends_ex l i
    refine ⟨min z (endAt l i - 1), fun j hj => ?_⟩
    rcases lt_succ_cases hj with q | rfl
    · have := h j q; omega
    · omega
theorem ends_mem (l : List Sp) {u : Int} : ∀ i, u ∈ endsN l i ↔ ∃ j, j < i ∧ u = endAt l j
  | 0 => by simp [endsN]
  | i + 1 => by
    simp only [endsN, ins_mem, ends_mem l i]
    constructor
    · rintro (h | ⟨j, h1, h2⟩)
      · exact ⟨i, by omega, h⟩
      · exact ⟨j, by omega, h2⟩
    · rintro ⟨j, h1, h2⟩
      rcases lt_succ_cases h1 with q | rfl
      · exact .inr ⟨j, q, h2⟩
      · exact .inl h2
theorem srt_lt : ∀ {l : List Int} {z : Int}, SrtF z l → ∀ i j, i < j → j < l.length → l.getD i default < l.getD j default
  | y :: l, z, h, i, j, hij, hj => by
    obtain ⟨j, rfl⟩ : ∃ k, j = k + 1 := ⟨j - 1, by omega⟩
    have hj' : j < l.length := by simpa using hj
    cases i with
    | zero =>
      cases l with
      | nil => simp at hj'
      | cons w l =>
        cases j with
        | zero => simpa using h.2.1
        | succ j =>
          have := srt_lt h.2 0 (j + 1) (by omega) hj'
          have h1 := h.2.1
          simp only [List.getD_cons_zero, List.getD_cons_succ] at this ⊢
          omega
    | succ i =>
      have := srt_lt h.2 i j (by omega) hj'
      simpa using this
theorem mem_at {l : List Int} {u : Int} (h : u ∈ l) : ∃ k, k < l.length ∧ l.getD k default = u := by
  obtain ⟨k, hk, e⟩ := List.getElem_of_mem h
  exact ⟨k, hk, by rw [List.getD_eq_getElem?_getD, List.getElem?_eq_getElem hk]; exact e⟩
theorem end_a (l : List Sp) {s : Sp} (h : s ∈ l) : s.a ∈ endsN l (2 * l.length) ∧ s.b ∈ endsN l (2 * l.length) := by
  obtain ⟨k, hk, e⟩ := List.getElem_of_mem h
  have e' : l.getD k default = s := by rw [List.getD_eq_getElem?_getD, List.getElem?_eq_getElem hk]; exact e
  refine ⟨(ends_mem l _).2 ⟨2 * k, by omega, ?_⟩, (ends_mem l _).2 ⟨2 * k + 1, by omega, ?_⟩⟩
  · unfold endAt
    rw [if_neg (by omega), show 2 * k / 2 = k by omega, e']
  · unfold endAt
    rw [if_pos (by omega), show (2 * k + 1) / 2 = k by omega, e']
theorem find_cell {S : List Int} {u : Int} : ∀ (d k : Nat), S.getD k default ≤ u → u < S.getD (k + d) default → ∃ j, j + 1 ≤ k + d ∧ S.getD j default ≤ u ∧ u < S.getD (j + 1) default
  | 0, k, h1, h2 => by simp only [Nat.add_zero] at h2; omega
  | d + 1, k, h1, h2 => by
    by_cases h : u < S.getD (k + 1) default
    · exact ⟨k, by omega, h1, h⟩
    · obtain ⟨j, q1, q2⟩ := find_cell (S := S) (u := u) d (k + 1) (by omega) (by rw [show k + 1 + d = k + (d + 1) by omega]; exact h2)
      exact ⟨j, by omega, q2⟩
/-! ## a set, one more at its end -/
theorem can_snoc : ∀ {o : List Sp} {s : Sp} {z : Int}, CanF z (o ++ [s]) ↔ CanF z o ∧ (∀ t ∈ o, t.b < s.a) ∧ z < s.a ∧ s.a < s.b
  | [], s, z => by simp [CanF]
  | t :: o, s, z => by
    have ih := can_snoc (o := o) (s := s) (z := t.b)
    simp only [List.cons_append, CanF, ih, List.mem_cons, forall_eq_or_imp]
    constructor
    · rintro ⟨h1, h2, h3, h4, h5, h6⟩
      exact ⟨⟨h1, h2, h3⟩, ⟨h5, h4⟩, by omega, h6⟩
    · rintro ⟨⟨h1, h2, h3⟩, ⟨h5, h4⟩, _, h6⟩
      exact ⟨h1, h2, h3, h4, h5, h6⟩
theorem add_snoc (o : List Sp) (s : Sp) (x y : Int) : addSp (o ++ [s]) x y = if s.b = x then o ++ [⟨s.a, y⟩] else o ++ [s] ++ [⟨x, y⟩] := by
  have e : (o ++ [s]).length - 1 = o.length := by simp
  have g : (o ++ [s]).getD o.length default = s := by
    rw [List.getD_eq_getElem?_getD, List.getElem?_append_right (Nat.le_refl _)]; simp
  have st : ∀ w : Sp, (o ++ [s]).set o.length w = o ++ [w] := fun w => by
    rw [List.set_append_right _ _ (Nat.le_refl _)]; simp
  unfold addSp
  rw [e, g]
  by_cases h : s.b = x
  · rw [if_pos ⟨by simp, h⟩, if_pos h, st]
  · rw [if_neg (fun q => h q.2), if_neg h]
/-- what stands at a step -/
structure Stp (S : List Int) (P : Int → Prop) (z : Int) (i : Nat) (o : List Sp) : Prop where
  can : CanF z o
  le : ∀ t ∈ o, t.b ≤ S.getD i default
  mem : ∀ u, InR o u ↔ ∃ j, j < i ∧ S.getD j default ≤ u ∧ u < S.getD (j + 1) default ∧ P (S.getD j default)
theorem Stp.no {S : List Int} {P : Int → Prop} {z : Int} {i : Nat} {o : List Sp} (h : Stp S P z i o) (hlt : S.getD i default < S.getD (i + 1) default) (hp : ¬ P (S.getD i default)) : Stp S P z (i + 1) o := by
  refine ⟨h.can, fun t ht => by have := h.le t ht; omega, fun u => ?_⟩
  rw [h.mem u]
  constructor
  · rintro ⟨j, h1, h2⟩; exact ⟨j, by omega, h2⟩
  · rintro ⟨j, h1, h2, h3, h4⟩
    rcases lt_succ_cases h1 with q | rfl
    · exact ⟨j, q, h2, h3, h4⟩
    · exact absurd h4 hp
theorem Stp.yes {S : List Int} {P : Int → Prop} {z : Int} {i : Nat} {o : List Sp} (h : Stp S P z i o) (hlt : S.getD i default < S.getD (i + 1) default) (hz : z < S.getD i default) (hp : P (S.getD i default)) : Stp S P z (i + 1) (addSp o (S.getD i default) (S.getD (i + 1) default)) := by
  have hmem : ∀ u, (∃ j, j < i + 1 ∧ S.getD j default ≤ u ∧ u < S.getD (j + 1) default ∧ P (S.getD j default)) ↔ InR o u ∨ (S.getD i default ≤ u ∧ u < S.getD (i + 1) default) := fun u => by
    rw [h.mem u]
    constructor
    · rintro ⟨j, h1, h2, h3, h4⟩
      rcases lt_succ_cases h1 with q | rfl
      · exact .inl ⟨j, q, h2, h3, h4⟩
      · exact .inr ⟨h2, h3⟩
    · rintro (⟨j, h1, h2⟩ | ⟨h1, h2⟩)
      · exact ⟨j, by omega, h2⟩
      · exact ⟨i, by omega, h1, h2, hp⟩
  rcases List.eq_nil_or_concat o with rfl | ⟨o, s, rfl⟩
  · refine ⟨⟨hz, hlt, trivial⟩, fun t ht => ?_, fun u => ?_⟩
    · have ht : t ∈ [(⟨S.getD i default, S.getD (i + 1) default⟩ : Sp)] := ht
      simp only [List.mem_singleton] at ht
      rw [ht]; exact Int.le_refl _
    · rw [hmem u]
      show InR [(⟨S.getD i default, S.getD (i + 1) default⟩ : Sp)] u ↔ _
      simp only [InR, or_false, false_or]
  · rw [List.concat_eq_append] at h hmem ⊢
    obtain ⟨c1, c2, c3, c4⟩ := can_snoc.1 h.can
    have hs := h.le s (by simp)
    rw [add_snoc]
    split
    · rename_i hb
      refine ⟨can_snoc.2 ⟨c1, c2, c3, by show s.a < S.getD (i + 1) default; omega⟩, fun t ht => ?_, fun u => ?_⟩
      · rw [List.mem_append] at ht
        rcases ht with ht | ht
        · have := h.le t (by simp [ht]); omega
        · simp only [List.mem_singleton] at ht
          rw [ht]; exact Int.le_refl _
      · rw [hmem u, inR_app, inR_app]
        simp only [InR, or_false]
        rw [or_assoc]
        refine or_congr Iff.rfl ?_
        omega
    · rename_i hb
      refine ⟨can_snoc.2 ⟨h.can, fun t ht => ?_, hz, hlt⟩, fun t ht => ?_, fun u => ?_⟩
      · show t.b < S.getD i default
        rw [List.mem_append] at ht
        rcases ht with ht | ht
        · have := c2 t ht; omega
        · simp only [List.mem_singleton] at ht
          subst ht; omega
      · rw [List.mem_append] at ht
        rcases ht with ht | ht
        · have := h.le t ht; omega
        · simp only [List.mem_singleton] at ht
          rw [ht]; exact Int.le_refl _
      · rw [hmem u, inR_app]
        simp only [InR, or_false]
theorem minus_ok {a b : List Sp} (sa : SetP a) (sb : SetP b) : (∃ z, CanF z (minusL a b)) ∧ ∀ u, InR (minusL a b) u ↔ InR a u ∧ ¬ InR b u := by
  obtain ⟨z, hz⟩ := ends_ex (a ++ b) (2 * (a ++ b).length)
  have hs : SrtF z (endsAB a b) := ends_srt (a ++ b) _ hz
  have hlt := srt_lt hs
  have hgt : ∀ i, i < (endsAB a b).length → z < (endsAB a b).getD i default := fun i hi => by
    have : (endsAB a b).getD i default ∈ endsAB a b := by
      rw [List.getD_eq_getElem?_getD, List.getElem?_eq_getElem hi]; exact List.getElem_mem hi
    obtain ⟨j, j1, j2⟩ := (ends_mem (a ++ b) _).1 this
    rw [j2]; exact hz j j1
  have step : ∀ i, i ≤ (endsAB a b).length - 1 → Stp (endsAB a b) (fun x => InP a x ∧ ¬ InP b x) z i (ofN a b i) := by
    intro i
    induction i with
    | zero => intro _; exact ⟨trivial, fun t ht => by simp [ofN] at ht, fun u => ⟨fun h => h.elim, fun ⟨j, h, _⟩ => by omega⟩⟩
    | succ i ih =>
      intro hi
      have h := ih (by omega)
      have hl := hlt i (i + 1) (by omega) (by omega)
      unfold ofN
      split
      · rename_i hp; exact h.yes hl (hgt i (by omega)) hp
      · rename_i hp; exact h.no hl hp
  have fin := step _ (Nat.le_refl _)
  refine ⟨⟨z, fin.can⟩, fun u => ?_⟩
  show InR (ofN a b ((endsAB a b).length - 1)) u ↔ _
  rw [fin.mem u]
  -- what holds at an end holds up to the next
  have const : ∀ (c : List Sp), (∀ s ∈ c, s.a ∈ endsAB a b ∧ s.b ∈ endsAB a b) → ∀ j, j + 1 < (endsAB a b).length → (endsAB a b).getD j default ≤ u → u < (endsAB a b).getD (j + 1) default → (InR c u ↔ InR c ((endsAB a b).getD j default)) := by
    intro c
    induction c with
    | nil => intros; exact Iff.rfl
    | cons s c ih =>
      intro hc j hj h1 h2
      have ih := ih (fun t ht => hc t (by simp [ht])) j hj h1 h2
      simp only [InR]
      refine or_congr ?_ ih
      obtain ⟨m1, m2⟩ := hc s (by simp)
      obtain ⟨k, k1, k2⟩ := mem_at m1
      obtain ⟨l, l1, l2⟩ := mem_at m2
      have q1 : s.a ≤ u ↔ s.a ≤ (endsAB a b).getD j default := by
        constructor
        · intro h
          by_cases hkj : k ≤ j
          · rcases Nat.lt_or_ge k j with r | r
            · have := hlt k j r (by omega); omega
            · have : k = j := by omega
              subst this; omega
          · rcases Nat.lt_or_ge (j + 1) k with r | r
            · have := hlt (j + 1) k r k1; omega
            · have : k = j + 1 := by omega
              subst this; omega
        · intro h; omega
      have q2 : u < s.b ↔ (endsAB a b).getD j default < s.b := by
        constructor
        · intro h; omega
        · intro h
          have hjl : j < l := by
            rcases Nat.lt_or_ge j l with r | r
            · exact r
            · rcases Nat.lt_or_ge l j with r' | r'
              · have := hlt l j r' (by omega); omega
              · have : l = j := by omega
                subst this; omega
          rcases Nat.lt_or_ge (j + 1) l with r | r
          · have := hlt (j + 1) l r l1; omega
          · have : l = j + 1 := by omega
            subst this; omega
      rw [q1, q2]
  have ma : ∀ s ∈ a, s.a ∈ endsAB a b ∧ s.b ∈ endsAB a b := fun s hs => end_a (a ++ b) (by simp [hs])
  have mb : ∀ s ∈ b, s.a ∈ endsAB a b ∧ s.b ∈ endsAB a b := fun s hs => end_a (a ++ b) (by simp [hs])
  constructor
  · rintro ⟨j, j1, j2, j3, j4, j5⟩
    rw [inP_R] at j4 j5
    rw [const a ma j (by omega) j2 j3, const b mb j (by omega) j2 j3]
    exact ⟨j4, j5⟩
  · rintro ⟨h1, h2⟩
    obtain ⟨i, i1, i2, i3⟩ := inP_R.2 h1
    have hm : a.getD i default ∈ a := by
      rw [List.getD_eq_getElem?_getD, List.getElem?_eq_getElem i1]; exact List.getElem_mem i1
    obtain ⟨m1, m2⟩ := ma _ hm
    obtain ⟨k, k1, k2⟩ := mem_at m1
    obtain ⟨l, l1, l2⟩ := mem_at m2
    have hkl : k < l := by
      rcases Nat.lt_or_ge k l with r | r
      · exact r
      · rcases Nat.lt_or_ge l k with r' | r'
        · have := hlt l k r' k1; omega
        · have : l = k := by omega
          subst this; omega
    obtain ⟨j, q1, q2, q3⟩ := find_cell (S := endsAB a b) (u := u) (l - k) k (by omega) (by rw [show k + (l - k) = l by omega]; omega)
    refine ⟨j, by omega, q2, q3, ?_, ?_⟩
    · rw [inP_R, ← const a ma j (by omega) q2 q3]; exact h1
    · rw [inP_R, ← const b mb j (by omega) q2 q3]; exact h2
/-- THE TWO WAYS come to the same -/
theorem sets_same {a b : List Sp} (sa : SetP a) (sb : SetP b) (ra : Rng a) (rb : Rng b) : meetL a (restL b) = minusL a b := by
  obtain ⟨x, cx⟩ := setP_ex sa
  obtain ⟨⟨y, cy⟩, hr⟩ := rest_ok sb rb
  obtain ⟨c1, m1⟩ := meet_ok _ a (restL b) x y (Nat.le_refl _) cx cy
  obtain ⟨⟨z, c2⟩, m2⟩ := minus_ok sa sb
  refine can_ext c1 c2 fun u => ?_
  rw [m1 u, m2 u, hr u]
  constructor
  · rintro ⟨h1, _, _, h2⟩; exact ⟨h1, h2⟩
  · rintro ⟨h1, h2⟩
    obtain ⟨i, i1, i2, i3⟩ := inP_R.2 h1
    have hm : a.getD i default ∈ a := by
      rw [List.getD_eq_getElem?_getD, List.getElem?_eq_getElem i1]; exact List.getElem_mem i1
    have := ra _ hm
    exact ⟨h1, by omega, by omega, h2⟩
end Go.Px.Fs
end
/- FsZ -/
section
set_option linter.unusedVariables false
namespace Go.Px.Fs
/-! ## the order -/
theorem cmpI_lt {a b : Int} : cmpI a b < 0 ↔ a < b := by unfold cmpI; split <;> (try split) <;> omega
theorem cmpI_eq {a b : Int} : cmpI a b = 0 ↔ a = b := by unfold cmpI; split <;> (try split) <;> omega
theorem or3_lt {x y z : Int} : orI [x, y, z] < 0 ↔ x < 0 ∨ (x = 0 ∧ (y < 0 ∨ (y = 0 ∧ z < 0))) := by rw [orI3]; split <;> (try split) <;> omega
theorem or3_eq {x y z : Int} : orI [x, y, z] = 0 ↔ x = 0 ∧ y = 0 ∧ z = 0 := by rw [orI3]; split <;> (try split) <;> omega
theorem cB_eq : ∀ {a b : List UInt8}, Lib.compareBytes a b = 0 → a = b
  | [], [], _ => rfl
  | [], _ :: _, h => by simp [Lib.compareBytes] at h
  | _ :: _, [], h => by simp [Lib.compareBytes] at h
  | x :: a, y :: b, h => by
    simp only [Lib.compareBytes] at h
    split at h
    · omega
    · split at h
      · omega
      · rename_i h1 h2
        have : x = y := by
          apply UInt8.toNat_inj.1
          rw [UInt8.lt_iff_toNat_lt] at h1 h2; omega
        rw [this, cB_eq h]
theorem cB_lt {x y : UInt8} {a b : List UInt8} : Lib.compareBytes (x :: a) (y :: b) < 0 ↔ x.toNat < y.toNat ∨ (x.toNat = y.toNat ∧ Lib.compareBytes a b < 0) := by
  simp only [Lib.compareBytes, UInt8.lt_iff_toNat_lt]
  split
  · omega
  · split <;> omega
theorem cB_trans : ∀ {a b c : List UInt8}, Lib.compareBytes a b < 0 → Lib.compareBytes b c < 0 → Lib.compareBytes a c < 0
  | [], [], _, h, _ => by simp [Lib.compareBytes] at h
  | _ :: _, [], _, h, _ => by simp [Lib.compareBytes] at h
  | [], _ :: _, [], _, h => by simp [Lib.compareBytes] at h
  | _ :: _, _ :: _, [], _, h => by simp [Lib.compareBytes] at h
  | [], _ :: _, _ :: _, _, _ => by simp [Lib.compareBytes]
  | x :: a, y :: b, z :: c, h1, h2 => by
    rw [cB_lt] at h1 h2 ⊢
    rcases h1 with h1 | ⟨h1, k1⟩ <;> rcases h2 with h2 | ⟨h2, k2⟩
    · left; omega
    · left; omega
    · left; omega
    · right; exact ⟨by omega, cB_trans k1 k2⟩
theorem cmpVa_lt {a b : Va} : cmpVa a b < 0 ↔ a.k < b.k ∨ (a.k = b.k ∧ (a.n < b.n ∨ (a.n = b.n ∧ Lib.compareBytes a.s b.s < 0))) := by
  unfold cmpVa; rw [or3_lt]; simp only [cmpI_lt, cmpI_eq]
theorem cmpVa_eq {a b : Va} (h : cmpVa a b = 0) : a = b := by
  unfold cmpVa at h
  rw [or3_eq] at h
  simp only [cmpI_eq] at h
  have := cB_eq h.2.2
  cases a; cases b; simp only [] at h this; rw [h.1, h.2.1, this]
theorem cmpVa_trans {a b c : Va} (h1 : cmpVa a b < 0) (h2 : cmpVa b c < 0) : cmpVa a c < 0 := by
  rw [cmpVa_lt] at *
  rcases h1 with h1 | ⟨h1, h1' | ⟨h1', k1⟩⟩ <;> rcases h2 with h2 | ⟨h2, h2' | ⟨h2', k2⟩⟩ <;> first | (left; omega) | (right; refine ⟨by omega, ?_⟩; first | (left; omega) | (right; exact ⟨by omega, cB_trans k1 k2⟩))
theorem cmpFa_lt {a b : Fa} : cmpFa a b < 0 ↔ a.e < b.e ∨ (a.e = b.e ∧ (a.a < b.a ∨ (a.a = b.a ∧ cmpVa a.v b.v < 0))) := by
  unfold cmpFa; rw [or3_lt]; simp only [cmpI_lt, cmpI_eq]
theorem cmpFa_eq {a b : Fa} (h : cmpFa a b = 0) : a.e = b.e ∧ a.a = b.a ∧ a.v = b.v := by
  unfold cmpFa at h
  rw [or3_eq] at h
  simp only [cmpI_eq] at h
  exact ⟨h.1, h.2.1, cmpVa_eq h.2.2⟩
theorem cmpFa_trans {a b c : Fa} (h1 : cmpFa a b < 0) (h2 : cmpFa b c < 0) : cmpFa a c < 0 := by
  rw [cmpFa_lt] at *
  rcases h1 with h1 | ⟨h1, h1' | ⟨h1', k1⟩⟩ <;> rcases h2 with h2 | ⟨h2, h2' | ⟨h2', k2⟩⟩ <;> first | (left; omega) | (right; refine ⟨by omega, ?_⟩; first | (left; omega) | (right; exact ⟨by omega, cmpVa_trans k1 k2⟩))
theorem cmpFa_r {x a b : Fa} (h : cmpFa a b = 0) : cmpFa x a = cmpFa x b := by
  obtain ⟨h1, h2, h3⟩ := cmpFa_eq h
  unfold cmpFa; rw [h1, h2, h3]
/-! ## lists in order -/
theorem all_sorted {l : List Fa} (h : AllP l) : ∀ j i, i < j → j < l.length → cmpFa (l.getD i default) (l.getD j default) < 0
  | 0, i, hij, _ => by omega
  | j + 1, i, hij, hj => by
    have h1 := (h (j + 1) hj).2 (by omega)
    simp only [Nat.add_sub_cancel] at h1
    rcases lt_succ_cases hij with q | rfl
    · exact cmpFa_trans (all_sorted h j i q (by omega)) h1
    · exact h1
theorem all_mono {l : List Fa} (h : AllP l) (f : Fa) : Mono l f := fun j m hjm hm q => by
  rcases Nat.lt_or_ge j m with r | r
  · exact cmpFa_trans (all_sorted h m j r hm) q
  · have : j = m := by omega
    rw [this]; exact q
theorem firstG_spec (f : Fa) : ∀ l : List Fa, firstG l f ≤ l.length ∧ (∀ j, j < firstG l f → cmpFa (l.getD j default) f < 0) ∧ (firstG l f < l.length → ¬ cmpFa (l.getD (firstG l f) default) f < 0)
  | [] => ⟨Nat.le_refl _, fun j hj => by simp [firstG] at hj, fun h => by simp at h⟩
  | x :: l => by
    obtain ⟨h1, h2, h3⟩ := firstG_spec f l
    unfold firstG
    split
    · rename_i hx
      refine ⟨by simp only [List.length_cons]; omega, fun j hj => ?_, fun h => ?_⟩
      · cases j with
        | zero => simpa using hx
        | succ j => simpa using h2 j (by omega)
      · simpa using h3 (by simpa using h)
    · rename_i hx
      exact ⟨by omega, fun j hj => by omega, fun _ => by simpa using hx⟩
theorem findB_L {l : List Fa} (h : AllP l) (f : Fa) : findB l f = findL l f := by
  obtain ⟨h1, h2, h3⟩ := firstG_spec f l
  unfold findB
  by_cases q : firstG l f < l.length ∧ cmpFa (l.getD (firstG l f) default) f = 0
  · rw [bd_of q, cond_true, findL_at (i := firstG l f) q.1 (fun j hj => by have := h2 j hj; omega) q.2]
  · rw [bd_no q, cond_false, findL_0]
    intro j hj hz
    rcases Nat.lt_trichotomy j (firstG l f) with r | r | r
    · have := h2 j r; omega
    · subst r; exact q ⟨hj, hz⟩
    · have := all_sorted h j (firstG l f) r hj
      rw [cmpFa_r hz] at this
      exact h3 (by omega) this
theorem firstG_key (f : Fa) : ∀ l : List Fa, firstG l (keyF f) = firstG l f
  | [] => rfl
  | x :: l => by
    have ih := firstG_key f l
    unfold firstG
    rw [ih]; rfl
theorem findB_key (l : List Fa) (f : Fa) : findB l (keyF f) = findB l f := by
  unfold findB
  rw [firstG_key]; rfl
theorem findL_of {Q : List Sp → Prop} (h0 : Q []) (f : Fa) : ∀ {l : List Fa}, (∀ i, i < l.length → Q (l.getD i default).l) → Q (findL l f)
  | [], _ => h0
  | x :: l, h => by
    unfold findL
    split
    · exact h 0 (by simp)
    · exact findL_of h0 f fun i hi => h (i + 1) (by simpa using hi)
theorem set_nil : SetP [] := fun i hi => by simp at hi
/-! ## what is left -/
theorem left_same {D E : Fa → List Sp} {a : List Fa} (h : ∀ i, i < a.length → D (a.getD i default) = E (a.getD i default)) : ∀ i, i ≤ a.length → leftN D a i = leftN E a i
  | 0, _ => rfl
  | i + 1, hi => by
    unfold leftN
    rw [h i (by omega), left_same h i (by omega)]
def RngF (l : List Fa) : Prop := ∀ i, i < l.length → Rng (l.getD i default).l
/-- THE PLAIN LAW -/
theorem less_same {a b : List Fa} (pa : AllP a) (pb : AllP b) (ra : RngF a) (rb : RngF b) : leftN (less1 b) a a.length = leftN (less2 b) a a.length := by
  refine left_same (fun i hi => ?_) _ (Nat.le_refl _)
  unfold less1 less2
  rw [findB_key, findB_L pb]
  exact sets_same (pa i hi).1.2.2 (findL_of set_nil _ fun j hj => (pb j hj).1.2.2) (ra i hi) (findL_of (fun s hs => by simp at hs) _ rb)
end Go.Px.Fs
end
/- FsS -/
section
set_option linter.unusedVariables false
set_option linter.unusedSimpArgs false
set_option maxHeartbeats 4000000
set_option maxRecDepth 20000
namespace Go.Px.Fs
open Go.Proofs
attribute [local irreducible] Go.Px.KOk
/-- how great the first facts are -/
def sumN (l : List Fa) : Nat → Nat
  | 0 => 0
  | i + 1 => sumN l i + 20 + (l.getD i default).v.s.length + 4 * (l.getD i default).l.length
/-- within what came in -/
def InB (l : List Fa) : Prop := l.length ≤ 1048576 ∧ ∀ i, (l.getD i default).v.s.length ≤ 1048576 ∧ (l.getD i default).l.length ≤ 1048576
theorem sumN_le {l : List Fa} (h : InB l) : ∀ i, sumN l i ≤ i * 5242900
  | 0 => by simp [sumN]
  | i + 1 => by
    have h1 := sumN_le h i
    have h2 := h.2 i
    simp only [sumN]; omega
def greatI (l : List Fa) : Int := if 3000 < sumN l l.length then 1 else 0
noncomputable def r20_0 : List Oper := ((drawn (Try.f20.body.getD .skip))[0]?).getD []
theorem dr20_0 : chkOrd cF r20_0 [0, 1, 2, 3, 4, 5, 6, 7, 8, 9, 10, 11, 12, 13, 14, 15, 16, 17, 18] = true := by kernel_rfl
theorem k4 (l : List Fa) (hl : InB l) : KOk cF 20 [fasA l] (.int .i64 (greatI l)) := by
  have hn := hl.1
  refine KOk.of cF_ok eF.g Try.func20 rfl (Nat.le_of_ble_eq_true rfl) fun w F => ?_
  repeat' first | refine Go.seq ?_ | refine Go.region rfl ?_ | refine Ops.nil ?_ | refine Ops.val eF rfl rfl (by first | exact Want.no rfl | exact Want.tT rfl rfl rfl rfl | exact Want.fF rfl rfl rfl rfl) (by first | exact Hop.assign rfl rfl) ?_ | refine Go.block ?_
  refine Go.loop (fun i : Nat => [(0, fasA l), (3, .int .i64 (sumN l i)), (4, .int .i64 i)]) (fun _ => hp []) (fun i => i ≤ l.length) (fun i => l.length - i) 0 (by omega) ⟨rfl, rfl, rfl, trivial⟩ rfl (fun i hi ih => ?_)
  have hs : sumN l i ≤ 5497579110400 := by
    have := sumN_le hl i
    have : i * 5242900 ≤ 1048576 * 5242900 := Nat.mul_le_mul_right _ (by omega)
    omega
  have h1 := (hl.2 (i : Int).toNat).1
  have h2 := (hl.2 (i : Int).toNat).2
  repeat' first | refine Go.seq ?_ | refine Go.region rfl ?_ | refine Ops.nil ?_ | refine Ops.val eF rfl rfl (by first | exact Want.no rfl | exact Want.tT rfl rfl rfl rfl | exact Want.fF rfl rfl rfl rfl) (by first | exact Hop.move rfl rfl | exact Hop.assign rfl rfl | exact Hop.lss rfl rfl rfl | exact Hop.gtr rfl rfl rfl | exact Hop.lenD eF rfl rfl rfl rfl rfl rfl rfl) ?_ | refine Go.condPt rfl (fun _ => ?_) (fun _ => ?_) | refine Go.block ?_ | refine Go.skip ?_ | refine Go.exit rfl ?_ | refine Go.retF rfl ?_ rfl
  · refine Go.draw eF hm [] [0, 1, 2, 3, 4, 5, 6, 7, 8, 9, 10, 11, 12, 13, 14, 15, 16, 17, 18] dr20_0 ?_
    repeat' first | refine Dr.nil ?_ | refine Dr.pure rfl rfl rfl rfl (by first | exact Want.no rfl | exact Want.tT rfl rfl rfl rfl | exact Want.fF rfl rfl rfl rfl) (by first | exact Hop.move rfl rfl | exact Hop.assign rfl rfl | exact Hop.add rfl rfl rfl (by omega) | exact Hop.mul rfl rfl rfl (by omega) | exact Hop.faR eF rfl rfl rfl rfl rfl rfl rfl | exact Hop.idx eF rfl rfl rfl rfl rfl rfl rfl (fun _ => rfl) (by omega) | exact Hop.ldR eF rfl rfl rfl rfl rfl | exact Hop.lenD eF rfl rfl rfl rfl rfl rfl rfl | exact Hop.lenS eF rfl rfl rfl rfl rfl rfl rfl) ?_ | refine Dr.light rfl rfl rfl rfl (by first | exact Want.no rfl | exact Want.tT rfl rfl rfl rfl | exact Want.fF rfl rfl rfl rfl) (by first | exact Hop.ldR eF rfl rfl rfl rfl rfl | exact Hop.lenD eF rfl rfl rfl rfl rfl rfl rfl | exact Hop.lenS eF rfl rfl rfl rfl rfl rfl rfl) ?_
    repeat' first | refine Go.region rfl ?_ | refine Ops.nil ?_ | refine Ops.val eF rfl rfl (by first | exact Want.no rfl | exact Want.tT rfl rfl rfl rfl | exact Want.fF rfl rfl rfl rfl) (by first | exact Hop.move rfl rfl | exact Hop.assign rfl rfl | exact Hop.add rfl rfl rfl (by omega)) ?_ | refine Go.unblk ?_
    refine Go.to (ih (i + 1) (by omega) (by omega)) ⟨rfl, ?_, rfl, trivial⟩
    show some (AV.int .i64 _) = some (AV.int .i64 _)
    congr 2
  all_goals
    have hi' : i = l.length := by omega
    subst hi'
  · rename_i q
    rw [show greatI l = 1 from if_pos (by omega)]; rfl
  · rename_i q
    rw [show greatI l = 0 from if_neg (by omega)]; rfl
end Go.Px.Fs
end
