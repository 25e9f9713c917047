/-
  AxQc: regions, code, calls, with closed branches; it is the evaluator.
-/
import Derived.Test.YtaopfnhkfedemaaGreatDoorAxQb
import Derived.Test.YtaopfnhkfedemaaGreatDoorAxX
set_option linter.unusedVariables false
set_option linter.unusedSimpArgs false
noncomputable section
namespace Go.Ax

/-! ### a step -/
def sdNone (e : T AV) (_ : AV) (_ : Nat) (h : Heap) : SR := .ok e h
def sdSome (d : Tmp) (e : T AV) (v : AV) (sz : Nat) (h : Heap) : SR := Bool.rec (motive := fun _ => SR) (.bad []) (.ok (e.set und d v) h) (Nat.ble (Nat.succ d) sz)
def setDQ (e : T AV) (d : Option Tmp) (v : AV) (sz : Nat) (h : Heap) : SR := Option.rec (motive := fun _ => T AV → AV → Nat → Heap → SR) sdNone sdSome d e v sz h
theorem setDQ_eq (e : T AV) (d : Option Tmp) (v : AV) (sz : Nat) (h : Heap) : setDQ e d v sz h = setD e d v sz h := by
  cases d with
  | none => rfl
  | some d =>
    show (Bool.rec (motive := fun _ => SR) (.bad []) (.ok (e.set und d v) h) (Nat.ble (d + 1) sz) : SR) = _
    unfold setD
    simp only []
    cases Nat.ble (d + 1) sz <;> rfl
def anOk (a : AV) (h : Heap) (sz : Nat) (o : Oper) (e : T AV) : SR := setDQ e o.dst a sz h
def anBad (l : List String) (_ : Nat) (o : Oper) (_ : T AV) : SR := .bad (o.pos :: l)
def ansQ (r : Ans) (sz : Nat) (o : Oper) (e : T AV) : SR := Ans.rec (motive := fun _ => Nat → Oper → T AV → SR) anOk anBad r sz o e
def ouV (a : AV) (h : Heap) (_ : App) (sz : Nat) (o : Oper) (e : T AV) : SR := setDQ e o.dst a sz h
def ouG (t : Tgt) (args : List AV) (h : Heap) (app : App) (sz : Nat) (o : Oper) (e : T AV) : SR := ansQ (app t args h) sz o e
def ouSome (r : Out) : App → Nat → Oper → T AV → SR := Out.rec (motive := fun _ => App → Nat → Oper → T AV → SR) ouV ouG r
def ouNone (_ : App) (_ : Nat) (o : Oper) (_ : T AV) : SR := .bad [o.pos]
def outQ (r : Option Out) (app : App) (sz : Nat) (o : Oper) (e : T AV) : SR := Option.rec (motive := fun _ => App → Nat → Oper → T AV → SR) ouNone ouSome r app sz o e
abbrev SF := Ctx → App → Nat → List Oper → Oper → T AV → Heap → SR
def stYes (c : Ctx) (app : App) (sz : Nat) (_ : List Oper) (o : Oper) (e : T AV) (h : Heap) : SR := outQ (opQ c e h o.op) app sz o e
def stNo (_ : Ctx) (_ : App) (sz : Nat) (_ : List Oper) (o : Oper) (e : T AV) (h : Heap) : SR := setDQ e o.dst und sz h
def stB (b : Bool) : SF := Bool.rec (motive := fun _ => SF) stNo stYes b
def stBad (_ : Ctx) (_ : App) (_ : Nat) (_ : List Oper) (o : Oper) (_ : T AV) (_ : Heap) : SR := .bad [o.pos]
def stG (_ : Nat × Bool) (c : Ctx) (app : App) (sz : Nat) (ops : List Oper) (o : Oper) (e : T AV) (h : Heap) : SR := Option.rec (motive := fun _ => SF) stBad stB (wantA ops e o) c app sz ops o e h
def stepQ (c : Ctx) (app : App) (sz : Nat) (ops : List Oper) (o : Oper) (e : T AV) (h : Heap) : SR := Option.rec (motive := fun _ => SF) stYes stG o.guard c app sz ops o e h
theorem outQ_eq (c : Ctx) (app : App) (sz : Nat) (o : Oper) (e : T AV) (r : Option Out) : outQ r app sz o e = (match r with
    | none => .bad [o.pos]
    | some (.v a h') => setD e o.dst a sz h'
    | some (.go t args h') => (match app t args h' with
      | .ok a h'' => setD e o.dst a sz h''
      | .bad l => .bad (o.pos :: l))) := by
  cases r with
  | none => rfl
  | some r =>
    cases r with
    | v a h' => exact setDQ_eq e o.dst a sz h'
    | go t args h' =>
      show ansQ (app t args h') sz o e = _
      simp only []
      cases app t args h' with
      | ok a h'' => exact setDQ_eq e o.dst a sz h''
      | bad l => rfl
theorem stepQ_eq (c : Ctx) (app : App) (sz : Nat) (ops : List Oper) (o : Oper) (e : T AV) (h : Heap) : stepQ c app sz ops o e h = stepA c app sz ops o e h := by
  unfold stepQ stepA
  have key : stYes c app sz ops o e h = (match opA c e h o.op with
    | none => .bad [o.pos]
    | some (.v a h') => setD e o.dst a sz h'
    | some (.go t args h') => (match app t args h' with
      | .ok a h'' => setD e o.dst a sz h''
      | .bad l => .bad (o.pos :: l))) := by
    unfold stYes; rw [opQ_eq]; exact outQ_eq c app sz o e _
  cases hg : o.guard with
  | none =>
    show stYes c app sz ops o e h = _
    have hw : wantA ops e o = some true := by unfold wantA; rw [hg]
    rw [hw, key]
    simp only []
    rcases opA c e h o.op with _ | r
    · rfl
    · cases r with
      | v a h' => rfl
      | go t args h' => simp only []; cases app t args h' <;> rfl
  | some g =>
    show Option.rec (motive := fun _ => SF) stBad stB (wantA ops e o) c app sz ops o e h = _
    cases wantA ops e o with
    | none => rfl
    | some b =>
      cases b with
      | false => exact setDQ_eq e o.dst und sz h
      | true =>
        show stYes c app sz ops o e h = _
        rw [key]
        simp only []
        rcases opA c e h o.op with _ | r
        · rfl
        · cases r with
          | v a h' => rfl
          | go t args h' => simp only []; cases app t args h' <;> rfl

def srOk (e : T AV) (h : Heap) (k : T AV → Heap → SR) : SR := k e h
def srBad (l : List String) (_ : T AV → Heap → SR) : SR := .bad l
def srQ (r : SR) (k : T AV → Heap → SR) : SR := SR.rec (motive := fun _ => (T AV → Heap → SR) → SR) srOk srBad r k
def runOpsQ (c : Ctx) (app : App) (sz : Nat) (ops : List Oper) (l : List Oper) : T AV → Heap → SR :=
  List.rec (motive := fun _ => T AV → Heap → SR) SR.ok (fun o _ ih e h => srQ (stepQ c app sz ops o e h) ih) l
theorem runOpsQ_eq (c : Ctx) (app : App) (sz : Nat) (ops : List Oper) : ∀ (l : List Oper) (e : T AV) (h : Heap), runOpsQ c app sz ops l e h = runOps c app sz ops l e h
  | [], e, h => rfl
  | o :: l, e, h => by
    show srQ (stepQ c app sz ops o e h) (runOpsQ c app sz ops l) = _
    rw [stepQ_eq, runOps_cons]
    cases stepA c app sz ops o e h with
    | ok e' h' => exact runOpsQ_eq c app sz ops l e' h'
    | bad l => rfl

/-! ### a drawn region -/
abbrev PF := Ctx → App → Nat → PStep → T AV → Heap → List (Heap × Nat) → DR
def srNone (e : T AV) (_ : AV) (_ : Nat) (h : Heap) (bs : List (Heap × Nat)) : DR := .ok e h bs
def srSome (d : Tmp) (e : T AV) (v : AV) (sz : Nat) (h : Heap) (bs : List (Heap × Nat)) : DR := Bool.rec (motive := fun _ => DR) (.bad []) (.ok (e.set und d v) h bs) (Nat.ble (Nat.succ d) sz)
def setRQ (e : T AV) (d : Option Tmp) (v : AV) (sz : Nat) (h : Heap) (bs : List (Heap × Nat)) : DR := Option.rec (motive := fun _ => T AV → AV → Nat → Heap → List (Heap × Nat) → DR) srNone srSome d e v sz h bs
theorem setRQ_eq (e : T AV) (d : Option Tmp) (v : AV) (sz : Nat) (h : Heap) (bs : List (Heap × Nat)) : setRQ e d v sz h bs = setR e d v sz h bs := by
  cases d with
  | none => rfl
  | some d =>
    show (Bool.rec (motive := fun _ => DR) (.bad []) (.ok (e.set und d v) h bs) (Nat.ble (d + 1) sz) : DR) = _
    unfold setR
    simp only []
    cases Nat.ble (d + 1) sz <;> rfl
abbrev OF := Nat → PStep → T AV → Heap → List (Heap × Nat) → DR
def pBad (_ : Nat) (s : PStep) (_ : T AV) (_ : Heap) (_ : List (Heap × Nat)) : DR := .bad [s.o.pos]
def pGoBad (_ : Tgt) (_ : List AV) (_ : Heap) : OF := pBad
def puV (v : AV) (_ : Heap) (sz : Nat) (s : PStep) (e : T AV) (h : Heap) (bs : List (Heap × Nat)) : DR := setRQ e s.o.dst v sz h bs
def puO (r : Out) : OF := Out.rec (motive := fun _ => OF) puV pGoBad r
def pPure (c : Ctx) (_ : App) (sz : Nat) (s : PStep) (e : T AV) (h : Heap) (bs : List (Heap × Nat)) : DR := Option.rec (motive := fun _ => OF) pBad puO (opQ c e h s.o.op) sz s e h bs
def alV (v : AV) (h' : Heap) (sz : Nat) (s : PStep) (e : T AV) (_ : Heap) (bs : List (Heap × Nat)) : DR := setRQ e s.o.dst v sz h' bs
def alO (r : Out) : OF := Out.rec (motive := fun _ => OF) alV pGoBad r
def pAlloc (c : Ctx) (_ : App) (sz : Nat) (s : PStep) (e : T AV) (h : Heap) (bs : List (Heap × Nat)) : DR := Option.rec (motive := fun _ => OF) pBad alO (opQ c e h s.o.op) sz s e h bs
def pLight (c : Ctx) (_ : App) (sz : Nat) (s : PStep) (e : T AV) (h : Heap) (bs : List (Heap × Nat)) : DR :=
  match lightV c e s bs none with
  | some v => setRQ e s.o.dst v sz h bs
  | none => .bad ["light", s.o.pos]
def wkFin (v : AV) (h' : Heap) (sz : Nat) (s : PStep) (e : T AV) (h : Heap) (bs : List (Heap × Nat)) : DR :=
  Bool.rec (motive := fun _ => DR) (.bad ["nxt"]) (setRQ e s.o.dst v sz h' ((h', s.i) :: bs)) (Nat.ble h.nxt h'.nxt)
abbrev WF1 := App → Nat → PStep → T AV → Heap → List (Heap × Nat) → DR
def wkV (v : AV) (h' : Heap) (_ : App) (sz : Nat) (s : PStep) (e : T AV) (h : Heap) (bs : List (Heap × Nat)) : DR := wkFin v h' sz s e h bs
def wkA (r : Ans) (sz : Nat) (s : PStep) (e : T AV) (h : Heap) (bs : List (Heap × Nat)) : DR :=
  match r with
  | .ok v h' => wkFin v h' sz s e h bs
  | .bad l => .bad (s.o.pos :: l)
def wkG (t : Tgt) (args : List AV) (h1 : Heap) (app : App) (sz : Nat) (s : PStep) (e : T AV) (h : Heap) (bs : List (Heap × Nat)) : DR := wkA (app t args h1) sz s e h bs
def wkO (r : Out) : WF1 := Out.rec (motive := fun _ => WF1) wkV wkG r
def wkNone (_ : App) (_ : Nat) (s : PStep) (_ : T AV) (_ : Heap) (_ : List (Heap × Nat)) : DR := .bad [s.o.pos]
def pWork (c : Ctx) (app : App) (sz : Nat) (s : PStep) (e : T AV) (h : Heap) (bs : List (Heap × Nat)) : DR := Option.rec (motive := fun _ => WF1) wkNone wkO (opQ c e h s.o.op) app sz s e h bs
def pCls (x : Cls) : PF := Cls.rec (motive := fun _ => PF) pPure pLight pAlloc pWork x
def pYes (c : Ctx) (app : App) (sz : Nat) (s : PStep) (e : T AV) (h : Heap) (bs : List (Heap × Nat)) : DR := pCls s.cl c app sz s e h bs
def pNo (_ : Ctx) (_ : App) (sz : Nat) (s : PStep) (e : T AV) (h : Heap) (bs : List (Heap × Nat)) : DR := setRQ e s.o.dst und sz h bs
def pB (b : Bool) : PF := Bool.rec (motive := fun _ => PF) pNo pYes b
def pWBad (_ : Ctx) (_ : App) (_ : Nat) (s : PStep) (_ : T AV) (_ : Heap) (_ : List (Heap × Nat)) : DR := .bad [s.o.pos]
def runPQ (c : Ctx) (app : App) (sz : Nat) (ops : List Oper) (s : PStep) (e : T AV) (h : Heap) (bs : List (Heap × Nat)) : DR := Option.rec (motive := fun _ => PF) pWBad pB (wantA ops e s.o) c app sz s e h bs
theorem runPQ_eq (c : Ctx) (app : App) (sz : Nat) (ops : List Oper) (s : PStep) (e : T AV) (h : Heap) (bs : List (Heap × Nat)) : runPQ c app sz ops s e h bs = runP c app sz ops s e h bs := by
  unfold runPQ runP
  have hfin : ∀ v h', wkFin v h' sz s e h bs = (match Nat.ble h.nxt h'.nxt with | true => setR e s.o.dst v sz h' ((h', s.i) :: bs) | false => .bad ["nxt"]) := fun v h' => by
    unfold wkFin
    rw [setRQ_eq]
    cases Nat.ble h.nxt h'.nxt <;> rfl
  cases wantA ops e s.o with
  | none => rfl
  | some b =>
    cases b with
    | false => exact setRQ_eq e s.o.dst und sz h bs
    | true =>
      show pCls s.cl c app sz s e h bs = _
      simp only []
      cases s.cl with
      | pure =>
        show Option.rec (motive := fun _ => OF) pBad puO (opQ c e h s.o.op) sz s e h bs = _
        rw [opQ_eq]
        simp only []
        rcases opA c e h s.o.op with _ | r
        · rfl
        · cases r with
          | v a h' => exact setRQ_eq e s.o.dst a sz h bs
          | go t args h' => rfl
      | light =>
        show (match lightV c e s bs none with | some v => setRQ e s.o.dst v sz h bs | none => .bad ["light", s.o.pos]) = _
        simp only []
        cases lightV c e s bs none with
        | none => rfl
        | some v => exact setRQ_eq e s.o.dst v sz h bs
      | alloc =>
        show Option.rec (motive := fun _ => OF) pBad alO (opQ c e h s.o.op) sz s e h bs = _
        rw [opQ_eq]
        simp only []
        rcases opA c e h s.o.op with _ | r
        · rfl
        · cases r with
          | v a h' => exact setRQ_eq e s.o.dst a sz h' bs
          | go t args h' => rfl
      | work =>
        show Option.rec (motive := fun _ => WF1) wkNone wkO (opQ c e h s.o.op) app sz s e h bs = _
        rw [opQ_eq]
        simp only []
        rcases opA c e h s.o.op with _ | r
        · rfl
        · cases r with
          | v a h' => exact (hfin a h').trans (by simp only []; cases Nat.ble h.nxt h'.nxt <;> rfl)
          | go t args h' =>
            show wkA (app t args h') sz s e h bs = _
            simp only []
            cases app t args h' with
            | ok v h'' => exact (hfin v h'').trans (by simp only []; cases Nat.ble h.nxt h''.nxt <;> rfl)
            | bad l => rfl
def drOk (e : T AV) (h : Heap) (bs : List (Heap × Nat)) (k : T AV → Heap → List (Heap × Nat) → SR) : SR := k e h bs
def drBad (l : List String) (_ : T AV → Heap → List (Heap × Nat) → SR) : SR := .bad l
def drQ (r : DR) (k : T AV → Heap → List (Heap × Nat) → SR) : SR := DR.rec (motive := fun _ => (T AV → Heap → List (Heap × Nat) → SR) → SR) drOk drBad r k
def drEnd (e : T AV) (h : Heap) (_ : List (Heap × Nat)) : SR := .ok e h
def runPsQ (c : Ctx) (app : App) (sz : Nat) (ops : List Oper) (l : List PStep) : T AV → Heap → List (Heap × Nat) → SR :=
  List.rec (motive := fun _ => T AV → Heap → List (Heap × Nat) → SR) drEnd (fun s _ ih e h bs => drQ (runPQ c app sz ops s e h bs) ih) l
theorem runPsQ_eq (c : Ctx) (app : App) (sz : Nat) (ops : List Oper) : ∀ (l : List PStep) (e : T AV) (h : Heap) (bs : List (Heap × Nat)), runPsQ c app sz ops l e h bs = runPs c app sz ops l e h bs
  | [], e, h, bs => rfl
  | s :: l, e, h, bs => by
    show drQ (runPQ c app sz ops s e h bs) (runPsQ c app sz ops l) = _
    rw [runPQ_eq, show runPs c app sz ops (s :: l) e h bs = (match runP c app sz ops s e h bs with | .ok e' h' bs' => runPs c app sz ops l e' h' bs' | .bad l => .bad l) from rfl]
    cases runP c app sz ops s e h bs with
    | ok e' h' bs' => exact runPsQ_eq c app sz ops l e' h' bs'
    | bad l => rfl
def drawQ : DrawOk := fun c app sz ops e h =>
  match plan c ops with
  | none => (match coinA c sz ops e h with
    | some (e', h') => .ok e' h'
    | none => .bad ["plan"])
  | some l => runPsQ c app sz ops l e h [(h, ops.length)]
theorem drawQ_eq : drawQ = drawA := by
  funext c app sz ops e h
  unfold drawQ drawA
  cases plan c ops with
  | none => rfl
  | some l => exact runPsQ_eq c app sz ops l e h _

/-! ### code -/
structure Env where
  c : Ctx
  draw : DrawOk
  app : App
  lim : Nat
  fn : FuncId
  sz : Nat
  rd : Option Nat
abbrev XF := Env → St → Res
def xSkip (_ : Env) (s : St) : Res := .ok .normal s
def rgOk (e : T AV) (h : Heap) (s : St) : Res := .ok .normal ⟨e, h, s.m⟩
def rgBad (l : List String) (_ : St) : Res := .bad l
def rgQ (r : SR) (s : St) : Res := SR.rec (motive := fun _ => St → Res) rgOk rgBad r s
def xText (ops : Array Oper) (v : Env) (s : St) : Res := rgQ (runOpsQ v.c v.app v.sz ops.toList ops.toList s.e s.h) s
def xDraw (ops : Array Oper) (v : Env) (s : St) : Res := rgQ (v.draw v.c v.app v.sz ops.toList s.e s.h) s
def xRegion (_ : Nat) (ops : Array Oper) (d : Bool) : XF := Bool.rec (motive := fun _ => Array Oper → XF) xText xDraw d ops
def sqN (s : St) (rb : XF) (v : Env) : Res := rb v s
def sqE (i : Nat) (s : St) (_ : XF) (_ : Env) : Res := .ok (.exit i) s
def sqR (s : St) (_ : XF) (_ : Env) : Res := .ok .ret s
def sqOk (x : Ex) : St → XF → Env → Res := Ex.rec (motive := fun _ => St → XF → Env → Res) sqN sqE sqR x
def sqBad (l : List String) (_ : XF) (_ : Env) : Res := .bad l
def xSeq (_ _ : Code) (ra rb : XF) (v : Env) (s : St) : Res := Res.rec (motive := fun _ => XF → Env → Res) sqOk sqBad (ra v s) rb v
abbrev CnF := Code → Code → XF → XF → XF
def cnT (_ _ : Code) (ra _ : XF) : XF := ra
def cnF (_ _ : Code) (_ rb : XF) : XF := rb
def cnB (b : Bool) : CnF := Bool.rec (motive := fun _ => CnF) cnF cnT b
def cnNo (_ _ : Code) (_ _ : XF) (_ : Env) (_ : St) : Res := .bad ["cond"]
def cnAny (ca cb : Code) (ra rb : XF) (v : Env) (s : St) : Res := two s (calm ca) (calm cb) (ra v s.unlog) (rb v s.unlog)
def cnQ (x : AV) (ca cb : Code) (ra rb : XF) (v : Env) (s : St) : Res := AV.rec (motive_1 := fun _ => CnF) (motive_2 := fun _ => PUnit) cnNo cnB (fun _ _ => cnNo) (fun _ => cnNo) cnNo (fun _ _ => cnNo) cnNo (fun _ _ _ _ _ => cnNo) (fun _ => cnNo) cnNo (fun _ => cnNo) cnNo (fun _ _ _ _ _ => cnNo) cnNo (fun _ _ _ => cnNo) (fun _ _ => cnNo) (fun _ _ => cnNo) (fun _ _ => cnNo) cnAny (fun _ => cnNo) (fun _ => cnNo) cnNo PUnit.unit (fun _ _ _ _ => PUnit.unit) x ca cb ra rb v s
def xCond (x : Operand) (ca cb : Code) (ra rb : XF) (v : Env) (s : St) : Res := cnQ (evQ s.e x) ca cb ra rb v s
def bkN (s : St) (_ : Nat) : Res := .ok .normal s
def bkE (i : Nat) (s : St) (id : Nat) : Res := Bool.rec (motive := fun _ => Res) (.ok (.exit i) s) (.ok .normal s) (Nat.beq i id)
def bkR (s : St) (_ : Nat) : Res := .ok .ret s
def bkOk (x : Ex) : St → Nat → Res := Ex.rec (motive := fun _ => St → Nat → Res) bkN bkE bkR x
def bkBad (l : List String) (_ : Nat) : Res := .bad l
def xBlock (id : Nat) (_ : Code) (ra : XF) (v : Env) (s : St) : Res := Res.rec (motive := fun _ => Nat → Res) bkOk bkBad (ra v s) id
def lpN (s : St) (k : St → Res) : Res := k s
def lpE (i : Nat) (s : St) (_ : St → Res) : Res := .ok (.exit i) s
def lpR (s : St) (_ : St → Res) : Res := .ok .ret s
def lpOk (x : Ex) : St → (St → Res) → Res := Ex.rec (motive := fun _ => St → (St → Res) → Res) lpN lpE lpR x
def lpBad (l : List String) (_ : St → Res) : Res := .bad l
def lpQ (r : Res) (k : St → Res) : Res := Res.rec (motive := fun _ => (St → Res) → Res) lpOk lpBad r k
def lp0 (_ : St) : Res := .bad []
def loopQ (lim : Nat) (body : St → Res) : St → Res := Nat.rec (motive := fun _ => St → Res) lp0 (fun _ ih s => lpQ (body s) ih) lim
def xLoop (_ : Code) (ra : XF) (v : Env) (s : St) : Res := loopQ v.lim (ra v) s
def xRange (f : Operand) (ps : Array Tmp) (assign body : Code) (_ _ : XF) (v : Env) (s : St) : Res :=
  match enterLoop s.h v.fn s.e v.sz ps.toList assign body v.rd with
  | none => .bad ["range"]
  | some (l, m, h) => (match callV v.c v.app (evQ s.e f) [.fn (.yield l) [] []] h with
    | .bad l => .bad l
    | .ok _ h' => (match h'.get l with
      | .loop r => (match r.state with
        | .busy => .bad ["busy"]
        | _ => (match r.pending with
          | none => .ok .normal ⟨s.e, h'.put l (.loop { r with state := .exhausted }), m ++ s.m⟩
          | some x => .ok x ⟨s.e, h'.put l (.loop { r with state := .exhausted }), m ++ s.m⟩))
      | _ => .bad ["loop"]))
def xExit (id : Nat) (_ : Env) (s : St) : Res := .ok (.exit id) s
def xScope (_ : Code) (ra : XF) : XF := ra
def xLabel (_ : Nat) (_ : Env) (s : St) : Res := .ok .normal s
def xGoto (_ : Nat) (_ : Env) (_ : St) : Res := .bad ["goto"]
def xRet (_ : Env) (s : St) : Res := .ok .ret s
def xRefuse (_ : String) (_ : Env) (_ : St) : Res := .bad ["refuse"]
def execQ (code : Code) : XF := Code.rec (motive := fun _ => XF) xSkip xRegion xSeq xCond xBlock xLoop xRange xExit xScope xLabel xGoto xRet xRefuse code
theorem loopQ_eq (body : St → Res) : ∀ (lim : Nat) (s : St), loopQ lim body s = exLoop lim body s
  | 0, s => rfl
  | n + 1, s => by
    show lpQ (body s) (loopQ n body) = _
    rw [show exLoop (n + 1) body s = (match body s with | .ok x s' => (match x with | .normal => exLoop n body s' | x => .ok x s') | .bad l => .bad l) from rfl]
    cases body s with
    | bad l => rfl
    | ok x s' => cases x with
      | normal => exact loopQ_eq body n s'
      | exit i => rfl
      | ret => rfl
theorem execQ_eq (v : Env) : ∀ (code : Code) (s : St), execQ code v s = exec v.c v.draw v.app v.lim v.fn v.sz v.rd code s := by
  intro code
  induction code with
  | skip => intro s; rfl
  | region id ops d =>
    intro s
    cases d with
    | false =>
      show rgQ (runOpsQ v.c v.app v.sz ops.toList ops.toList s.e s.h) s = (match runOps v.c v.app v.sz ops.toList ops.toList s.e s.h with | .ok e h => .ok .normal ⟨e, h, s.m⟩ | .bad l => .bad l)
      rw [runOpsQ_eq]
      cases runOps v.c v.app v.sz ops.toList ops.toList s.e s.h <;> rfl
    | true =>
      show rgQ (v.draw v.c v.app v.sz ops.toList s.e s.h) s = (match v.draw v.c v.app v.sz ops.toList s.e s.h with | .ok e h => .ok .normal ⟨e, h, s.m⟩ | .bad l => .bad l)
      cases v.draw v.c v.app v.sz ops.toList s.e s.h <;> rfl
  | seq a b iha ihb =>
    intro s
    show Res.rec (motive := fun _ => XF → Env → Res) sqOk sqBad (execQ a v s) (execQ b) v = (match exec v.c v.draw v.app v.lim v.fn v.sz v.rd a s with
      | .ok x s' => (match x with | .normal => exec v.c v.draw v.app v.lim v.fn v.sz v.rd b s' | x => .ok x s')
      | .bad l => .bad l)
    rw [iha]
    cases exec v.c v.draw v.app v.lim v.fn v.sz v.rd a s with
    | bad l => rfl
    | ok x s' => cases x with
      | normal => exact ihb s'
      | exit i => rfl
      | ret => rfl
  | cond x a b iha ihb =>
    intro s
    show cnQ (evQ s.e x) a b (execQ a) (execQ b) v s = (match ev s.e x with
      | .bool b' => (match b' with | true => exec v.c v.draw v.app v.lim v.fn v.sz v.rd a s | false => exec v.c v.draw v.app v.lim v.fn v.sz v.rd b s)
      | .anyb => two s (calm a) (calm b) (exec v.c v.draw v.app v.lim v.fn v.sz v.rd a s.unlog) (exec v.c v.draw v.app v.lim v.fn v.sz v.rd b s.unlog)
      | _ => .bad ["cond"])
    rw [evQ_eq]
    cases hx : ev s.e x with
    | bool b' =>
      cases b' with
      | true => exact iha s
      | false => exact ihb s
    | anyb =>
      show two s (calm a) (calm b) (execQ a v s.unlog) (execQ b v s.unlog) = _
      rw [iha, ihb]
    | _ => rfl
  | block id a iha =>
    intro s
    show Res.rec (motive := fun _ => Nat → Res) bkOk bkBad (execQ a v s) id = (match exec v.c v.draw v.app v.lim v.fn v.sz v.rd a s with
      | .ok x s' => (match x with
        | .exit i => (match Nat.beq i id with | true => .ok .normal s' | false => .ok (.exit i) s')
        | x => .ok x s')
      | .bad l => .bad l)
    rw [iha]
    cases exec v.c v.draw v.app v.lim v.fn v.sz v.rd a s with
    | bad l => rfl
    | ok x s' => cases x with
      | normal => rfl
      | exit i => show (Bool.rec (motive := fun _ => Res) (.ok (.exit i) s') (.ok .normal s') (Nat.beq i id) : Res) = _; simp only []; cases Nat.beq i id <;> rfl
      | ret => rfl
  | loop a iha =>
    intro s
    show loopQ v.lim (execQ a v) s = exLoop v.lim (exec v.c v.draw v.app v.lim v.fn v.sz v.rd a) s
    rw [loopQ_eq]
    have : execQ a v = exec v.c v.draw v.app v.lim v.fn v.sz v.rd a := funext iha
    rw [this]
  | rangeFunc f ps assign body _ _ =>
    intro s
    show xRange f ps assign body (execQ assign) (execQ body) v s = _
    unfold xRange
    rw [evQ_eq]
    rfl
  | exit id => intro s; rfl
  | scope a iha => intro s; exact iha s
  | label l => intro s; rfl
  | goto l => intro s; rfl
  | ret => intro s; rfl
  | refuse why => intro s; rfl

/-! ### calls -/
structure CEnv where
  c : Ctx
  draw : DrawOk
  app : App
  lim : Nat
  ext : Ext
abbrev KF := CEnv → FuncId → List AV → Heap → Ans
def kFin (s : St) (fn : Func) (c : Ctx) : Ans :=
  match leave s.h s.m with
  | none => .bad [fn.name]
  | some h' => (match resA c h' s.e fn.results.toList with
    | some vs => .ok (one vs) h'
    | none => .bad [fn.name])
def kExit (_ : Nat) (_ : St) (fn : Func) (_ : Ctx) : Ans := .bad [fn.name]
def kOk (x : Ex) : St → Func → Ctx → Ans := Ex.rec (motive := fun _ => St → Func → Ctx → Ans) kFin kExit kFin x
def kBad (l : List String) (fn : Func) (_ : Ctx) : Ans := .bad (fn.name :: l)
def kEnd (r : Res) (fn : Func) (c : Ctx) : Ans := Res.rec (motive := fun _ => Func → Ctx → Ans) kOk kBad r fn c
def kRun (body : Code) (fn : Func) (v : CEnv) (f : FuncId) (args : List AV) (h : Heap) : Ans := kEnd (execQ body ⟨v.c, v.draw, v.app, v.lim, f, fn.ntmps, none⟩ ⟨T.put und args (env0 und fn.ntmps) 0, h, []⟩) fn v.c
def kBody (body : Code) (fn : Func) (v : CEnv) (f : FuncId) (args : List AV) (h : Heap) : Ans := Bool.rec (motive := fun _ => Ans) (.bad [fn.name]) (kRun body fn v f args h) (Nat.ble args.length fn.ntmps)
def kxOk (v : AV) (h : Heap) (_ : Func) : Ans := .ok v h
def kxBad (l : List String) (fn : Func) : Ans := .bad (fn.name :: l)
def kExt (fn : Func) (v : CEnv) (f : FuncId) (args : List AV) (h : Heap) : Ans := Ans.rec (motive := fun _ => Func → Ans) kxOk kxBad (v.ext v.app f fn args h) fn
def kFn (fn : Func) : KF := Option.rec (motive := fun _ => Func → KF) kExt kBody fn.body fn
def kNone (_ : CEnv) (_ : FuncId) (_ : List AV) (_ : Heap) : Ans := .bad ["no function"]
def callQ (v : CEnv) (f : FuncId) (args : List AV) (h : Heap) : Ans := Option.rec (motive := fun _ => KF) kNone kFn (v.c.fns.get none f) v f args h
theorem callQ_eq (v : CEnv) (f : FuncId) (args : List AV) (h : Heap) : callQ v f args h = callA v.c v.draw v.app v.lim v.ext f args h := by
  unfold callQ callA
  cases v.c.fns.get none f with
  | none => rfl
  | some fn =>
    show Option.rec (motive := fun _ => Func → KF) kExt kBody fn.body fn v f args h = _
    simp only []
    cases fn.body with
    | none =>
      show Ans.rec (motive := fun _ => Func → Ans) kxOk kxBad (v.ext v.app f fn args h) fn = _
      simp only []
      cases v.ext v.app f fn args h <;> rfl
    | some body =>
      show (Bool.rec (motive := fun _ => Ans) (.bad [fn.name]) (kRun body fn v f args h) (Nat.ble args.length fn.ntmps) : Ans) = _
      simp only []
      cases Nat.ble args.length fn.ntmps with
      | false => rfl
      | true =>
        show kEnd (execQ body ⟨v.c, v.draw, v.app, v.lim, f, fn.ntmps, none⟩ ⟨T.put und args (env0 und fn.ntmps) 0, h, []⟩) fn v.c = _
        rw [execQ_eq]
        simp only []
        cases exec v.c v.draw v.app v.lim f fn.ntmps none body ⟨T.put und args (env0 und fn.ntmps) 0, h, []⟩ with
        | bad l => rfl
        | ok x s =>
          have hf : kFin s fn v.c = (match leave s.h s.m with
              | none => .bad [fn.name]
              | some h' => (match resA v.c h' s.e fn.results.toList with
                | some vs => .ok (one vs) h'
                | none => .bad [fn.name])) := rfl
          cases x with
          | normal => exact hf.trans (by simp only []; cases leave s.h s.m with | none => rfl | some h' => simp only []; cases resA v.c h' s.e fn.results.toList <;> rfl)
          | exit i => rfl
          | ret => exact hf.trans (by simp only []; cases leave s.h s.m with | none => rfl | some h' => simp only []; cases resA v.c h' s.e fn.results.toList <;> rfl)

def yieldQ (v : CEnv) (l : Nat) (args : List AV) (h : Heap) : Ans :=
  match h.get l with
  | .loop r => (match setPs r.e r.params args r.sz with
    | none => .bad ["yield"]
    | some e => (match execQ r.assign ⟨v.c, v.draw, v.app, v.lim, r.fn, r.sz, some l⟩ ⟨e, h, []⟩ with
      | .bad l => .bad l
      | .ok x s => (match x with
        | .normal => (match s.h.get l with
          | .loop r1 => (match r1.state with
            | .ready => (match execQ r.body ⟨v.c, v.draw, v.app, v.lim, r.fn, r.sz, some l⟩ ⟨s.e, s.h.put l (.loop { r1 with state := .busy }), s.m⟩ with
              | .ok x s2 => (match s2.h.get l with
                | .loop r2 => (match x with
                  | .normal => .ok (.bool true) (s2.h.put l (.loop { r2 with state := .ready, pending := none }))
                  | x => .ok (.bool false) (s2.h.put l (.loop { r2 with state := .done, pending := some x })))
                | _ => .bad ["round"])
              | .bad l => .bad l)
            | _ => .bad ["round"])
          | _ => .bad ["round"])
        | _ => .bad ["assign"])))
  | _ => .bad ["yield"]
theorem yieldQ_eq (v : CEnv) (l : Nat) (args : List AV) (h : Heap) : yieldQ v l args h = yieldA v.c v.draw v.app v.lim l args h := by
  unfold yieldQ yieldA
  simp only [execQ_eq]
  cases h.get l <;> rfl
def knS (r : AV) (_ : CEnv) (_ : FuncId) (_ : List AV) (h : Heap) : Ans := .ok r h
def agF (f : FuncId) (v : CEnv) (args : List AV) (h : Heap) : Ans := Option.rec (motive := fun _ => CEnv → FuncId → List AV → Heap → Ans) callQ knS (known v.c f args) v f args h
def agY (l : Nat) (v : CEnv) (args : List AV) (h : Heap) : Ans := yieldQ v l args h
def appQ (c : Ctx) (draw : DrawOk) (lim : Nat) (ext : Ext) (n : Nat) : App :=
  Nat.rec (motive := fun _ => App) (fun _ _ _ => .bad ["depth"])
    (fun _ ih t args h => Tgt.rec (motive := fun _ => CEnv → List AV → Heap → Ans) agF agY t ⟨c, draw, ih, lim, ext⟩ args h) n
theorem appQ_eq (c : Ctx) (draw : DrawOk) (lim : Nat) (ext : Ext) : ∀ n, appQ c draw lim ext n = app c draw lim ext n
  | 0 => rfl
  | n + 1 => by
    funext t args h
    cases t with
    | f f =>
      show Option.rec (motive := fun _ => CEnv → FuncId → List AV → Heap → Ans) callQ knS (known c f args) ⟨c, draw, appQ c draw lim ext n, lim, ext⟩ f args h = (match known c f args with | some v => .ok v h | none => callA c draw (app c draw lim ext n) lim ext f args h)
      cases known c f args with
      | some v => rfl
      | none =>
        show callQ ⟨c, draw, appQ c draw lim ext n, lim, ext⟩ f args h = callA c draw (app c draw lim ext n) lim ext f args h
        rw [callQ_eq, appQ_eq c draw lim ext n]
    | y l =>
      show yieldQ ⟨c, draw, appQ c draw lim ext n, lim, ext⟩ l args h = yieldA c draw (app c draw lim ext n) lim l args h
      rw [yieldQ_eq, appQ_eq c draw lim ext n]

end Go.Ax
