/- Parts of the proof in YthlbnmohaeeccaaVFin: PxTc, PxTd, PxTe, PxTf, PxTg, PxTh, PxTi, PxTj, PxTk, PxTl, PxTm, PxTn, PxTo, PxTp, PxTq, PxTr, PxTs, PxTt, PxTu, PxTv, PxTw, PxTz, PxVa, PxVb. -/
import Derived.Test.YthlbnmohaeeccaaVK2
import Derived.Lib.Bytealg
import Derived.Laws.Externs
import Derived.Deep.Slices
import Derived.ReadAgain
set_option linter.unusedVariables false
set_option linter.unusedSimpArgs false
section
namespace Go.Px
/-! ## types, as a table -/
inductive TK where
 | str | slice (e : Nat) | struct (fl : List (Nat × Nat)) | int (k : IntKind) | bool | arr (n e : Nat) | ptr (e : Nat) | map (k v : Nat) | func | ifc | oth
def tkOf (d : TypeDesc) : TK :=
 match d with
 | .string => .str
 | .slice e => .slice e
 | .struct fs => .struct (fs.toList.map fun f => (f.offset, f.type))
 | .int k => .int k
 | .bool => .bool
 | .array n e => .arr n e
 | .pointer e => .ptr e
 | .map k v => .map k v
 | .func _ _ _ => .func
 | .interface _ => .ifc
 | _ => .oth
def TK.isAgg (k : TK) : Bool := match k with | .struct _ => true | .arr _ _ => true | _ => false
structure TE where
 k : TK
 s : Nat
 b : Nat
 z : AV
def lkT (tb : List (Nat × TE)) (t : Nat) : Option TE := match tb with | [] => none | p :: r => (match Nat.beq t p.1 with | true => some p.2 | false => lkT r t)
structure TOk (c : Ctx) (t : Nat) (e : TE) : Prop where
 k : (c.under t).map tkOf = some e.k
 s : (c.info t).map (fun i => (i.size, i.bytes)) = some (e.s, e.b)
 z : c.zero t = some e.z
def TbP (c : Ctx) : List (Nat × TE) → Prop
 | [] => True
 | p :: r => TOk c p.1 p.2 ∧ TbP c r
theorem TbP.at_ {c : Ctx} : ∀ {tb : List (Nat × TE)}, TbP c tb → ∀ t e, lkT tb t = some e → TOk c t e
 | [], _, t, e, h => by cases h
 | p :: r, ⟨a, b⟩, t, e, h => by
  unfold lkT at h
  split at h
  ·rename_i ht; cases h; rw [beqT ht]; exact a
  ·exact TbP.at_ b t e h
structure Env (c : Ctx) (tb : List (Nat × TE)) : Prop where
 k : CtxOk c
 t : ∀ t e, lkT tb t = some e → TOk c t e
 g : ∀ i r, c.g0.get i ≠ .gl r
theorem TOk.kd {c : Ctx} {t : Nat} {e : TE} (h : TOk c t e) : ∃ d, c.under t = some d ∧ tkOf d = e.k := by
 have h1 := h.k
 cases hd : c.under t with
 | none => rw [hd] at h1; cases h1
 | some d => rw [hd] at h1; simp at h1; exact ⟨d, rfl, h1⟩
theorem TOk.si {c : Ctx} {t : Nat} {e : TE} (h : TOk c t e) : ∃ i, c.info t = some i ∧ i.size = e.s ∧ i.bytes = e.b := by
 have h1 := h.s
 cases hd : c.info t with
 | none => rw [hd] at h1; cases h1
 | some i => rw [hd] at h1; simp at h1; exact ⟨i, rfl, h1.1, h1.2⟩
theorem TOk.agg {c : Ctx} {t : Nat} {e : TE} (h : TOk c t e) : c.isAgg t = some e.k.isAgg := by
 obtain ⟨d, h1, h2⟩ := h.kd
 unfold Ctx.isAgg
 rw [h1, ← h2]
 cases d <;> rfl
theorem TOk.size {c : Ctx} {t : Nat} {e : TE} (h : TOk c t e) : c.size t = some e.s := by
 obtain ⟨i, h1, h2, _⟩ := h.si
 unfold Ctx.size
 rw [h1, ← h2]
theorem TOk.sl {c : Ctx} {t el : Nat} {e : TE} (h : TOk c t e) (k : e.k = .slice el) : c.under t = some (.slice el) := by
 obtain ⟨d, h1, h2⟩ := h.kd
 rw [k] at h2
 cases d <;> simp only [tkOf] at h2 <;> first | (cases h2; done) | (cases h2; exact h1)
theorem TOk.st {c : Ctx} {t : Nat} {e : TE} (h : TOk c t e) (k : e.k = .str) : c.under t = some .string := by
 obtain ⟨d, h1, h2⟩ := h.kd
 rw [k] at h2
 cases d <;> simp only [tkOf] at h2 <;> first | (cases h2; done) | exact h1
theorem TOk.struct {c : Ctx} {t : Nat} {fl : List (Nat × Nat)} {e : TE} (h : TOk c t e) (k : e.k = .struct fl) : ∃ fs, c.under t = some (.struct fs) ∧ fs.toList.map (fun f => (f.offset, f.type)) = fl := by
 obtain ⟨d, h1, h2⟩ := h.kd
 rw [k] at h2
 cases d <;> simp only [tkOf] at h2 <;> first | (cases h2; done) | (cases h2; exact ⟨_, h1, rfl⟩)
/-! ## a region's rest, from known slots -/
structure Ops (X : Cx) (sz : Nat) (rd : Option Nat) (all : Array Oper) (rest : List Oper) (k : List It) (L : List (Nat × AV)) (h : Heap) (m : List Nat) (Q : Post) : Prop where
 run : ∀ e, Has e L → TriOps X sz rd all rest ⟨e, h, m⟩ (fun s' => RunK X sz rd k Q .normal s')
def Want (all : Array Oper) (L : List (Nat × AV)) (o : Oper) (b : Bool) : Prop := ∀ e, Has e L → wantA all.toList e o = some b
theorem Want.no {all : Array Oper} {L : List (Nat × AV)} {o : Oper} (h : o.guard = none) : Want all L o true := fun e _ => by unfold wantA; rw [h]
theorem Want.t {all : Array Oper} {L : List (Nat × AV)} {o p : Oper} {j d : Nat} {w : Bool} (h : o.guard = some (j, w)) (hp : nth1 all.toList j = some p) (hd : p.dst = some d) (hl : lkO L d = some (.bool true)) : Want all L o w := fun e he => by
 rw [nth1_eq] at hp
 have h1 : e.get und d = .bool true := he d _ hl
 unfold wantA
 rw [h]
 simp only [nth_eq, hp, hd]
 rw [h1]
theorem Want.f {all : Array Oper} {L : List (Nat × AV)} {o p : Oper} {j d : Nat} {w : Bool} (h : o.guard = some (j, w)) (hp : nth1 all.toList j = some p) (hd : p.dst = some d) (hl : lkO L d = some (.bool false)) : Want all L o (!w) := fun e he => by
 rw [nth1_eq] at hp
 have h1 : e.get und d = .bool false := he d _ hl
 unfold wantA
 rw [h]
 simp only [nth_eq, hp, hd]
 rw [h1]
theorem Want.tT {all : Array Oper} {L : List (Nat × AV)} {o p : Oper} {j d : Nat} (h : o.guard = some (j, true)) (hp : nth1 all.toList j = some p) (hd : p.dst = some d) (hl : lkO L d = some (.bool true)) : Want all L o true := Want.t h hp hd hl
theorem Want.tF {all : Array Oper} {L : List (Nat × AV)} {o p : Oper} {j d : Nat} (h : o.guard = some (j, false)) (hp : nth1 all.toList j = some p) (hd : p.dst = some d) (hl : lkO L d = some (.bool true)) : Want all L o false := Want.t h hp hd hl
theorem Want.fT {all : Array Oper} {L : List (Nat × AV)} {o p : Oper} {j d : Nat} (h : o.guard = some (j, true)) (hp : nth1 all.toList j = some p) (hd : p.dst = some d) (hl : lkO L d = some (.bool false)) : Want all L o false := Want.f h hp hd hl
theorem Want.fF {all : Array Oper} {L : List (Nat × AV)} {o p : Oper} {j d : Nat} (h : o.guard = some (j, false)) (hp : nth1 all.toList j = some p) (hd : p.dst = some d) (hl : lkO L d = some (.bool false)) : Want all L o true := Want.f h hp hd hl
theorem Want.und {all : Array Oper} {L : List (Nat × AV)} {o p : Oper} {j d : Nat} {w : Bool} (h : o.guard = some (j, w)) (hp : nth1 all.toList j = some p) (hd : p.dst = some d) (hl : lkO L d = some Px.und) : Want all L o false := fun e he => by
 rw [nth1_eq] at hp
 have h1 : e.get Px.und d = .tup [] := he d _ hl
 unfold wantA
 rw [h]
 simp only [nth_eq, hp, hd]
 rw [h1]
def Hop (X : Cx) (L : List (Nat × AV)) (h : Heap) (o : Oper) (v : AV) (h' : Heap) : Prop := ∀ e, Has e L → opA X.c e h o.op = some (.v v h')
section
variable {X : Cx} {tb : List (Nat × TE)} {sz : Nat} {rd : Option Nat} {all : Array Oper} {o : Oper} {rest : List Oper} {k : List It} {L : List (Nat × AV)} {h : Heap} {m : List Nat} {Q : Post}
theorem Go.region {id : Nat} {l : List Oper} (hl : all.toList = l) (n : Ops X sz rd all l k L h m Q) : Go X sz rd (.code (.region id all false) :: k) L h m Q := ⟨fun e he => by
 subst hl; exact Tri.region (n.run e he)⟩
theorem Ops.nil (n : Go X sz rd k L h m Q) : Ops X sz rd all [] k L h m Q := ⟨fun e he => TriOps.nil (n.run e he)⟩
theorem Ops.sub {M : List (Nat × AV)} (hs : SubL L M) (n : Ops X sz rd all rest k M h m Q) : Ops X sz rd all rest k L h m Q := ⟨fun e he => n.run e (he.sub hs)⟩
theorem setD_some {e : T AV} {d : Nat} {v : AV} (hs : Nat.ble (d + 1) sz = true) : setD e (some d) v sz h = .ok (e.set und d v) h := by unfold setD; simp only [hs]
theorem Ops.mem (E : Env X.c tb) {d : Nat} {v : AV} {h' : Heap} (hd : o.dst = some d) (hs : Nat.ble (d + 1) sz = true) (hw : Want all L o true) (hop : Hop X L h o v h') (ha : ArrKeep h h') (n : Ops X sz rd all rest k ((d, v) :: L) h' m Q) : Ops X sz rd all (o :: rest) k L h m Q := ⟨fun e he =>
 TriOps.cons (hw e he) (OpT.opA E.k (hop e he) ha ⟨e.set und d v, by rw [hd]; exact setD_some hs, n.run _ (he.set d v)⟩)⟩
theorem Ops.val (E : Env X.c tb) {d : Nat} {v : AV} (hd : o.dst = some d) (hs : Nat.ble (d + 1) sz = true) (hw : Want all L o true) (hop : Hop X L h o v h) (n : Ops X sz rd all rest k ((d, v) :: L) h m Q) : Ops X sz rd all (o :: rest) k L h m Q :=
 Ops.mem E hd hs hw hop (ArrKeep.refl h) n
theorem Ops.unit (E : Env X.c tb) {v : AV} {h' : Heap} (hd : o.dst = none) (hw : Want all L o true) (hop : Hop X L h o v h') (ha : ArrKeep h h') (n : Ops X sz rd all rest k L h' m Q) : Ops X sz rd all (o :: rest) k L h m Q := ⟨fun e he =>
 TriOps.cons (hw e he) (OpT.opA E.k (hop e he) ha ⟨e, by rw [hd]; rfl, n.run e he⟩)⟩
theorem Ops.skip {d : Nat} (hd : o.dst = some d) (hs : Nat.ble (d + 1) sz = true) (hw : Want all L o false) (n : Ops X sz rd all rest k ((d, und) :: L) h m Q) : Ops X sz rd all (o :: rest) k L h m Q := ⟨fun e he =>
 TriOps.skip (hw e he) (e' := e.set und d und) (by rw [hd]; exact setD_some hs) (n.run _ (he.set d und))⟩
theorem Ops.case {d : Nat} {b : Bool} (hb : lkO L d = some (.bool b)) (n1 : b = true → Ops X sz rd all rest k ((d, .bool true) :: L) h m Q) (n2 : b = false → Ops X sz rd all rest k ((d, .bool false) :: L) h m Q) : Ops X sz rd all rest k L h m Q := ⟨fun e he => by
 have key : ∀ {v : AV}, v = .bool b → Has e ((d, v) :: L) := fun {v} hv t u q => by
  unfold lkO at q
  split at q
  ·rename_i ht; cases q; have ht := beqT ht; subst ht; rw [hv]; exact he t _ hb
  ·exact he t u q
 cases b with
 | true => exact (n1 rfl).run e (key rfl)
 | false => exact (n2 rfl).run e (key rfl)⟩
theorem Ops.call (E : Env X.c tb) {d : Nat} {v : AV} {cl : Call} {f : Operand} {g : FuncId} {vs : List AV} (hd : o.dst = some d) (hs : Nat.ble (d + 1) sz = true) (hw : Want all L o true) (ho : o.op = .call cl) (hc : cl.callee = .value f) (hf : evL L f = some (.fn (.func g) [] []))
  (hv : evsL L cl.args.toList = some vs) (hk : KOk X.c g vs v) (hdt : datsB vs = true) (n : Ops X sz rd all rest k ((d, v) :: L) h m Q) : Ops X sz rd all (o :: rest) k L h m Q := ⟨fun e he =>
 TriOps.cons (hw e he) (OpT.call E.k ho hc (he.ev hf) (he.evs hv) hdt hk ⟨e.set und d v, by rw [hd]; exact setD_some hs, n.run _ (he.set d v)⟩)⟩
end
/-! ## numbers -/
theorem ilt_dec (a b : Int) : ilt a b = decide (a < b) := ilt_eq a b
theorem ieq_dec (a b : Int) : ieq a b = decide (a = b) := by
 rw [ieq_eq]
 by_cases h : a = b <;> simp [h]
noncomputable def bd (p : Prop) : Bool := @decide p (Classical.propDecidable p)
theorem bd_dec (p : Prop) [Decidable p] : decide p = bd p := by
 unfold bd
 by_cases h : p <;> simp [h]
theorem bd_iff {p : Prop} : bd p = true ↔ p := by unfold bd; simp
theorem bd_not {p : Prop} : bd p = false ↔ ¬ p := by unfold bd; simp
theorem bd_of {p : Prop} (h : p) : bd p = true := bd_iff.2 h
theorem bd_no {p : Prop} (h : ¬ p) : bd p = false := bd_not.2 h
theorem ikEq_refl (k : IntKind) : ikEq k k = true := by cases k <;> rfl
theorem wr_i64 {n : Int} (h : -9223372036854775808 ≤ n ∧ n < 9223372036854775808) : wr .i64 n = n := by
 cases n with
 | ofNat a =>
  have ha : a < 9223372036854775808 := by have h2 := h.2; rw [Int.ofNat_eq_natCast] at h2; omega
  have h1 : um .i64 (Int.ofNat a) = a := by show a % 18446744073709551616 = a; omega
  have h2 : Nat.ble (pw .i64) (2 * a) = false := by
   cases e : Nat.ble (pw .i64) (2 * a)
   ·rfl
   ·have := bleT e; simp [pw] at this; omega
  show (match Nat.ble (pw .i64) (2 * um .i64 (Int.ofNat a)) with | false => Int.ofNat (um .i64 (Int.ofNat a)) | true => _) = _
  rw [h1, h2]
 | negSucc a =>
  have ha : a < 9223372036854775808 := by omega
  have h1 : um .i64 (Int.negSucc a) = 18446744073709551615 - a := by show 18446744073709551616 - 1 - a % 18446744073709551616 = _; omega
  have h2 : Nat.ble (pw .i64) (2 * (18446744073709551615 - a)) = true := Nat.ble_eq_true_of_le (by simp [pw]; omega)
  show (match Nat.ble (pw .i64) (2 * um .i64 (Int.negSucc a)) with | false => _ | true => Int.negSucc (pw .i64 - 1 - um .i64 (Int.negSucc a))) = _
  rw [h1, h2]
  show Int.negSucc (18446744073709551616 - 1 - (18446744073709551615 - a)) = _
  congr 1; omega
section
variable {X : Cx} {sz : Nat} {rd : Option Nat} {all : Array Oper} {rest : List Oper} {k : List It} {L : List (Nat × AV)} {h : Heap} {m : List Nat} {Q : Post}
theorem Ops.caseP {d : Nat} {p : Prop} (hb : lkO L d = some (.bool (bd p))) (n1 : p → Ops X sz rd all rest k ((d, .bool true) :: L) h m Q) (n2 : ¬ p → Ops X sz rd all rest k ((d, .bool false) :: L) h m Q) : Ops X sz rd all rest k L h m Q :=
 Ops.case hb (fun q => n1 (bd_iff.1 q)) (fun q => n2 (bd_not.1 q))
theorem Ops.caseN {d : Nat} {p : Prop} (hb : lkO L d = some (.bool (!bd p))) (n1 : ¬ p → Ops X sz rd all rest k ((d, .bool true) :: L) h m Q) (n2 : p → Ops X sz rd all rest k ((d, .bool false) :: L) h m Q) : Ops X sz rd all rest k L h m Q :=
 Ops.case hb (fun q => n1 (bd_not.1 (by simpa using q))) (fun q => n2 (bd_iff.1 (by simpa using q)))
theorem Go.condT {x : Operand} {c d : Code} (hb : evL L x = some (.bool true)) (g1 : Go X sz rd (.code c :: k) L h m Q) : Go X sz rd (.code (.cond x c d) :: k) L h m Q :=
 Go.cond hb (fun _ => g1) (fun q => by cases q)
theorem Go.condF {x : Operand} {c d : Code} (hb : evL L x = some (.bool false)) (g2 : Go X sz rd (.code d :: k) L h m Q) : Go X sz rd (.code (.cond x c d) :: k) L h m Q :=
 Go.cond hb (fun q => by cases q) (fun _ => g2)
noncomputable def gslot (all : Array Oper) (rest : List Oper) : Option Nat :=
 match rest with
 | o :: _ => (match o.guard with | some (j, _) => (match nth1 all.toList j with | some p => p.dst | none => none) | none => none)
 | [] => none
theorem Ops.gP {d : Nat} {p : Prop} (hg : gslot all rest = some d) (hb : lkO L d = some (.bool (bd p))) (n1 : p → Ops X sz rd all rest k ((d, .bool true) :: L) h m Q) (n2 : ¬ p → Ops X sz rd all rest k ((d, .bool false) :: L) h m Q) : Ops X sz rd all rest k L h m Q := Ops.caseP hb n1 n2
theorem Ops.gN {d : Nat} {p : Prop} (hg : gslot all rest = some d) (hb : lkO L d = some (.bool (!bd p))) (n1 : ¬ p → Ops X sz rd all rest k ((d, .bool true) :: L) h m Q) (n2 : p → Ops X sz rd all rest k ((d, .bool false) :: L) h m Q) : Ops X sz rd all rest k L h m Q := Ops.caseN hb n1 n2
end
section
variable {X : Cx} {L : List (Nat × AV)} {h : Heap} {o : Oper}
theorem Hop.move {x : Operand} {v : AV} (ho : o.op = .move x) (hx : evL L x = some v) : Hop X L h o v h := fun e he => by rw [ho]; simp only [opA]; rw [he.ev hx]
theorem Hop.assign {x : Operand} {v : AV} (ho : o.op = .assign x) (hx : evL L x = some v) : Hop X L h o v h := fun e he => by rw [ho]; simp only [opA]; rw [he.ev hx]
theorem Hop.pickT {b x y : Operand} {v : AV} (ho : o.op = .pick b x y) (hb : evL L b = some (.bool true)) (hx : evL L x = some v) : Hop X L h o v h := fun e he => by rw [ho]; simp only [opA]; rw [he.ev hb, he.ev hx]
theorem Hop.pickF {b x y : Operand} {v : AV} (ho : o.op = .pick b x y) (hb : evL L b = some (.bool false)) (hx : evL L y = some v) : Hop X L h o v h := fun e he => by rw [ho]; simp only [opA]; rw [he.ev hb, he.ev hx]
theorem Hop.not {t : Nat} {x : Operand} {b : Bool} (ho : o.op = .unOp .not t x) (hx : evL L x = some (.bool b)) : Hop X L h o (.bool (!b)) h := fun e he => by rw [ho]; simp only [opA]; rw [he.ev hx]; rfl
theorem Hop.makeFunc {f : FuncId} {a b : Array Operand} {va vb : List AV} (ho : o.op = .makeFunc (.func f) a b) (ha : evsL L a.toList = some va) (hb : evsL L b.toList = some vb) : Hop X L h o (.fn (.func f) va vb) h := fun e he => by
 rw [ho]; simp only [opA]; rw [he.evs ha, he.evs hb]
theorem Hop.extract {x : Operand} {i : Nat} {l : List AV} {v : AV} (ho : o.op = .extract x i) (hx : evL L x = some (.tup l)) (hv : nth1 l i = some v) : Hop X L h o v h := fun e he => by
 rw [ho]; simp only [opA]; rw [he.ev hx]; simp only [oExtract, nth_eq, val]; rw [nth1_eq] at hv; rw [hv]
theorem opA_bin {x y : Operand} {op : BinOp} {t u : Nat} {kk : IntKind} {a b : Int} {v : AV} (ho : o.op = .binOp op t x y u) (hx : evL L x = some (.int kk a)) (hy : evL L y = some (.int kk b))
  (hne : op ≠ .shl ∧ op ≠ .shr) (hv : intOp op kk a b = some v) : Hop X L h o v h := fun e he => by
 rw [ho]; simp only [opA]; rw [he.ev hx, he.ev hy]
 have : oBinX X.c op t (constB x y) (.int kk a) (.int kk b) = intOp op kk a b := by
  unfold oBinX oBin
  simp only []
  cases op <;> simp only [ikEq_refl] <;> first | exact absurd rfl hne.1 | exact absurd rfl hne.2 | rfl
 rw [this, hv]; rfl
theorem Hop.lss {x y : Operand} {t u : Nat} {kk : IntKind} {a b : Int} (ho : o.op = .binOp .lss t x y u) (hx : evL L x = some (.int kk a)) (hy : evL L y = some (.int kk b)) : Hop X L h o (.bool (bd (a < b))) h :=
 opA_bin ho hx hy ⟨by simp, by simp⟩ (by rw [← bd_dec]; simp only [intOp]; rw [ilt_dec])
theorem Hop.leq {x y : Operand} {t u : Nat} {kk : IntKind} {a b : Int} (ho : o.op = .binOp .leq t x y u) (hx : evL L x = some (.int kk a)) (hy : evL L y = some (.int kk b)) : Hop X L h o (.bool (bd (a ≤ b))) h :=
 opA_bin ho hx hy ⟨by simp, by simp⟩ (by rw [← bd_dec]; simp only [intOp]; rw [ilt_dec]; congr 2; by_cases q : a ≤ b <;> simp [q] <;> omega)
theorem Hop.gtr {x y : Operand} {t u : Nat} {kk : IntKind} {a b : Int} (ho : o.op = .binOp .gtr t x y u) (hx : evL L x = some (.int kk a)) (hy : evL L y = some (.int kk b)) : Hop X L h o (.bool (bd (b < a))) h :=
 opA_bin ho hx hy ⟨by simp, by simp⟩ (by rw [← bd_dec]; simp only [intOp]; rw [ilt_dec])
theorem Hop.geq {x y : Operand} {t u : Nat} {kk : IntKind} {a b : Int} (ho : o.op = .binOp .geq t x y u) (hx : evL L x = some (.int kk a)) (hy : evL L y = some (.int kk b)) : Hop X L h o (.bool (bd (b ≤ a))) h :=
 opA_bin ho hx hy ⟨by simp, by simp⟩ (by rw [← bd_dec]; simp only [intOp]; rw [ilt_dec]; congr 2; by_cases q : b ≤ a <;> simp [q] <;> omega)
theorem Hop.eql {x y : Operand} {t u : Nat} {kk : IntKind} {a b : Int} (ho : o.op = .binOp .eql t x y u) (hx : evL L x = some (.int kk a)) (hy : evL L y = some (.int kk b)) : Hop X L h o (.bool (bd (a = b))) h :=
 opA_bin ho hx hy ⟨by simp, by simp⟩ (by rw [← bd_dec]; simp only [intOp]; rw [ieq_dec])
theorem Hop.neq {x y : Operand} {t u : Nat} {kk : IntKind} {a b : Int} (ho : o.op = .binOp .neq t x y u) (hx : evL L x = some (.int kk a)) (hy : evL L y = some (.int kk b)) : Hop X L h o (.bool (!bd (a = b))) h :=
 opA_bin ho hx hy ⟨by simp, by simp⟩ (by rw [← bd_dec]; simp only [intOp]; rw [ieq_dec])
theorem Hop.add {x y : Operand} {t u : Nat} {a b : Int} (ho : o.op = .binOp .add t x y u) (hx : evL L x = some (.int .i64 a)) (hy : evL L y = some (.int .i64 b)) (hr : -9223372036854775808 ≤ a + b ∧ a + b < 9223372036854775808) : Hop X L h o (.int .i64 (a + b)) h :=
 opA_bin ho hx hy ⟨by simp, by simp⟩ (by simp only [intOp]; rw [wr_i64 hr])
theorem Hop.sub {x y : Operand} {t u : Nat} {a b : Int} (ho : o.op = .binOp .sub t x y u) (hx : evL L x = some (.int .i64 a)) (hy : evL L y = some (.int .i64 b)) (hr : -9223372036854775808 ≤ a - b ∧ a - b < 9223372036854775808) : Hop X L h o (.int .i64 (a - b)) h :=
 opA_bin ho hx hy ⟨by simp, by simp⟩ (by simp only [intOp]; rw [wr_i64 hr])
theorem Hop.mul {x y : Operand} {t u : Nat} {a b : Int} (ho : o.op = .binOp .mul t x y u) (hx : evL L x = some (.int .i64 a)) (hy : evL L y = some (.int .i64 b)) (hr : -9223372036854775808 ≤ a * b ∧ a * b < 9223372036854775808) : Hop X L h o (.int .i64 (a * b)) h :=
 opA_bin ho hx hy ⟨by simp, by simp⟩ (by simp only [intOp]; rw [wr_i64 hr])
theorem Hop.bin {x y : Operand} {op : BinOp} {t u : Nat} {kk : IntKind} {a b : Int} {v : AV} (ho : o.op = .binOp op t x y u) (hx : evL L x = some (.int kk a)) (hy : evL L y = some (.int kk b)) (hne : op ≠ .shl ∧ op ≠ .shr) (hv : intOp op kk a b = some v) : Hop X L h o v h := opA_bin ho hx hy hne hv
end
end Go.Px
end
section
namespace Go.Px
/-! ## lists as slices that nobody writes -/
def dsl {α : Type} (z : Nat) (enc : α → List AV) (l : List α) : AV := .rsl l.length z (l.flatMap enc)
theorem flat_len {α : Type} {z : Nat} {enc : α → List AV} (he : ∀ a, (enc a).length = z) : ∀ l : List α, (l.flatMap enc).length = l.length * z
 | [] => by simp
 | a :: l => by rw [List.flatMap_cons, List.length_append, he, flat_len he l, List.length_cons, Nat.succ_mul]; omega
theorem flat_at {α : Type} {z : Nat} {enc : α → List AV} (he : ∀ a, (enc a).length = z) (d : α) : ∀ (l : List α) (i : Nat), i < l.length → ((l.flatMap enc).drop (i * z)).take z = enc (l.getD i d)
 | [], i, h => by simp at h
 | a :: l, 0, h => by
  rw [List.flatMap_cons, Nat.zero_mul, List.drop_zero, List.take_append_of_le_length (by rw [he]; exact Nat.le_refl _), List.take_of_length_le (by rw [he]; exact Nat.le_refl _)]
  rfl
 | a :: l, i + 1, h => by
  rw [List.flatMap_cons, show (i + 1) * z = (enc a).length + i * z by rw [he, Nat.succ_mul]; omega, List.drop_append, List.drop_eq_nil_of_le (by omega), List.nil_append, Nat.add_sub_cancel_left]
  rw [flat_at he d l i (by simpa using h)]
  rfl
theorem flat_drop {α : Type} {z : Nat} {enc : α → List AV} (he : ∀ a, (enc a).length = z) : ∀ (l : List α) (i : Nat), (l.flatMap enc).drop (i * z) = (l.drop i).flatMap enc
 | [], i => by simp
 | a :: l, 0 => by simp
 | a :: l, i + 1 => by
  rw [List.flatMap_cons, show (i + 1) * z = (enc a).length + i * z by rw [he, Nat.succ_mul]; omega, List.drop_append, List.drop_eq_nil_of_le (by omega), List.nil_append, Nat.add_sub_cancel_left, flat_drop he l i]
  rfl
theorem flat_take {α : Type} {z : Nat} {enc : α → List AV} (he : ∀ a, (enc a).length = z) : ∀ (l : List α) (i : Nat), (l.flatMap enc).take (i * z) = (l.take i).flatMap enc
 | [], i => by simp
 | a :: l, 0 => by simp
 | a :: l, i + 1 => by
  rw [List.flatMap_cons, show (i + 1) * z = (enc a).length + i * z by rw [he, Nat.succ_mul]; omega, List.take_append, List.take_of_length_le (by omega), Nat.add_sub_cancel_left, flat_take he l i, List.take_succ_cons, List.flatMap_cons]
def sA (s : List UInt8) : AV := .str (s.map UInt8.toNat)
theorem inRange_of {a : Int} {n : Nat} (h : 0 ≤ a ∧ a < n) : inRange a n = some a.toNat := by
 cases a with
 | ofNat m =>
  have h2 := h.2
  rw [Int.ofNat_eq_natCast] at h2
  show (match Nat.ble (m + 1) n with | true => some m | false => none) = some m
  rw [Nat.ble_eq_true_of_le (by omega)]
 | negSucc m => have := h.1; omega
theorem upTo_of {a : Int} {n : Nat} (h : 0 ≤ a ∧ a ≤ n) : upTo a n = some a.toNat := by
 cases a with
 | ofNat m =>
  have h2 := h.2
  rw [Int.ofNat_eq_natCast] at h2
  show (match Nat.ble m n with | true => some m | false => none) = some m
  rw [Nat.ble_eq_true_of_le (by omega)]
 | negSucc m => have := h.1; omega
section
variable {X : Cx} {tb : List (Nat × TE)} (E : Env X.c tb) {L : List (Nat × AV)} {h : Heap} {o : Oper}
include E
/-! ## addresses -/
theorem fieldA {t : Nat} {e : TE} {fl : List (Nat × Nat)} {i : Nat} {f : Nat × Nat} {s : TE} (ht : lkT tb t = some e) (hk : e.k = .struct fl) (hf : nth1 fl i = some f) (hs : lkT tb f.2 = some s) (h0 : Nat.beq s.s 0 = false) :
  ∃ fs g, X.c.under t = some (.struct fs) ∧ nth fs.toList i = some g ∧ g.offset = f.1 ∧ g.type = f.2 ∧ X.c.size g.type = some s.s := by
 obtain ⟨fs, h1, h2⟩ := (E.t t e ht).struct hk
 rw [nth1_eq, ← h2, List.getElem?_map] at hf
 cases hg : fs.toList[i]? with
 | none => rw [hg] at hf; cases hf
 | some g =>
  rw [hg] at hf; cases hf
  exact ⟨fs, g, h1, by rw [nth_eq]; exact hg, rfl, rfl, (E.t _ s hs).size⟩
theorem Hop.faP {t : Nat} {x : Operand} {i id off : Nat} {e : TE} {fl : List (Nat × Nat)} {f : Nat × Nat} {s : TE} (ho : o.op = .fieldAddr t x i) (hx : evL L x = some (.ptr id off)) (ht : lkT tb t = some e) (hk : e.k = .struct fl) (hf : nth1 fl i = some f) (hs : lkT tb f.2 = some s) (h0 : Nat.beq s.s 0 = false) :
  Hop X L h o (.ptr id (off + f.1)) h := fun e' he => by
 obtain ⟨fs, g, h1, h2, h3, h4, h5⟩ := fieldA E ht hk hf hs h0
 rw [ho]; simp only [opA]; rw [he.ev hx]
 simp only [oFieldAddr, h1, h2, h5, h0, h3, Px.val]
theorem Hop.faR {t : Nat} {x : Operand} {i : Nat} {l : List AV} {e : TE} {fl : List (Nat × Nat)} {f : Nat × Nat} {s : TE} (ho : o.op = .fieldAddr t x i) (hx : evL L x = some (.rptr l)) (ht : lkT tb t = some e) (hk : e.k = .struct fl) (hf : nth1 fl i = some f) (hs : lkT tb f.2 = some s) (h0 : Nat.beq s.s 0 = false) :
  Hop X L h o (.rptr ((l.drop f.1).take s.s)) h := fun e' he => by
 obtain ⟨fs, g, h1, h2, h3, h4, h5⟩ := fieldA E ht hk hf hs h0
 rw [ho]; simp only [opA]; rw [he.ev hx]
 simp only [oFieldAddr, h1, h2, h5, h0, h3, Px.val]
theorem Hop.idx {α : Type} [Inhabited α] {t el : Nat} {x i : Operand} {z : Nat} {enc : α → List AV} {l : List α} {kk : IntKind} {a : Int} {e s : TE} (ho : o.op = .indexAddr t x i) (hx : evL L x = some (dsl z enc l)) (hi : evL L i = some (.int kk a))
  (ht : lkT tb t = some e) (hk : e.k = .slice el) (hs : lkT tb el = some s) (hz : Nat.beq s.s z = true) (henc : ∀ a, (enc a).length = z) (hr : 0 ≤ a ∧ a < l.length) : Hop X L h o (.rptr (enc (l.getD a.toNat default))) h := fun e' he => by
 have h1 := (E.t t e ht).sl hk
 have h2 := (E.t el s hs).size
 rw [ho]; simp only [opA]; rw [he.ev hx, he.ev hi]
 simp only [oIndexAddr, h1, dsl, inRange_of hr, h2, hz, Px.val]
 rw [flat_at henc default l a.toNat (by omega)]
theorem Hop.idxO {t el : Nat} {x i : Operand} {id n z : Nat} {kk : IntKind} {a : Int} {e s : TE} (ho : o.op = .indexAddr t x i) (hx : evL L x = some (.own id n z)) (hi : evL L i = some (.int kk a))
  (ht : lkT tb t = some e) (hk : e.k = .slice el) (hs : lkT tb el = some s) (hz : Nat.beq s.s z = true) (hr : 0 ≤ a ∧ a < n) : Hop X L h o (.optr id n (a.toNat * z)) h := fun e' he => by
 have h1 := (E.t t e ht).sl hk
 have h2 := (E.t el s hs).size
 rw [ho]; simp only [opA]; rw [he.ev hx, he.ev hi]
 simp only [oIndexAddr, h1, inRange_of hr, h2, hz, Px.val]
theorem Hop.sidx {t : Nat} {x i : Operand} {s : List UInt8} {kk : IntKind} {a : Int} {e : TE} (ho : o.op = .index t x i) (hx : evL L x = some (sA s)) (hi : evL L i = some (.int kk a)) (ht : lkT tb t = some e) (hk : e.k = .str) (hr : 0 ≤ a ∧ a < s.length) :
  Hop X L h o (.int .u8 ((s.getD a.toNat 0).toNat : Int)) h := fun e' he => by
 have h1 := (E.t t e ht).st hk
 rw [ho]; simp only [opA]; rw [he.ev hx, he.ev hi]
 cases a with
 | negSucc m => have := hr.1; omega
 | ofNat m =>
  have h2 := hr.2
  rw [Int.ofNat_eq_natCast] at h2
  have hm : m < s.length := by omega
  have h3 : nth (s.map UInt8.toNat) m = some (s.getD m 0).toNat := by
   rw [nth_eq, List.getElem?_map, List.getD_eq_getElem?_getD, List.getElem?_eq_getElem hm]; rfl
  simp only [oIndex, h1, sA, h3, Px.val]
  congr 3
  have := (s.getD m 0).toNat_lt
  show Int.ofNat ((s.getD m 0).toNat % 256) = _
  rw [Nat.mod_eq_of_lt this]; rfl
/-! ## loads -/
theorem Hop.ldR {t : Nat} {x : Operand} {l : List AV} {v : AV} {e : TE} (ho : o.op = .load t x) (hx : evL L x = some (.rptr l)) (ht : lkT tb t = some e) (ha : e.k.isAgg = false) (hv : nth1 l 0 = some v) : Hop X L h o v h := fun e' he => by
 have h1 := (E.t t e ht).agg
 rw [ho]; simp only [opA]; rw [he.ev hx]
 simp only [oLoad, h1, ha, hv, Px.val]
theorem Hop.ldRG {t : Nat} {x : Operand} {l : List AV} {e : TE} (ho : o.op = .load t x) (hx : evL L x = some (.rptr l)) (ht : lkT tb t = some e) (ha : e.k.isAgg = true) (hl : Nat.beq l.length e.s = true) : Hop X L h o (.agg l) h := fun e' he => by
 have h1 := (E.t t e ht).agg
 have h2 := (E.t t e ht).size
 have h3 := beqT hl
 rw [ho]; simp only [opA]; rw [he.ev hx]
 simp only [oLoad, h1, ha, h2, Px.val, Nat.ble_eq_true_of_le (Nat.le_of_eq h3.symm)]
 rw [← h3, List.take_length]
theorem Hop.ldP {t : Nat} {x : Operand} {id off : Nat} {r : Row} {v : AV} {e : TE} (ho : o.op = .load t x) (hx : evL L x = some (.ptr id off)) (ht : lkT tb t = some e) (ha : e.k.isAgg = false) (hr : h.row id = some r) (hb : Nat.ble (off + 1) r.n = true) (hv : nth1 (r.read off 1) 0 = some v) : Hop X L h o v h := fun e' he => by
 have h1 := (E.t t e ht).agg
 rw [ho]; simp only [opA]; rw [he.ev hx]
 have hv2 : r.get off = v := by
  rw [Row.read_succ] at hv
  cases hv; rfl
 simp only [oLoad, h1, ha, hr, hb, hv2, Px.val]
theorem Hop.ldPG {t : Nat} {x : Operand} {id off : Nat} {r : Row} {l : List AV} {e : TE} (ho : o.op = .load t x) (hx : evL L x = some (.ptr id off)) (ht : lkT tb t = some e) (ha : e.k.isAgg = true) (hr : h.row id = some r) (hb : Nat.ble (off + e.s) r.n = true) (hv : r.read off e.s = l) : Hop X L h o (.agg l) h := fun e' he => by
 have h1 := (E.t t e ht).agg
 have h2 := (E.t t e ht).size
 rw [ho]; simp only [opA]; rw [he.ev hx]
 simp only [oLoad, h1, ha, h2, hr, hb, hv, Px.val]
/-! ## lengths -/
omit E in
theorem len_op {x : Operand} {t : Nat} {v : AV} {cl : Call} {va : AV} (ho : o.op = .call cl) (hc : cl.callee = .builtin .len) (ha : cl.args.toList = [x]) (hts : nth1 cl.argTypes.toList 0 = some t) (hx : evL L x = some va) (hl : oLen X.c h t va = some v) : Hop X L h o v h := fun e' he => by
 rw [ho]; simp only [opA, oCall, hc, ha]
 rw [nth1_eq] at hts
 simp only [List.map_cons, List.map_nil, he.ev hx, oBuiltin, nth_eq, hts, hl]
theorem Hop.lenD {α : Type} {x : Operand} {t el z : Nat} {enc : α → List AV} {l : List α} {cl : Call} {e : TE} (ho : o.op = .call cl) (hc : cl.callee = .builtin .len) (ha : cl.args.toList = [x]) (hts : nth1 cl.argTypes.toList 0 = some t) (hx : evL L x = some (dsl z enc l)) (ht : lkT tb t = some e) (hk : e.k = .slice el) :
  Hop X L h o (.int .i64 (l.length : Int)) h := len_op ho hc ha hts hx (by simp only [oLen, dsl, (E.t t e ht).sl hk]; rfl)
theorem Hop.lenS {x : Operand} {t : Nat} {s : List UInt8} {cl : Call} {e : TE} (ho : o.op = .call cl) (hc : cl.callee = .builtin .len) (ha : cl.args.toList = [x]) (hts : nth1 cl.argTypes.toList 0 = some t) (hx : evL L x = some (sA s)) (ht : lkT tb t = some e) (hk : e.k = .str) :
  Hop X L h o (.int .i64 (s.length : Int)) h := len_op ho hc ha hts hx (by simp only [oLen, sA, (E.t t e ht).st hk, List.length_map]; rfl)
/-! ## the lesser, the greater -/
/-! ## cuts -/
theorem Hop.from_ {α : Type} {t el : Nat} {x lo : Operand} {z : Nat} {enc : α → List AV} {l : List α} {kk : IntKind} {a : Int} {e s : TE} (ho : o.op = .slice t x (some lo) none none) (hx : evL L x = some (dsl z enc l)) (hlo : evL L lo = some (.int kk a))
  (ht : lkT tb t = some e) (hk : e.k = .slice el) (hs : lkT tb el = some s) (hz : Nat.beq s.s z = true) (henc : ∀ a, (enc a).length = z) (hr : 0 ≤ a ∧ a ≤ l.length) : Hop X L h o (dsl z enc (l.drop a.toNat)) h := fun e' he => by
 have h1 := (E.t t e ht).sl hk
 have h2 := (E.t el s hs).size
 rw [ho]; simp only [opA, evo]; rw [he.ev hx, he.ev hlo]
 have : oSlice X.c t (dsl z enc l) (some (.int kk a)) none none = some (dsl z enc (l.drop a.toNat)) := by
  simp only [oSlice, h1, h2, dsl, hz, cutRsl, optInt, upTo_of hr]
  rw [flat_drop henc, List.take_of_length_le (by rw [flat_len henc, List.length_drop]; exact Nat.le_refl _), List.length_drop]
 simp only [oSliceH, this, Px.val]
theorem Hop.upto {α : Type} {t el : Nat} {x hi : Operand} {z : Nat} {enc : α → List AV} {l : List α} {kk : IntKind} {a : Int} {e s : TE} (ho : o.op = .slice t x none (some hi) none) (hx : evL L x = some (dsl z enc l)) (hhi : evL L hi = some (.int kk a))
  (ht : lkT tb t = some e) (hk : e.k = .slice el) (hs : lkT tb el = some s) (hz : Nat.beq s.s z = true) (henc : ∀ a, (enc a).length = z) (hr : 0 ≤ a ∧ a ≤ l.length) : Hop X L h o (dsl z enc (l.take a.toNat)) h := fun e' he => by
 have h1 := (E.t t e ht).sl hk
 have h2 := (E.t el s hs).size
 rw [ho]; simp only [opA, evo]; rw [he.ev hx, he.ev hhi]
 have : oSlice X.c t (dsl z enc l) none (some (.int kk a)) none = some (dsl z enc (l.take a.toNat)) := by
  simp only [oSlice, h1, h2, dsl, hz, cutRsl, optInt, upTo_of hr, Nat.sub_zero, Nat.zero_mul, List.drop_zero]
  rw [flat_take henc, List.length_take, Nat.min_eq_left (by omega)]
 simp only [oSliceH, this, Px.val]
/-! ## new cells, and what is stored -/
theorem Hop.alloc {t : Nat} {e : TE} {n : Nat} {cs : List AV} (ho : o.op = .alloc t) (ht : lkT tb t = some e) (hc : (match e.z with | .agg l => some (l.length, l) | .bad => none | v => some (1, [v])) = some (n, cs)) : Hop X L h o (.ptr h.nxt 0) (newRow h t n .leaf cs) := fun e' he => by
 rw [ho]; simp only [opA, oAlloc, (E.t t e ht).z]
 cases hz : e.z <;> rw [hz] at hc <;> simp only [oBox, valH] <;> cases hc <;> rfl
theorem Hop.store {t : Nat} {x y : Operand} {id off : Nat} {v : AV} {h' : Heap} {e : TE} (ho : o.op = .store t x y) (hx : evL L x = some (.ptr id off)) (hy : evL L y = some v) (ht : lkT tb t = some e) (hl : Nat.beq e.s v.cells.length = true) (hw : wCells h id off v.cells = some h') : Hop X L h o Px.und h' := fun e' he => by
 rw [ho]; simp only [opA]; rw [he.ev hx, he.ev hy]
 simp only [oStore, (E.t t e ht).size, hl, hw, Px.unit]
end
/-! ## results -/
def resL (L : List (Nat × AV)) : List ResultVar → Option (List AV)
 | [] => some []
 | .tmp t :: r => (match lkO L t with | some v => (match resL L r with | some vs => some (v :: vs) | none => none) | none => none)
 | .cell _ _ :: _ => none
theorem resL_ok {c : Ctx} {h : Heap} {L : List (Nat × AV)} {e : T AV} (he : Has e L) : ∀ {res : List ResultVar} {vs : List AV}, resL L res = some vs → resA c h e res = some vs
 | [], vs, q => by cases q; rfl
 | .tmp t :: r, vs, q => by
  unfold resL at q
  split at q
  ·rename_i v hv
   split at q
   ·rename_i us hu
    cases q
    have h1 := resL_ok (c := c) (h := h) he hu
    show (match some (e.get und t) with | some v => (match resA c h e r with | some vs => some (v :: vs) | none => none) | none => none) = _
    rw [h1, he t v hv]
   ·cases q
  ·cases q
 | .cell a t :: r, vs, q => by cases q
theorem Go.retF {X : Cx} {sz : Nat} {rd : Option Nat} {k : List It} {L : List (Nat × AV)} {h : Heap} {c : Ctx} {res : List ResultVar} {vs : List AV} {v : AV} (hr : resL L res = some vs) (hv : one vs = v) (hd : datB v = true) : Go X sz rd (.code .ret :: k) L h [] (Fin c res v) :=
 Go.ret fun e he => ⟨.inr rfl, h, vs, rfl, resL_ok he hr, hv, hd⟩
end Go.Px
end
section
namespace Go.Px
theorem plan_static2 {c : Ctx} {ops : Array Oper} {l : List Nat} {L : List PStep} {p : Nat} (hl : stepsOf c ops.toList (masks ops.toList []) l = some L)
  (hp : planOk ops.toList (masks ops.toList []) (writers ops.toList .leaf 0) (Nat.pred (bit1 p)) L 0 = true) : Static c ops (masks ops.toList []) (writers ops.toList .leaf 0) L ∧ Cover p L ∧ ∀ (m : Nat) (s : PStep), L[m]? = some s → s.i < p := by
 obtain ⟨h1, h2⟩ := planOk_spec hp
 have hat : ∀ i : Nat, ops.toList[i]? = ops[i]? := fun i => by simp
 have hmask : ∀ (i : Nat) o pm, ops[i]? = some o → nth (masks ops.toList []) i = some pm → ∃ n r, masks ops.toList [] = n ++ r ∧ pm = maskOf n o.after.toList := fun i o pm q1 q2 => by
  obtain ⟨n, r, a, b, d⟩ := masks_at ops.toList [] i o (by rw [hat]; exact q1)
  rw [nth_eq] at q2
  simp at d
  rw [q2] at d; cases d
  exact ⟨n, r, a, rfl⟩
 have e1 : Nat.pred (bit1 p) = 2 ^ p - 1 := by
  unfold bit1
  rw [show Nat.shiftLeft 1 p = 1 <<< p from rfl, Nat.one_shiftLeft]
  simp [Nat.pred_eq_sub_one]
 refine ⟨⟨fun m s e => ?_, fun m s e => h1 m s e, fun i o pm q1 q2 j hj => ?_, fun i o pm q1 q2 ed he hb => ?_⟩, fun i hi => ?_, fun m s hs => ?_⟩
 ·obtain ⟨a, b, d⟩ := stepsOf_spec hl s (List.mem_of_getElem? e)
  rw [nth_eq, hat] at a
  exact ⟨a, b, d⟩
 ·obtain ⟨n, r, a, rfl⟩ := hmask i o pm q1 q2
  obtain ⟨ed, e1, e2, e3⟩ := (maskOf_spec n j _).1 hj
  refine ⟨ed, by simpa using e1, by rw [← edgeB_eq]; exact e2, ?_⟩
  rcases e3 with e3 | e3
  ·exact .inl e3
  ·right
   cases hn : nth n ed.on with
   | none => rw [hn, show nat0 none = 0 from rfl, bit_zero] at e3; cases e3
   | some y =>
    rw [hn] at e3
    have : nth (masks ops.toList []) ed.on = some y := by
     rw [a, nth_eq, List.getElem?_append_left (by rw [nth_eq] at hn; exact (List.getElem?_eq_some_iff.1 hn).1), ← nth_eq]; exact hn
    rw [this]; exact e3
 ·obtain ⟨n, r, a, rfl⟩ := hmask i o pm q1 q2
  exact (maskOf_spec n ed.on _).2 ⟨ed, by simpa using he, by rw [edgeB_eq]; exact hb, .inl rfl⟩
 ·have : bitB (L.foldl (fun d s => orB d (bit1 s.i)) 0) i = true := by
   rw [h2, bitB_eq, e1, Nat.testBit_two_pow_sub_one]
   simpa using hi
  rw [foldl_bits, bit_zero] at this
  rcases this with q | ⟨s, q1, q2⟩
  ·cases q
  ·obtain ⟨m, hm⟩ := List.getElem?_of_mem q1
   exact ⟨m, s, hm, q2⟩
 ·have : bitB (L.foldl (fun d s => orB d (bit1 s.i)) 0) s.i = true := by
   rw [foldl_bits]
   exact .inr ⟨s, List.mem_of_getElem? hs, rfl⟩
  rw [h2, bitB_eq, e1, Nat.testBit_two_pow_sub_one] at this
  simpa using this
theorem draw_sound2 {c : Ctx} (k : CtxOk c) (hm : c.P.follows .mixedOrders = true) {app : App} (ha : AppOk c app) {id sz : Nat} {ops : Array Oper} {l : List Nat} {L : List PStep} (hl : stepsOf c ops.toList (masks ops.toList []) l = some L)
  (hp : planOk ops.toList (masks ops.toList []) (writers ops.toList .leaf 0) (Nat.pred (bit1 ops.toList.length)) L 0 = true) {e e' : T AV} {h h' : Heap} (hd : runPs c app sz ops.toList L e h [(h, ops.toList.length)] = .ok e' h')
  {ρ : Map} {w : World} {a : Act} {ro : Option Nat} {Q : Exit → Act → World → Prop} (hr : HR ρ h w) (wf : WF h) (fr : FreeUp c ρ h) (er : ER ρ e a.tmps sz)
  (hQ : ∀ a' w' ρ', Good ρ h w ρ' h' w' → ER ρ' e' a'.tmps sz → a'.defers = a.defers → Q .normal a' w') : (Code.region id ops true).wpIn (wideR ro) 0 c.P Q a w := by
 obtain ⟨st, hcov, _⟩ := plan_static2 hl hp
 obtain ⟨tr, t1, t2, t3, t4, t5⟩ := trace_of hd
 refine wpIn_region_any hm ?_
 have hcut : cut ρ h.nxt = ρ := by
  refine Map.same (fun i => ?_) rfl rfl
  by_cases hi : i < h.nxt
  ·exact cut_lt hi
  ·rw [cut_ge (by omega), fr.1 i (by omega)]
 have hnone : ∀ i, ¬ isIn (Array.replicate ops.size false) i := fun i hi => by
  unfold isIn at hi
  rw [Array.getD_eq_getD_getElem?, Array.getElem?_replicate] at hi
  split at hi <;> simp at hi
 refine any_ok st (tr := tr) (ρ0 := ρ) (w0 := w) (a0 := a) k ha (by simpa using hcov) (by rw [t2]; exact fr.2) (fun a' w' ρ' g1 g2 g3 => ?_) ops.size _ a _ 0 ρ ?_ ?_ ?_
 ·rw [t2, t5] at g1
  rw [t4] at g2
  exact hQ a' w' ρ' g1 g2 g3
 ·unfold left
  have := List.length_filter_le (fun i => !(Array.replicate ops.size false).getD i false) (List.range ops.size)
  simpa using this
 ·exact fun j _ => hnone j
 ·refine { size := by simp, le := Nat.zero_le _, pre := (fun j s hj => by omega), nowork := fun j s _ _ hi => absurd hi (hnone _), closed := fun i pm j hi => absurd hi (hnone _), good := ?_, base := ⟨h, _, [], t3, (by rw [t2]; exact HLe.refl _)⟩, dom := fun i p hi => ?_, early := (fun j s _ _ hi => absurd hi (hnone _)), tsz := er.1, slot0 := fun t _ => by rw [t1]; exact er.2 t, slot1 := fun j s t _ hi => absurd hi (hnone _), defers := rfl }
  ·rw [t2, hcut]
   exact (Good.refl hr wf).draw rfl ⟨rfl, rfl, rfl, Nat.le_refl _⟩
  ·left
   rw [t2]
   by_cases h1 : i < h.nxt
   ·exact h1
   ·rw [fr.1 i (by omega)] at hi; cases hi
/-! ## such a region whose last operations come one by one -/
def sufOk : List Nat → Nat → Bool
 | [], _ => true
 | m :: r, i => (match Nat.beq m (Nat.pred (bit1 i)) with | true => sufOk r (i + 1) | false => false)
theorem sufOk_at : ∀ {l : List Nat} {i : Nat}, sufOk l i = true → ∀ (j m : Nat), l[j]? = some m → m = Nat.pred (bit1 (i + j))
 | [], _, _, j, m, h => by simp at h
 | x :: r, i, h, j, m, hj => by
  unfold sufOk at h
  split at h
  ·rename_i hx
   cases j with
   | zero => simp at hj; rw [← hj]; exact beqT hx
   | succ j =>
    have := sufOk_at h j m (by simpa using hj)
    rw [this, show i + 1 + j = i + (j + 1) by omega]
  ·cases h
def preOk (ms : List Nat) (p : Nat) : Bool := (ms.take p).all fun m => inB m (Nat.pred (bit1 p))
theorem low_bits (i j : Nat) : bitB (Nat.pred (bit1 i)) j = decide (j < i) := by
 have e1 : Nat.pred (bit1 i) = 2 ^ i - 1 := by
  unfold bit1
  rw [show Nat.shiftLeft 1 i = 1 <<< i from rfl, Nat.one_shiftLeft]
  simp [Nat.pred_eq_sub_one]
 rw [bitB_eq, e1, Nat.testBit_two_pow_sub_one]
theorem wpOpIn_mono {F : Fence} {n : Nat} {P : Program} {ops : Array Oper} {Q : Exit → Act → World → Prop} {i : Nat} {K K' : Act → World → Prop} {a : Act} {w : World} (h : ∀ a w, K a w → K' a w) (q : wpOpIn F n P ops Q i K a w) : wpOpIn F n P ops Q i K' a w := by
 unfold wpOpIn at *
 split at q
 ·exact h _ _ q
 ·split at q
  ·rename_i hw
   rw [if_pos hw]
   exact Oper.wpIn_mono h q
  ·rename_i hw
   rw [if_neg hw]
   exact ⟨q.1, h _ _ q.2⟩
theorem isIn_pat {i n j : Nat} (hi : i ≤ n) : isIn (pat i n) j ↔ j < i := by
 unfold isIn pat
 rw [Array.getD_eq_getD_getElem?, Array.getElem?_append, Array.getElem?_replicate, Array.getElem?_replicate]
 by_cases h : j < i
 ·simp [h]
 ·by_cases h2 : j - i < n - i <;> simp [h, h2]
theorem pat_size {i n : Nat} (hi : i ≤ n) : (pat i n).size = n := by simp [pat]; omega
theorem pat_set {i n : Nat} (hi : i < n) : (pat i n).setIfInBounds i true = pat (i + 1) n := by
 have hsz : (pat i n).size = n := pat_size (by omega)
 refine pat_of (by simp [hsz]) (by omega) (fun j hj => ?_) (fun j hj hin => ?_)
 ·rw [in_set (by rw [hsz]; exact hi), isIn_pat (by omega)]; omega
 ·rw [in_set (by rw [hsz]; exact hi), isIn_pat (by omega)] at hin; omega
theorem suf_ok {ro : Option Nat} {P : Program} {ops : Array Oper} {Q : Exit → Act → World → Prop} {p : Nat} (hpre : preOk (masks ops.toList []) p = true) (hs : sufOk ((masks ops.toList []).drop p) p = true) : ∀ (f i fuel : Nat) (a : Act) (w : World), ops.size - i = f → p ≤ i → i ≤ ops.size → f ≤ fuel →
  wpOpsIn (wideR ro) 0 P ops Q (List.range' i f) a w → wpAnyIn (wideR ro) 0 P .any ops Q fuel (pat i ops.size) a w := by
 intro f
 have hmask : ∀ (j : Nat) (o : Oper), p ≤ j → ops[j]? = some o → (∀ ed ∈ o.after, Region.binds .any ed = true → ed.on < j) ∧ (p < j → ∃ ed ∈ o.after, Region.binds .any ed = true ∧ ed.on = j - 1) := fun j o hj ho => by
  obtain ⟨n, r, a, b, d⟩ := masks_at ops.toList [] j o (by simpa using ho)
  have hn : (masks ops.toList [])[j]? = some (maskOf n o.after.toList) := by simpa using d
  have h1 : ((masks ops.toList []).drop p)[j - p]? = some (maskOf n o.after.toList) := by
   rw [List.getElem?_drop, show p + (j - p) = j by omega]; exact hn
  have h2 := sufOk_at hs _ _ h1
  rw [show p + (j - p) = j by omega] at h2
  have hlow : ∀ ed ∈ o.after, Region.binds .any ed = true → ed.on < j := fun ed he hb => by
   have h3 : bitB (maskOf n o.after.toList) ed.on = true := (maskOf_spec n ed.on _).2 ⟨ed, by simpa using he, by rw [edgeB_eq]; exact hb, .inl rfl⟩
   rw [h2, low_bits] at h3
   simpa using h3
  refine ⟨hlow, fun hpj => ?_⟩
  have h3 : bitB (maskOf n o.after.toList) (j - 1) = true := by rw [h2, low_bits]; simp; omega
  obtain ⟨ed, e1, e2, e3⟩ := (maskOf_spec n (j - 1) _).1 h3
  have e1 : ed ∈ o.after := by simpa using e1
  have e2 : Region.binds .any ed = true := by rw [← edgeB_eq]; exact e2
  have e4 := hlow ed e1 e2
  refine ⟨ed, e1, e2, ?_⟩
  rcases e3 with e3 | e3
  ·exact e3.symm
  ·exfalso
   cases hx : nth n ed.on with
   | none => rw [hx, show nat0 none = 0 from rfl, bit_zero] at e3; cases e3
   | some y =>
    rw [hx] at e3
    have h5 : (masks ops.toList [])[ed.on]? = some y := by
     rw [nth_eq] at hx
     rw [a, List.getElem?_append_left (List.getElem?_eq_some_iff.1 hx).1]; exact hx
    by_cases hep : ed.on < p
    ·unfold preOk at hpre
     rw [List.all_eq_true] at hpre
     have h6 := hpre y (List.mem_of_getElem? (i := ed.on) (by rw [List.getElem?_take, if_pos hep]; exact h5))
     have h7 := inB_spec h6 e3
     rw [low_bits] at h7
     simp at h7; omega
    ·have h6 : ((masks ops.toList []).drop p)[ed.on - p]? = some y := by
      rw [List.getElem?_drop, show p + (ed.on - p) = ed.on by omega]; exact h5
     have h7 := sufOk_at hs _ _ h6
     rw [show p + (ed.on - p) = ed.on by omega] at h7
     rw [h7] at e3
     have e5 : bitB (Nat.pred (bit1 ed.on)) (j - 1) = true := e3
     rw [low_bits] at e5
     simp at e5; omega
 induction f with
 | zero =>
  intro i fuel a w hf hp hi hle h
  have hi : i = ops.size := by omega
  subst hi
  have hr : Region.ready .any ops (pat ops.size ops.size) = [] := by
   cases hc : Region.ready .any ops (pat ops.size ops.size) with
   | nil => rfl
   | cons i r =>
    have hi : i ∈ Region.ready .any ops (pat ops.size ops.size) := by rw [hc]; exact List.mem_cons_self
    rw [mem_ready] at hi
    obtain ⟨h1, o, h2, _⟩ := hi
    have hlt := (Array.getElem?_eq_some_iff.1 h2).1
    simp [pat, Array.getD_eq_getD_getElem?, Array.getElem?_replicate, hlt] at h1
  cases fuel with
  | zero => exact ⟨hr, h⟩
  | succ f => exact ⟨fun _ => h, fun i hi => by rw [hr] at hi; cases hi⟩
 | succ f ih =>
  intro i fuel a w hf hp hi hle h
  obtain ⟨fuel, rfl⟩ : ∃ g, fuel = g + 1 := ⟨fuel - 1, by omega⟩
  have hlt : i < ops.size := by omega
  have hsz : (pat i ops.size).size = ops.size := pat_size hi
  rw [List.range'_succ, wpOpsIn_cons] at h
  refine ⟨fun hr => ?_, fun j hj => ?_⟩
  ·exfalso
   have : i ∈ Region.ready .any ops (pat i ops.size) := by
    rw [mem_ready]
    refine ⟨?_, ops[i], Array.getElem?_eq_getElem hlt, fun ed he hb => ?_⟩
    ·rw [getD_iff hsz hlt]
     have : ¬ isIn (pat i ops.size) i := fun q => by rw [isIn_pat hi] at q; omega
     unfold isIn at this
     simpa using this
    ·have := (hmask i _ hp (Array.getElem?_eq_getElem hlt)).1 ed he hb
     exact (isIn_pat hi).2 this
   rw [hr] at this; cases this
  ·rw [mem_ready] at hj
   obtain ⟨h1, o, h2, h3⟩ := hj
   have hjlt := (Array.getElem?_eq_some_iff.1 h2).1
   rw [getD_iff hsz hjlt] at h1
   have hji : ¬ j < i := fun q => by
    have := (isIn_pat hi).2 q
    unfold isIn at this
    rw [this] at h1; cases h1
   have : j = i := by
    apply Classical.byContradiction
    intro hne
    obtain ⟨ed, e1, e2, e3⟩ := (hmask j o (by omega) h2).2 (by omega)
    have h4 := h3 ed e1 e2
    have h5 := (isIn_pat hi).1 h4
    omega
   subst this
   refine wpOpIn_mono (fun a w q => ?_) h
   rw [pat_set hlt]
   exact ih (j + 1) fuel a w (by omega) (by omega) (by omega) (by omega) q
theorem draw_sound3 {c : Ctx} (k : CtxOk c) (hm : c.P.follows .mixedOrders = true) {app : App} (ha : AppOk c app) {id sz p : Nat} {ops : Array Oper} {l : List Nat} {L : List PStep} (hl : stepsOf c ops.toList (masks ops.toList []) l = some L) (hpn : p ≤ ops.size)
  (hp : planOk ops.toList (masks ops.toList []) (writers ops.toList .leaf 0) (Nat.pred (bit1 p)) L 0 = true) (hpre : preOk (masks ops.toList []) p = true) (hs : sufOk ((masks ops.toList []).drop p) p = true) {e e' : T AV} {h h' : Heap} (hd : runPs c app sz ops.toList L e h [(h, ops.toList.length)] = .ok e' h')
  {ρ : Map} {w : World} {a : Act} {ro : Option Nat} {Q : Exit → Act → World → Prop} (hr : HR ρ h w) (wf : WF h) (fr : FreeUp c ρ h) (er : ER ρ e a.tmps sz)
  (hQ : ∀ a' w' ρ', Good ρ h w ρ' h' w' → ER ρ' e' a'.tmps sz → a'.defers = a.defers → wpOpsIn (wideR ro) 0 c.P ops Q (List.range' p (ops.size - p)) a' w') : (Code.region id ops true).wpIn (wideR ro) 0 c.P Q a w := by
 obtain ⟨st, hcov, hlow⟩ := plan_static2 hl hp
 obtain ⟨tr, t1, t2, t3, t4, t5⟩ := trace_of hd
 refine wpIn_region_any hm ?_
 have hcut : cut ρ h.nxt = ρ := by
  refine Map.same (fun i => ?_) rfl rfl
  by_cases hi : i < h.nxt
  ·exact cut_lt hi
  ·rw [cut_ge (by omega), fr.1 i (by omega)]
 have hnone : ∀ i, ¬ isIn (Array.replicate ops.size false) i := fun i hi => by
  unfold isIn at hi
  rw [Array.getD_eq_getD_getElem?, Array.getElem?_replicate] at hi
  split at hi <;> simp at hi
 have hml : ∀ i, i < ops.size → ∃ pm, nth (masks ops.toList []) i = some pm := fun i hi => by
  obtain ⟨n, r, a, b, d⟩ := masks_at ops.toList [] i ops[i] (by simp [hi])
  exact ⟨_, by rw [nth_eq]; simpa using d⟩
 refine any_okS st (tr := tr) (ρ0 := ρ) (w0 := w) (a0 := a) k ha hpn hcov hlow (fun i h1 h2 j hj => ?_) (by rw [t2]; exact fr.2) (fun fuel a' w' ρ' hf g1 g2 g3 => ?_) ops.size _ a _ 0 ρ ?_ ?_ ?_
 ·obtain ⟨pm, q⟩ := hml i h2
  refine ⟨pm, q, ?_⟩
  rw [nth_eq] at q
  have h3 : ((masks ops.toList []).drop p)[i - p]? = some pm := by
   rw [List.getElem?_drop, show p + (i - p) = i by omega]; exact q
  have h4 := sufOk_at hs _ _ h3
  rw [show p + (i - p) = i by omega] at h4
  rw [h4, low_bits]; simp; omega
 ·rw [t2, t5] at g1
  rw [t4] at g2
  exact suf_ok hpre hs _ p fuel a' w' rfl (Nat.le_refl _) hpn hf (hQ a' w' ρ' g1 g2 g3)
 ·unfold left
  have := List.length_filter_le (fun i => !(Array.replicate ops.size false).getD i false) (List.range ops.size)
  simpa using this
 ·exact fun j _ => hnone j
 ·refine { size := by simp, le := Nat.zero_le _, pre := (fun j s hj => by omega), nowork := fun j s _ _ hi => absurd hi (hnone _), closed := fun i pm j hi => absurd hi (hnone _), good := ?_, base := ⟨h, _, [], t3, (by rw [t2]; exact HLe.refl _)⟩, dom := fun i p hi => ?_, early := (fun j s _ _ hi => absurd hi (hnone _)), tsz := er.1, slot0 := fun t _ => by rw [t1]; exact er.2 t, slot1 := fun j s t _ hi => absurd hi (hnone _), defers := rfl }
  ·rw [t2, hcut]
   exact (Good.refl hr wf).draw rfl ⟨rfl, rfl, rfl, Nat.le_refl _⟩
  ·left
   rw [t2]
   by_cases h1 : i < h.nxt
   ·exact h1
   ·rw [fr.1 i (by omega)] at hi; cases hi
/-! ## contracts for calls within such a region -/
structure Ent (c : Ctx) where
 f : FuncId
 α : Type
 enc : α → List AV
 out : α → AV
 ok : ∀ a, KOk c f (enc a) (out a)
 dat : ∀ a, datsB (enc a) = true
 uniq : ∀ a b, enc a = enc b → out a = out b
open Classical in
noncomputable def pans {c : Ctx} : List (Ent c) → FuncId → List AV → Option AV
 | [], _, _ => none
 | E :: r, g, args => if hh : E.f = g ∧ ∃ a, E.enc a = args then some (E.out (Classical.choose hh.2)) else pans r g args
noncomputable def papp {c : Ctx} (tb : List (Ent c)) : App := fun t args h => match t with
 | .f g => (match pans tb g args with | some v => .ok v h | none => .bad [])
 | .y _ => .bad []
theorem pans_ok {c : Ctx} : ∀ {tb : List (Ent c)} {g : FuncId} {args : List AV} {v : AV}, pans tb g args = some v → KOk c g args v ∧ datsB args = true
 | [], _, _, _, h => by cases h
 | E :: r, g, args, v, h => by
  unfold pans at h
  split at h
  ·rename_i hh
   cases h
   have hc := Classical.choose_spec hh.2
   generalize Classical.choose hh.2 = a at hc
   have h1 := E.ok a
   have h2 := E.dat a
   obtain ⟨hg, _⟩ := hh
   subst hg
   subst hc
   exact ⟨h1, h2⟩
  ·exact pans_ok h
theorem pans_hd {c : Ctx} {E : Ent c} {r : List (Ent c)} (a : E.α) {g : FuncId} (hg : E.f = g) {args : List AV} (h : E.enc a = args) : pans (E :: r) g args = some (E.out a) := by
 have hh : E.f = g ∧ ∃ a, E.enc a = args := ⟨hg, a, h⟩
 unfold pans
 rw [dif_pos hh]
 congr 1
 exact E.uniq _ _ ((Classical.choose_spec hh.2).trans h.symm)
theorem pans_tl {c : Ctx} {E : Ent c} {r : List (Ent c)} {g : FuncId} {args : List AV} {v : AV} (hg : Nat.beq E.f g = false) (h : pans r g args = some v) : pans (E :: r) g args = some v := by
 unfold pans
 rw [dif_neg (fun q => beqN hg q.1)]
 exact h
theorem papp_ok {c : Ctx} (tb : List (Ent c)) : AppOk c (papp tb) := by
 intro t args h v h' he ρ w A hr wf fr hA
 cases t with
 | y l => cases he
 | f g =>
  have he' : (match pans tb g args with | some v => Ans.ok v h | none => .bad []) = .ok v h' := he
  split at he'
  ·rename_i u hu
   cases he'
   obtain ⟨h1, h2⟩ := pans_ok hu
   obtain ⟨nx, w1, q1, q2⟩ := h1 ρ.F w A hr.fz (dats_ok args h2 hA)
   refine ⟨nx, w1, q1, q2.mono fun z w' ⟨e, F', f1, f2, f3, f4⟩ => ⟨⟨ρ.m, F', ρ.V⟩, (Good.refl hr wf).frz e.1 e.2 f1 f2 f3, ?_⟩⟩
   exact VR.mono (ρ := fzm F') (σ := ⟨ρ.m, F', ρ.V⟩) ⟨(fun _ _ e => by cases e), fun _ _ _ e => e, (fun _ _ _ e => by cases e)⟩ v f4
  ·cases he'
/-! ## such a region, from known slots -/
noncomputable def chkOrd (c : Ctx) (ops : List Oper) (ord : List Nat) : Bool :=
 match stepsOf c ops (masks ops []) ord with
 | some L => planOk ops (masks ops []) (writers ops .leaf 0) (Nat.pred (bit1 ops.length)) L 0
 | none => false
noncomputable def chkOrdS (c : Ctx) (ops : List Oper) (p : Nat) : Bool :=
 match stepsOf c ops (masks ops []) (List.range p) with
 | some L => (planOk ops (masks ops []) (writers ops .leaf 0) (Nat.pred (bit1 p)) L 0 && preOk (masks ops []) p) && (sufOk ((masks ops []).drop p) p && Nat.ble p ops.length)
 | none => false
noncomputable def drawn : Code → List (List Oper)
 | .seq a b => drawn a ++ drawn b
 | .cond _ a b => drawn a ++ drawn b
 | .block _ a => drawn a
 | .loop a => drawn a
 | .scope a => drawn a
 | .rangeFunc _ _ a b => drawn a ++ drawn b
 | .region _ ops d => if d then [ops.toList] else []
 | _ => []
structure Dr (X : Cx) (sz : Nat) (rd : Option Nat) (tb : List (Ent X.c)) (all : Array Oper) (ord : List Nat) (k : List It) (L : List (Nat × AV)) (h : Heap) (hb : Option Heap) (m : List Nat) (Q : Post) : Prop where
 run : ∀ e, Has e L → ∀ S, stepsOf X.c all.toList (masks all.toList []) ord = some S → ∀ bs : List (Heap × Nat), bs ≠ [] → (∀ g ∈ bs, ∀ x, hb = some x → g.1 = x) →
  ∃ e' h', runPs X.c (papp tb) sz all.toList S e h bs = .ok e' h' ∧ ArrKeep h h' ∧ RunK X sz rd k Q .normal ⟨e', h', m⟩
section
variable {X : Cx} {tb0 : List (Nat × TE)} {sz : Nat} {rd : Option Nat} {tb : List (Ent X.c)} {all : Array Oper} {ord : List Nat} {k : List It} {L : List (Nat × AV)} {h : Heap} {hb : Option Heap} {m : List Nat} {Q : Post}
theorem Go.draw (E : Env X.c tb0) (hm : X.c.P.follows .mixedOrders = true) (tb : List (Ent X.c)) (ord : List Nat) {id : Nat} (hc : chkOrd X.c all.toList ord = true) (n : Dr X sz rd tb all ord k L h (some h) m Q) : Go X sz rd (.code (.region id all true) :: k) L h m Q := ⟨fun e he => by
 unfold chkOrd at hc
 split at hc
 ·rename_i S hS
  intro ro ρ w a Q' h1 h2 h3 h4 h5
  obtain ⟨e', h', q1, q2, q3⟩ := n.run e he S hS [(h, all.toList.length)] (by simp) (fun g hg x hx => by cases hx; simp at hg; rw [hg])
  refine draw_sound2 E.k hm (papp_ok tb) hS hc q1 h2.hr h2.wf h2.fr h3 fun a' w' ρ' g er dd => ?_
  exact h5 .normal ⟨e', h', m⟩ a' w' ρ' q3 (h1.mono g.sub) (h2.good g q2) er (by rw [dd]; exact h4.mono g.sub)
 ·cases hc⟩
noncomputable def SufQ (X : Cx) (sz : Nat) (rd : Option Nat) (all : Array Oper) (p : Nat) (k : List It) (Q : Post) : Post := fun x s => x = .normal ∧ TriOps X sz rd all (all.toList.drop p) s (fun s' => RunK X sz rd k Q .normal s')
theorem Go.suf {p : Nat} {rest : List Oper} (hr : all.toList.drop p = rest) (n : Ops X sz rd all rest k L h m Q) : Go X sz rd [] L h m (SufQ X sz rd all p k Q) := Go.nil fun e he => ⟨rfl, by rw [hr]; exact n.run e he⟩
theorem Go.drawS (E : Env X.c tb0) (hm : X.c.P.follows .mixedOrders = true) (tb : List (Ent X.c)) (p : Nat) {id : Nat} (hc : chkOrdS X.c all.toList p = true) (n : Dr X sz rd tb all (List.range p) [] L h (some h) m (SufQ X sz rd all p k Q)) : Go X sz rd (.code (.region id all true) :: k) L h m Q := ⟨fun e he => by
 unfold chkOrdS at hc
 split at hc
 ·rename_i S hS
  simp only [Bool.and_eq_true] at hc
  obtain ⟨⟨hc1, hc2⟩, hc3, hc4⟩ := hc
  have hpn : p ≤ all.size := by simpa using bleT hc4
  intro ro ρ w a Q' h1 h2 h3 h4 h5
  obtain ⟨e', h', q1, q2, q3⟩ := n.run e he S hS [(h, all.toList.length)] (by simp) (fun g hg x hx => by cases hx; simp at hg; rw [hg])
  obtain ⟨_, q3⟩ : SufQ X sz rd all p k Q .normal ⟨e', h', m⟩ := q3
  refine draw_sound3 E.k hm (papp_ok tb) hS hpn hc1 hc2 hc3 q1 h2.hr h2.wf h2.fr h3 fun a' w' ρ' g er dd => ?_
  refine q3 (List.range' p (all.size - p)) ?_ ro ρ' w' a' Q' (h1.mono g.sub) (h2.good g q2) er (by rw [dd]; exact h4.mono g.sub) (fun s' a2 w2 ρ2 z1 z2 z3 z4 z5 => h5 .normal s' a2 w2 ρ2 z1 z2 z3 z4 z5)
  apply List.ext_getElem?
  intro i
  simp only [List.getElem?_map, List.getElem?_drop]
  by_cases hi : i < all.size - p
  ·rw [List.getElem?_range' hi]
   simp [Array.getElem?_eq_getElem (show p + i < all.size by omega)]
  ·rw [List.getElem?_eq_none (by simp; omega), List.getElem?_eq_none (by simp; omega)]; rfl
 ·cases hc⟩
theorem Dr.nil (n : Go X sz rd k L h m Q) : Dr X sz rd tb all [] k L h hb m Q := ⟨fun e he S hS bs _ _ => by
 have hS' : some [] = some S := hS
 cases hS'
 exact ⟨e, h, rfl, ArrKeep.refl h, n.run e he⟩⟩
theorem steps_cons {c : Ctx} {ops : List Oper} {ms : List Nat} {i : Nat} {r : List Nat} {S : List PStep} (hS : stepsOf c ops ms (i :: r) = some S) {o : Oper} (ho : nth1 ops i = some o) : ∃ pm S', S = ⟨i, o, cls c o.op, pm⟩ :: S' ∧ stepsOf c ops ms r = some S' := by
 have hS' : (match nth ops i with
   | some o => (match nth ms i with
    | some pm => (match stepsOf c ops ms r with | some r => some (⟨i, o, cls c o.op, pm⟩ :: r) | none => none)
    | none => none)
   | none => none) = some S := hS
 rw [nth1_eq] at ho
 rw [nth_eq, ho] at hS'
 simp only [] at hS'
 split at hS'
 ·rename_i pm _
  split at hS'
  ·rename_i S' hS''
   cases hS'
   exact ⟨pm, S', rfl, hS''⟩
  ·cases hS'
 ·cases hS'
theorem runPs_cons (c : Ctx) (app : App) (sz : Nat) (ops : List Oper) (s : PStep) (l : List PStep) (e : T AV) (h : Heap) (bs : List (Heap × Nat)) :
  runPs c app sz ops (s :: l) e h bs = (match runP c app sz ops s e h bs with | .ok e' h' bs' => runPs c app sz ops l e' h' bs' | .bad l => .bad l) := rfl
theorem setR_some {e : T AV} {d : Nat} {v : AV} {bs : List (Heap × Nat)} (hs : Nat.ble (d + 1) sz = true) : setR e (some d) v sz h bs = .ok (e.set und d v) h bs := by unfold setR; simp only [hs]
theorem Dr.step {i : Nat} {o : Oper} (ho : nth1 all.toList i = some o) {L' : List (Nat × AV)} {h' : Heap} {hb' : Option Heap} (ha : ArrKeep h h')
  (H : ∀ e pm bs, Has e L → bs ≠ [] → (∀ g ∈ bs, ∀ x, hb = some x → g.1 = x) → ∃ e' bs', runP X.c (papp tb) sz all.toList ⟨i, o, cls X.c o.op, pm⟩ e h bs = .ok e' h' bs' ∧ Has e' L' ∧ bs' ≠ [] ∧ (∀ g ∈ bs', ∀ x, hb' = some x → g.1 = x))
  (n : Dr X sz rd tb all ord k L' h' hb' m Q) : Dr X sz rd tb all (i :: ord) k L h hb m Q := ⟨fun e he S hS bs h1 h2 => by
 obtain ⟨pm, S', rfl, hS'⟩ := steps_cons hS ho
 obtain ⟨e1, bs1, q1, q2, q3, q4⟩ := H e pm bs he h1 h2
 obtain ⟨e2, h2', r1, r2, r3⟩ := n.run e1 q2 S' hS' bs1 q3 q4
 exact ⟨e2, h2', by rw [runPs_cons, q1]; exact r1, ha.trans r2, r3⟩⟩
theorem Dr.skip {i : Nat} {o : Oper} {d : Nat} (ho : nth1 all.toList i = some o) (hd : o.dst = some d) (hs : Nat.ble (d + 1) sz = true) (hw : Want all L o false) (n : Dr X sz rd tb all ord k ((d, und) :: L) h hb m Q) : Dr X sz rd tb all (i :: ord) k L h hb m Q :=
 Dr.step ho (ArrKeep.refl h) (fun e pm bs he h1 h2 => ⟨e.set und d und, bs, by unfold runP; simp only [hw e he]; rw [hd]; exact setR_some hs, he.set d und, h1, h2⟩) n
theorem Dr.pure {i : Nat} {o : Oper} {d : Nat} {v : AV} (ho : nth1 all.toList i = some o) (hc : cls X.c o.op = .pure) (hd : o.dst = some d) (hs : Nat.ble (d + 1) sz = true) (hw : Want all L o true) (hop : Hop X L h o v h) (n : Dr X sz rd tb all ord k ((d, v) :: L) h hb m Q) : Dr X sz rd tb all (i :: ord) k L h hb m Q :=
 Dr.step ho (ArrKeep.refl h) (fun e pm bs he h1 h2 => ⟨e.set und d v, bs, by unfold runP; simp only [hw e he, hc, hop e he]; rw [hd]; exact setR_some hs, he.set d v, h1, h2⟩) n
theorem lightV_all {c : Ctx} {e : T AV} {s : PStep} {x : Heap} {v : AV} (hx : opA c e x s.o.op = some (.v v x)) : ∀ {bs : List (Heap × Nat)} {p : Option AV}, (∀ g ∈ bs, g.1 = x) → (p = some v ∨ (p = none ∧ bs ≠ [])) → lightV c e s bs p = some v
 | [], p, _, hp => by
  rcases hp with rfl | ⟨_, h⟩
  ·rfl
  ·exact absurd rfl h
 | g :: bs, p, hg, hp => by
  have h0 : g.1 = x := hg g List.mem_cons_self
  show (match opA c e g.1 s.o.op with
   | some (.v v _) => (match agree p v with
    | true => (match bitB s.pm g.2 with | true => some v | false => lightV c e s bs (some v))
    | false => none)
   | _ => none) = some v
  rw [h0, hx]
  simp only []
  have ha : agree p v = true := by
   rcases hp with rfl | ⟨rfl, _⟩
   ·exact agree_eq.2 rfl
   ·rfl
  rw [ha]
  simp only []
  split
  ·rfl
  ·exact lightV_all hx (fun y hy => hg y (List.mem_cons_of_mem _ hy)) (.inl rfl)
theorem Dr.light {i : Nat} {o : Oper} {d : Nat} {v : AV} {x : Heap} (ho : nth1 all.toList i = some o) (hc : cls X.c o.op = .light) (hd : o.dst = some d) (hs : Nat.ble (d + 1) sz = true) (hw : Want all L o true) (hop : Hop X L x o v x) (n : Dr X sz rd tb all ord k ((d, v) :: L) h (some x) m Q) : Dr X sz rd tb all (i :: ord) k L h (some x) m Q :=
 Dr.step ho (ArrKeep.refl h) (fun e pm bs he h1 h2 => ⟨e.set und d v, bs, by
  unfold runP; simp only [hw e he, hc]
  rw [lightV_all (s := ⟨i, o, .light, pm⟩) (hop e he) (fun g hg => h2 g hg x rfl) (.inr ⟨rfl, h1⟩)]
  simp only []
  rw [hd]; exact setR_some hs, he.set d v, h1, h2⟩) n
theorem Dr.alloc {i : Nat} {o : Oper} {d : Nat} {v : AV} {h' : Heap} (ho : nth1 all.toList i = some o) (hc : cls X.c o.op = .alloc) (hd : o.dst = some d) (hs : Nat.ble (d + 1) sz = true) (hw : Want all L o true) (hop : Hop X L h o v h') (ha : ArrKeep h h') (n : Dr X sz rd tb all ord k ((d, v) :: L) h' hb m Q) : Dr X sz rd tb all (i :: ord) k L h hb m Q :=
 Dr.step ho ha (fun e pm bs he h1 h2 => ⟨e.set und d v, bs, by unfold runP; simp only [hw e he, hc, hop e he]; rw [hd]; exact setR_some hs, he.set d v, h1, h2⟩) n
theorem Dr.call {i : Nat} {o : Oper} {d : Nat} {v : AV} {cl : Call} {f : Operand} {g : FuncId} {vs : List AV} (ho : nth1 all.toList i = some o) (hcl : cls X.c o.op = .work) (hd : o.dst = some d) (hs : Nat.ble (d + 1) sz = true) (hw : Want all L o true) (hop : o.op = .call cl) (hc : cl.callee = .value f) (hf : evL L f = some (.fn (.func g) [] []))
  (hv : evsL L cl.args.toList = some vs) (hk : pans tb g vs = some v) (n : Dr X sz rd tb all ord k ((d, v) :: L) h (some h) m Q) : Dr X sz rd tb all (i :: ord) k L h (some h) m Q :=
 Dr.step ho (ArrKeep.refl h) (fun e pm bs he h1 h2 => ⟨e.set und d v, (h, i) :: bs, by
  unfold runP; simp only [hw e he, hcl]
  have h3 : opA X.c e h o.op = some (.go (.f g) vs h) := by
   rw [hop]; simp only [opA, oCall, hc]; rw [he.ev hf, he.evs hv]; simp
  rw [h3]
  simp only [papp, hk]
  rw [Nat.ble_eq_true_of_le (Nat.le_refl _)]
  simp only []
  rw [hd]; exact setR_some hs, he.set d v, by simp, fun y hy x hx => by
   rcases List.mem_cons.1 hy with rfl | hy
   ·cases hx; rfl
   ·exact h2 y hy x hx⟩) n
theorem Dr.store {i : Nat} {o : Oper} {v : AV} {h' : Heap} (ho : nth1 all.toList i = some o) (hcl : cls X.c o.op = .work) (hd : o.dst = none) (hw : Want all L o true) (hop : Hop X L h o v h') (ha : ArrKeep h h') (hn : Nat.ble h.nxt h'.nxt = true) (n : Dr X sz rd tb all ord k L h' none m Q) : Dr X sz rd tb all (i :: ord) k L h hb m Q :=
 Dr.step ho ha (fun e pm bs he h1 h2 => ⟨e, (h', i) :: bs, by
  unfold runP; simp only [hw e he, hcl, hop e he, hn]
  rw [hd]; rfl, he, by simp, fun y hy x hx => by cases hx⟩) n
theorem Dr.case {d : Nat} {b : Bool} (hl : lkO L d = some (.bool b)) (n1 : b = true → Dr X sz rd tb all ord k ((d, .bool true) :: L) h hb m Q) (n2 : b = false → Dr X sz rd tb all ord k ((d, .bool false) :: L) h hb m Q) : Dr X sz rd tb all ord k L h hb m Q := ⟨fun e he => by
 have key : ∀ {v : AV}, v = .bool b → Has e ((d, v) :: L) := fun {v} hv t u q => by
  unfold lkO at q
  split at q
  ·rename_i ht; cases q; have ht := beqT ht; subst ht; rw [hv]; exact he t _ hl
  ·exact he t u q
 cases b with
 | true => exact (n1 rfl).run e (key rfl)
 | false => exact (n2 rfl).run e (key rfl)⟩
noncomputable def gslotD (all : Array Oper) (ord : List Nat) : Option Nat :=
 match ord with
 | i :: _ => (match nth1 all.toList i with | some o => (match o.guard with | some (j, _) => (match nth1 all.toList j with | some p => p.dst | none => none) | none => none) | none => none)
 | [] => none
theorem Dr.gP {d : Nat} {p : Prop} (hg : gslotD all ord = some d) (hl : lkO L d = some (.bool (bd p))) (n1 : p → Dr X sz rd tb all ord k ((d, .bool true) :: L) h hb m Q) (n2 : ¬ p → Dr X sz rd tb all ord k ((d, .bool false) :: L) h hb m Q) : Dr X sz rd tb all ord k L h hb m Q :=
 Dr.case hl (fun q => n1 (bd_iff.1 q)) (fun q => n2 (bd_not.1 q))
theorem Dr.gN {d : Nat} {p : Prop} (hg : gslotD all ord = some d) (hl : lkO L d = some (.bool (!bd p))) (n1 : ¬ p → Dr X sz rd tb all ord k ((d, .bool true) :: L) h hb m Q) (n2 : p → Dr X sz rd tb all ord k ((d, .bool false) :: L) h hb m Q) : Dr X sz rd tb all ord k L h hb m Q :=
 Dr.case hl (fun q => n1 (bd_not.1 (by simpa using q))) (fun q => n2 (bd_iff.1 (by simpa using q)))
end
end Go.Px
end
section
namespace Go.Px
/-! ## what speaks of a place -/
mutual
def indB (k : Nat) : AV → Bool
 | .ptr i _ => !Nat.beq i k
 | .sl i _ _ _ _ => !Nat.beq i k
 | .esl i => !Nat.beq i k
 | .mp i => !Nat.beq i k
 | .fn f a b => (match (match f with | .yield l => !Nat.beq l k | _ => true) with | true => (match indsB k a with | true => indsB k b | false => false) | false => false)
 | .ifc _ a => indB k a
 | .agg l => indsB k l
 | .tup l => indsB k l
 | _ => true
def indsB (k : Nat) : List AV → Bool
 | [] => true
 | a :: l => (match indB k a with | true => indsB k l | false => false)
end
structure SubX (k : Nat) (ρ σ : Map) : Prop where
 m : ∀ i p, i ≠ k → ρ i = some p → σ i = some p
 F : ∀ (b j : Nat) (x : Value), (ρ.F b)[j]? = some x → (σ.F b)[j]? = some x
 V : ∀ (j n : Nat) (v : Value), ρ.V j n = some v → σ.V j n = some v
theorem SubX.d {k : Nat} {ρ σ : Map} (h : SubX k ρ σ) : Sub ρ.d σ.d := ⟨(fun _ _ e => by cases e), h.F, (fun _ _ _ e => by cases e)⟩
theorem SubX.fz {k : Nat} {ρ σ : Map} (h : SubX k ρ σ) {B o : Nat} {L : List Value} (q : Fz ρ B o L) : Fz σ B o L := fun j x e => h.F B _ x (q j x e)
theorem nb {i k : Nat} (h : (!Nat.beq i k) = true) : i ≠ k := fun e => by subst e; simp at h
mutual
theorem ind_ok {k : Nat} {ρ σ : Map} (s : SubX k ρ σ) : ∀ (a : AV) {v : Value}, indB k a = true → VR ρ a v → VR σ a v
 | .bad, _, _, _ => by simp [VR]
 | .bool b, _, _, q => by simpa [VR] using q
 | .int _ _, _, _, q => by simpa [VR] using q
 | .str l, _, _, q => by simpa [VR] using q
 | .nilptr, _, _, q => by simpa [VR] using q
 | .ptr i o, v, h, q => by
  simp only [indB] at h
  simp only [VR] at q ⊢
  obtain ⟨B, N, e, r⟩ := q; exact ⟨B, N, s.m i _ (nb h) e, r⟩
 | .nilsl, _, _, q => by simpa [VR] using q
 | .sl i o l c z, v, h, q => by
  simp only [indB] at h
  simp only [VR] at q ⊢
  obtain ⟨B, N, C, e, r⟩ := q; exact ⟨B, N, C, s.m i _ (nb h) e, r⟩
 | .esl i, v, h, q => by
  simp only [indB] at h
  simp only [VR] at q ⊢
  obtain ⟨B, N, o, C, e, r⟩ := q; exact ⟨B, N, o, C, s.m i _ (nb h) e, r⟩
 | .nilmp, _, _, q => by simpa [VR] using q
 | .mp i, v, h, q => by
  simp only [indB] at h
  simp only [VR] at q ⊢
  obtain ⟨B, N, e, r⟩ := q; exact ⟨B, N, s.m i _ (nb h) e, r⟩
 | .nilfn, _, _, q => by simpa [VR] using q
 | .fn f a b, v, h, q => by
  have h' := h
  simp only [indB] at h'
  split at h'
  ·rename_i hf
   split at h'
   ·rename_i ha
    simp only [VR] at q ⊢
    obtain ⟨f', F, C, e1, e2, e3, e4⟩ := q
    refine ⟨f', F, C, ?_, inds_ok s a ha e2, inds_ok s b h' e3, e4⟩
    cases f <;> simp only [FR] at e1 ⊢
    all_goals first | exact e1 | (obtain ⟨B, N, e, r⟩ := e1; exact ⟨B, N, s.m _ _ (nb hf) e, r⟩)
   ·cases h'
  ·cases h'
 | .nilifc, _, _, q => by simpa [VR] using q
 | .ifc t a, v, h, q => by
  simp only [indB] at h
  simp only [VR] at q ⊢
  obtain ⟨x, e, r⟩ := q; exact ⟨x, ind_ok s a h e, r⟩
 | .agg l, v, h, q => by
  simp only [indB] at h
  simp only [VR] at q ⊢
  obtain ⟨x, e, r⟩ := q; exact ⟨x, inds_ok s l h e, r⟩
 | .tup l, v, h, q => by
  simp only [indB] at h
  simp only [VR] at q ⊢
  obtain ⟨x, e, r⟩ := q; exact ⟨x, inds_ok s l h e, r⟩
 | .gptr g o, _, _, q => by simpa [VR] using q
 | .anyb, _, _, q => by simpa [VR] using q
 | .big n, _, _, q => by simpa [VR] using q
 | .low n, _, _, q => by simpa [VR] using q
 | .anyi, _, _, q => by simpa [VR] using q
 | .rsl n z l, v, h, q => by
  simp only [VR] at q ⊢
  obtain ⟨h0, q | ⟨B, o, C, L, e1, e2, e3, e4⟩⟩ := q
  ·exact ⟨h0, .inl q⟩
  ·exact ⟨h0, .inr ⟨B, o, C, L, e1, e2, VRs.mono s.d l e3, s.fz e4⟩⟩
 | .rptr l, v, h, q => by
  simp only [VR] at q ⊢
  obtain ⟨B, o, L, e1, e3, e4⟩ := q
  exact ⟨B, o, L, e1, VRs.mono s.d l e3, s.fz e4⟩
 | .csl, _, _, q => by simpa [VR] using q
 | .own i n z, v, h, q => by simp only [VR] at q ⊢; exact ⟨s.V _ _ _ q.1, q.2⟩
 | .optr i n o, v, h, q => by
  simp only [VR] at q ⊢
  obtain ⟨B, C, e1, e2⟩ := q
  exact ⟨B, C, s.V _ _ _ e1, e2⟩
theorem inds_ok {k : Nat} {ρ σ : Map} (s : SubX k ρ σ) : ∀ (l : List AV) {L : List Value}, indsB k l = true → VRs ρ l L → VRs σ l L
 | [], _, _, q => by simpa [VRs] using q
 | a :: l, L, h, q => by
  have h' := h
  simp only [indsB] at h'
  split at h'
  ·rename_i ha
   simp only [VRs] at q ⊢
   obtain ⟨x, r, e1, e2, e3⟩ := q
   exact ⟨x, r, ind_ok s a ha e1, inds_ok s l h' e2, e3⟩
  ·cases h'
end
def ABInd (k : Nat) (b : AB) : Prop :=
 match b with
 | .none => True
 | .row r => ((List.range r.n).all fun j => indB k (r.get j)) = true
 | .loop l => ∃ lst, l.e = T.put und lst .leaf 0 ∧ indsB k lst = true ∧ l.defers ≠ k
 | .dfr _ => True
 | .arr _ _ _ _ => True
 | _ => False
theorem put_ind {k : Nat} : ∀ {lst : List AV}, indsB k lst = true → ∀ t, indB k ((T.put und lst (.leaf : T AV) 0).get und t) = true := fun {lst} h t => by
 rw [get_put]
 simp only [Nat.zero_le, if_true, Nat.sub_zero, get_leaf]
 have key : ∀ (l : List AV), indsB k l = true → ∀ (i : Nat) (a : AV), l[i]? = some a → indB k a = true := by
  intro l
  induction l with
  | nil => intro _ i a q; simp at q
  | cons x l ih =>
   intro h i a q
   simp only [indsB] at h
   split at h
   ·rename_i hx
    cases i with
    | zero => simp at q; subst q; exact hx
    | succ i => exact ih h i a (by simpa using q)
   ·cases h
 cases hq : lst[t]? with
 | none => rfl
 | some a => exact key lst h t a hq
theorem ABR.ind {k : Nat} {ρ σ : Map} (s : SubX k ρ σ) {b : AB} (hb : ABInd k b) {B N : Nat} {w : World} (h : ABR ρ b B N w) : ABR σ b B N w := by
 cases b with
 | none => trivial
 | row r =>
  refine ⟨h.1, h.2.1, h.2.2.1, fun j hj => ?_⟩
  obtain ⟨v, a, q⟩ := h.2.2.2 j hj
  exact ⟨v, a, ind_ok s _ (List.all_eq_true.1 hb j (List.mem_range.2 hj)) q⟩
 | loop l =>
  obtain ⟨lst, e1, e2, e3⟩ := hb
  obtain ⟨fn, tm, D, M, a, q, r⟩ := h
  refine ⟨fn, tm, D, M, a, ⟨q.1, fun t => ?_⟩, s.m _ _ e3 r⟩
  have := q.2 t
  rw [e1] at this ⊢
  exact ind_ok s _ (put_ind e2 t) this
 | dfr b => exact h
 | arr t z n l => exact RowOk.mono h s.d
 | map es c => exact hb.elim
 | sit l p => exact hb.elim
 | mit m a b c => exact hb.elim
 | gl r => exact hb.elim
def allN (n : Nat) (p : Nat → Prop) : Prop := match n with | 0 => True | n + 1 => p n ∧ allN n p
theorem allN_at {p : Nat → Prop} : ∀ {n i : Nat}, allN n p → i < n → p i
 | n + 1, i, h, hi => by
  by_cases e : i = n
  ·subst e; exact h.1
  ·exact allN_at h.2 (by omega)
def HInd (k : Nat) (h : Heap) : Prop := allN h.nxt fun i => i = k ∨ ABInd k (h.get i)
theorem HInd.at_ {k : Nat} {h : Heap} (q : HInd k h) (wf : WF h) {i : Nat} (hi : i ≠ k) : ABInd k (h.get i) := by
 by_cases e : i < h.nxt
 ·rcases allN_at q e with r | r
  ·exact absurd r hi
  ·exact r
 ·rw [wf.fresh i (by omega)]; trivial
def indL (k : Nat) : List (Nat × AV) → Bool
 | [] => true
 | (_, v) :: r => (match indB k v with | true => indL k r | false => false)
theorem indL_at {k : Nat} : ∀ {L : List (Nat × AV)}, indL k L = true → ∀ t v, lkO L t = some v → indB k v = true
 | [], _, t, v, q => by cases q
 | (s, u) :: r, h, t, v, q => by
  simp only [indL] at h
  split at h
  ·rename_i hu
   unfold lkO at q
   split at q
   ·cases q; exact hu
   ·exact indL_at h t v q
  ·cases h
theorem known_env {σ : Map} {tm : Array Value} {sz : Nat} {L : List (Nat × AV)} (hsz : tm.size = sz) (H : ∀ t v, lkO L t = some v → VR σ v (tm.getD t undef)) : ∃ e', Has e' L ∧ ER σ e' tm sz := by
 let E : T AV := T.put und ((List.range (sz + 1 + (L.map (·.1)).foldr max 0)).map fun t => (match lkO L t with | some v => v | none => .bad)) .leaf 0
 have hE : ∀ t v, lkO L t = some v → E.get und t = v := fun t v q => by
  have ht : t ≤ (L.map (·.1)).foldr max 0 := by
   clear hsz H E
   induction L with
   | nil => cases q
   | cons p r ih =>
    obtain ⟨s, u⟩ := p
    unfold lkO at q
    simp only [List.map_cons, List.foldr_cons]
    split at q
    ·rename_i hs; have := beqT hs; omega
    ·have := ih q; omega
  show (T.put und _ .leaf 0).get und t = v
  rw [get_put]
  simp only [Nat.zero_le, if_true, Nat.sub_zero]
  rw [List.getElem?_map, List.getElem?_range (by omega)]
  simp [q]
 have hB : ∀ t, lkO L t = none → E.get und t = .bad ∨ (sz < t ∧ E.get und t = und) := fun t q => by
  show (T.put und _ .leaf 0).get und t = .bad ∨ (sz < t ∧ (T.put und _ .leaf 0).get und t = und)
  rw [get_put]
  simp only [Nat.zero_le, if_true, Nat.sub_zero, get_leaf]
  by_cases ht : t < sz + 1 + (L.map (·.1)).foldr max 0
  ·left
   rw [List.getElem?_map, List.getElem?_range ht]
   simp [q]
  ·right
   rw [List.getElem?_eq_none (by simp; omega)]
   exact ⟨by omega, rfl⟩
 refine ⟨E, hE, hsz, fun t => ?_⟩
 cases hl : lkO L t with
 | some v =>
  rw [hE t v hl]
  exact H t v hl
 | none =>
  rcases hB t hl with q | ⟨q1, q2⟩
  ·rw [q]; simp [VR]
  ·rw [q2]
   have : tm.getD t undef = undef := by rw [Array.getD_eq_getD_getElem?, Array.getElem?_eq_none (by omega)]; rfl
   rw [this]; exact und_ok σ
/-! ## an array of one's own, turned -/
theorem WF.putArr {h : Heap} (wf : WF h) {i : Nat} {b b' : AB} (hb : h.get i = b) (h1 : b.isRow = false) (h2 : b' = .none ∨ b ≠ .none) (h3 : b'.isRow = false) : WF (h.put i b') := by
 have hg : ∀ j, j ≠ i → (h.put i b').get j = h.get j := fun j k => by rw [Heap.get_put, if_neg k]
 have hn : (h.put i b').get i = b' := by rw [Heap.get_put, if_pos rfl]
 refine ⟨fun j hj => ?_, fun j r q e1 e2 => ?_, fun j r q t e1 e2 e3 => ?_, wf.tipr⟩
 ·by_cases hj2 : j = i
  ·subst hj2
   rw [hn]
   rcases h2 with q | q
   ·exact q
   ·exact absurd (hb.symm.trans (wf.fresh j hj)) q
  ·rw [hg j hj2]; exact wf.fresh j hj
 ·by_cases hj : j = i
  ·subst hj; rw [hn] at e1; subst e1; simp [AB.isRow] at h3
  ·rw [hg j hj] at e1; exact wf.root j r q e1 e2
 ·by_cases hj : j = i
  ·subst hj; rw [hn] at e1; subst e1; simp [AB.isRow] at h3
  ·rw [hg j hj] at e1
   obtain ⟨s, a, c⟩ := wf.tip j r q t e1 e2 e3
   refine ⟨s, ?_, c⟩
   rw [hg t (fun k => by subst k; rw [hb] at a; subst a; simp [AB.isRow] at h1)]; exact a
theorem PI.setArr {X : Cx} {ρ : Map} {h : Heap} {w w' : World} (p : PI X ρ h w) {k : Nat} {ty z n n' : Nat} {l l' : List AV} (hk : h.get k = .arr ty z n l) (hi : HInd k h) (hG : indsB k X.gv = true) (hlt : n < n') (hlen : l'.length = n' * z)
  {B N C : Nat} (hC : n' ≤ C) (hN : C * z = N) (hrow : RowOk ρ.d ⟨ty, n' * z, .leaf, l', none⟩ B N w') (hs : Same w w')
  (hcase : ((∃ M, ρ k = some (B, M)) ∧ w'.heap.size = w.heap.size ∧ ∀ D, D ≠ B → w'.heap[D]? = w.heap[D]?) ∨ (B = w.heap.size ∧ w'.heap.size = w.heap.size + 1 ∧ ∀ D, D < w.heap.size → w'.heap[D]? = w.heap[D]?)) :
  ∃ ρ', PI X ρ' (h.put k (.arr ty z n' l')) w' ∧ SubX k ρ ρ' ∧ VR ρ' (.own k n' z) (.slice (some ⟨B, 0, none⟩) n' C) := by
 have hkn : k < h.nxt := by
  rcases Nat.lt_or_ge k h.nxt with q | q
  ·exact q
  ·rw [p.wf.fresh k q] at hk; cases hk
 have hok : h.ok k := by unfold Heap.ok; rw [hk]; trivial
 let ρ' : Map := ⟨fun i => if i = k then some (B, N) else ρ i, ρ.F, fun j q => if j = k ∧ q = n' then some (.slice (some ⟨B, 0, none⟩) n' C) else ρ.V j q⟩
 have m1 : ρ' k = some (B, N) := if_pos rfl
 have m2 : ∀ i, i ≠ k → ρ' i = ρ i := fun i q => if_neg q
 have v1 : ρ'.V k n' = some (.slice (some ⟨B, 0, none⟩) n' C) := if_pos ⟨rfl, rfl⟩
 have v2 : ∀ j q, ¬ (j = k ∧ q = n') → ρ'.V j q = ρ.V j q := fun j q a => if_neg a
 have sx : SubX k ρ ρ' := by
  refine ⟨fun i p' q e => by rw [m2 i q]; exact e, fun _ _ _ e => e, fun j q v e => ?_⟩
  by_cases hh : j = k ∧ q = n'
  ·obtain ⟨rfl, rfl⟩ := hh
   rw [p.vu j ty z n l hk q hlt] at e; cases e
  ·rw [v2 j q hh]; exact e
 have hg : ∀ j, j ≠ k → (h.put k (.arr ty z n' l')).get j = h.get j := fun j q => by rw [Heap.get_put, if_neg q]
 have ho : ∀ j, j ≠ k → ((h.put k (.arr ty z n' l')).ok j ↔ h.ok j) := fun j q => Heap.ok_same (hg j q) (fun _ _ _ _ => rfl)
 have hn : (h.put k (.arr ty z n' l')).get k = .arr ty z n' l' := by rw [Heap.get_put, if_pos rfl]
 have hsz : w.heap.size ≤ w'.heap.size := hs.size
 have other : ∀ j D M, j ≠ k → ρ j = some (D, M) → h.ok j → D ≠ B ∧ w'.heap[D]? = w.heap[D]? := fun j D M hj e q => by
  have hD := p.hr.lt j D M e
  rcases hcase with ⟨⟨M', a⟩, _, b⟩ | ⟨a, _, b⟩
  ·have hne : D ≠ B := fun ee => by
    subst ee
    obtain ⟨r, s, q', x, _⟩ := p.hr.inj k j D M' M (Ne.symm hj) a e hok q
    rw [hk] at x; cases x
   exact ⟨hne, b D hne⟩
  ·exact ⟨by omega, b D hD⟩
 have hFB : ρ.F B = [] := by
  rcases hcase with ⟨⟨M', a⟩, _, _⟩ | ⟨a, _, _⟩
  ·exact p.hr.F_row a hok (fun r => by rw [hk]; exact fun q => by cases q)
  ·exact Classical.byContradiction fun q => by have := p.hr.F_lt q; omega
 have hfz : ∀ D, D < w.heap.size → ρ.F D ≠ [] → w'.heap[D]? = w.heap[D]? := fun D hD q => by
  have hne : D ≠ B := fun e => q (e ▸ hFB)
  rcases hcase with ⟨_, _, b⟩ | ⟨_, _, b⟩
  ·exact b D hne
  ·exact b D hD
 have hBlt : B < w'.heap.size := by
  rcases hcase with ⟨⟨M', a⟩, b, _⟩ | ⟨a, b, _⟩
  ·rw [b]; exact p.hr.lt k B M' a
  ·omega
 have hBge : ¬ X.shut B := by
  rcases hcase with ⟨⟨M', a⟩, _, _⟩ | ⟨a, _, _⟩
  ·exact p.mine k B M' a
  ·intro q; have := q.1; have := p.ext.1.size; omega
 refine ⟨ρ', ⟨⟨?_, ?_, ?_, ?_, ?_, ?_, ?_⟩, p.wf.putArr hk rfl (.inr (by simp)) rfl, ⟨fun i hi => ?_, fun i r q => ?_⟩, fun i hi q => ?_, fun i t' z' m' l2 e q hq => ?_, ⟨p.ext.1.trans hs, fun b hb => ?_⟩, fun i D M e => ?_, p.sub, p.old, inds_ok sx _ hG p.keep, p.gh.go (fun t z m l2 e => ?_) hs (fun b hb hno => ?_) (fun i D M e o => ?_) (fun _ _ _ => rfl) (fun D M e => ?_) (fun D q => hfz D (p.hr.F_lt q) q) (fun _ _ _ e => e) (fun v e => sx.V _ _ _ e)⟩, sx, ?_⟩
 ·intro i D M e
  by_cases q : i = k
  ·subst q; rw [m1] at e; cases e; exact hBlt
  ·rw [m2 i q] at e; exact Nat.lt_of_lt_of_le (p.hr.lt i D M e) hsz
 ·intro i D M e q
  by_cases hik : i = k
  ·subst hik; rw [m1] at e; cases e; rw [hn]
   exact RowOk.mono hrow (Sub.refl _)
  ·rw [m2 i hik] at e
   rw [hg i hik]
   have q' := (ho i hik).1 q
   exact ((p.hr.ok i D M e q').block (other i D M hik e q').2).ind sx (hi.at_ p.wf hik)
 ·intro i j D M M' hij e1 e2 k1 k2
  by_cases hik : i = k
  ·subst hik; rw [m1] at e1; cases e1
   rw [m2 j (Ne.symm hij)] at e2
   exact absurd rfl (other j _ _ (Ne.symm hij) e2 ((ho j (Ne.symm hij)).1 k2)).1
  ·by_cases hjk : j = k
   ·subst hjk; rw [m1] at e2; cases e2
    rw [m2 i hik] at e1
    exact absurd rfl (other i _ _ hik e1 ((ho i hik).1 k1)).1
   ·rw [m2 i hik] at e1
    rw [m2 j hjk] at e2
    obtain ⟨r, s, q, a, b, c⟩ := p.hr.inj i j D M M' hij e1 e2 ((ho i hik).1 k1) ((ho j hjk).1 k2)
    exact ⟨r, s, q, by rw [hg i hik]; exact a, by rw [hg j hjk]; exact b, c⟩
 ·intro i r e
  by_cases hik : i = k
  ·subst hik; rw [hn] at e; cases e
  ·rw [hg i hik] at e
   obtain ⟨M, hM⟩ := p.hr.gl i r e
   exact ⟨M, by rw [m2 i hik]; exact hM⟩
 ·exact p.hr.fz_of hfz
 ·intro i D M e q
  by_cases hik : i = k
  ·subst hik; rw [m1] at e; cases e; exact .inl hFB
  ·rw [m2 i hik] at e
   rw [hg i hik]
   exact p.hr.sep i D M e ((ho i hik).1 q)
 ·intro i t' z' m' l2 e
  by_cases hik : i = k
  ·subst hik; rw [hn] at e; cases e
   exact ⟨hlen, .inr ⟨B, N, C, m1, v1, hC, hN⟩⟩
  ·rw [hg i hik] at e
   obtain ⟨h0, ⟨a, o, b⟩ | ⟨B2, N2, C2, e1, e2, e3⟩⟩ := p.hr.av i t' z' m' l2 e
   ·exact ⟨h0, .inl ⟨a, o, sx.V _ _ _ b⟩⟩
   ·exact ⟨h0, .inr ⟨B2, N2, C2, by rw [m2 i hik]; exact e1, sx.V _ _ _ e2, e3⟩⟩
 ·have hi' : h.nxt ≤ i := hi
  rw [m2 i (by omega)]; exact p.fr.1 i hi'
 ·have := p.fr.2 i r q
  rw [hg i (fun e => by subst e; rw [hk] at this; cases this)]; exact this
 ·have hi' : h.nxt ≤ i := hi
  rw [v2 i q (fun a => by omega)]; exact p.vf i hi' q
 ·by_cases hik : i = k
  ·subst hik; rw [hn] at e; cases e
   rw [v2 i q (fun a => by omega)]; exact p.vu i ty z n l hk q (by omega)
  ·rw [hg i hik] at e
   rw [v2 i q (fun a => hik a.1)]; exact p.vu i t' z' m' l2 e q hq
 ·have hbw := Nat.lt_of_lt_of_le hb.1 p.ext.1.size
  rcases hcase with ⟨_, _, c⟩ | ⟨_, _, c⟩
  ·rw [c b (fun e => hBge (e ▸ hb))]; exact p.ext.2 b hb
  ·rw [c b hbw]; exact p.ext.2 b hb
 ·by_cases q : i = k
  ·subst q; rw [m1] at e; cases e; exact hBge
  ·rw [m2 i q] at e; exact p.mine i D M e
 ·by_cases q : 0 = k
  ·subst q; rw [hn] at e; cases e; exact ⟨_, _, _, hk⟩
  ·rw [hg 0 q] at e; exact ⟨_, _, _, e⟩
 ·rcases hcase with ⟨⟨M', a⟩, _, c⟩ | ⟨_, _, c⟩
  ·exact c b (fun e => hno k M' (e ▸ a) hok)
  ·exact c b hb
 ·by_cases q : i = k
  ·subst q; rw [m1] at e; cases e
   rcases hcase with ⟨⟨M', a⟩, _, _⟩ | ⟨a, _, _⟩
   ·exact .inr ⟨i, M', a, hok⟩
   ·exact .inl (by omega)
  ·rw [m2 i q] at e; exact .inr ⟨i, M, e, (ho i q).1 o⟩
 ·by_cases q : 1 = k
  ·subst q; exact .inr hok
  ·exact .inl ⟨M, by rw [m2 1 q]; exact e⟩
 ·simp only [VR]
  exact ⟨v1, .inr ⟨B, C, rfl, hC⟩⟩
theorem append_own {X : Cx} {ρ : Map} {h : Heap} {w : World} (p : PI X ρ h w) {k : Nat} {el z n : Nat} {l : List AV} (hk : h.get k = .arr el z n l) (hi : HInd k h) (hG : indsB k X.gv = true) {S : Value} (hS : VR ρ (.own k n z) S)
  {P : Program} {ts : Array TypeId} {i : TypeInfo} {Z V : Value} {m : Nat} {news : List Value} (s : Src P w ts i Z V m news) (hz : i.size = z) {ty t : TypeId} (ht0 : ts[0]? = some t) (ht : P.underlying t = some (.slice el)) (hinfo : P.info? el = some i) (rest : List Value)
  {cs : List AV} (hcs : VRs ρ.d cs news) (ho : ∀ v ∈ news, v.oneCell' = true) (hm0 : m ≠ 0) (hsm : n + m ≤ 1000000) :
  ∃ y w' ρ', (Builtin.append_ ts ty (S :: V :: rest).toArray).run P w = .ok y w' ∧ PI X ρ' (h.put k (.arr el z (n + m) (l ++ cs))) w' ∧ SubX k ρ ρ' ∧ VR ρ' (.own k (n + m) z) y := by
 subst hz
 have hcl := hcs.length
 have hnl := s.len
 have hmul : (n + m) * i.size = n * i.size + m * i.size := Nat.add_mul _ _ _
 obtain ⟨hll, _⟩ := p.hr.av k el i.size n l hk
 have hlen : (l ++ cs).length = (n + m) * i.size := by rw [List.length_append, hll, hcl, hnl, hmul]
 have fresh : ∀ (base : Option Addr) (C : Nat) (L : List Value), VRs ρ.d l L → (Builtin.firstCells i.size n (.slice base n C)).run P w.drew = .ok L.toArray w.drew → C < n + m →
   ∃ y w' ρ', (Builtin.append_ ts ty (.slice base n C :: V :: rest).toArray).run P w = .ok y w' ∧ PI X ρ' (h.put k (.arr el i.size (n + m) (l ++ cs))) w' ∧ SubX k ρ ρ' ∧ VR ρ' (.own k (n + m) i.size) y := fun base C L hL hof hg => by
  have hrun := s.grow (ty := ty) ht0 ht hinfo base n C rest L hm0 hof hg hsm
  have hge := grownCap_ge w (n + m) C el
  generalize grownCap w (n + m) C el = G at hrun hge
  have l2 : L.length = n * i.size := by rw [← hL.length]; exact hll
  have hsz : (L.toArray ++ news.toArray ++ Builtin.zeroCells Z.cells (G - (n + m))).size = G * i.size := by
   rw [Array.size_append, zeroCells_size, s.zsize]
   have : (L.toArray ++ news.toArray).size = (n + m) * i.size := by simp [l2, hnl, hmul]
   rw [this, ← Nat.add_mul]; congr 1; omega
  have hGG : (n + m) * i.size ≤ G * i.size := Nat.mul_le_mul_right _ hge
  have hall : ∀ j, j < (L ++ news).length → (L.toArray ++ news.toArray ++ Builtin.zeroCells Z.cells (G - (n + m)))[j]? = (L ++ news)[j]? := fun j hj => by
   rw [Array.getElem?_append_left (by simpa using hj)]; simp
  generalize L.toArray ++ news.toArray ++ Builtin.zeroCells Z.cells (G - (n + m)) = CC at hrun hsz hall
  have hboth := hL.append hcs
  have hl4 : (L ++ news).length = (n + m) * i.size := by rw [← hboth.length]; exact hlen
  obtain ⟨ρ', q1, q2, q3⟩ := p.setArr hk hi hG (n' := n + m) (by omega) hlen (B := w.heap.size) (N := G * i.size) (C := G) hge rfl (w' := w.drew.alloc (.cells CC el)) (by
   refine ⟨?_, hGG, fun j hj => World.frozen?_alloc_at (w := w.drew) CC el _ j rfl, fun j hj => ?_⟩
   ·show (w.drew.alloc (.cells CC el)).shape? w.drew.heap.size = _
    unfold World.shape?; rw [alloc_at]; simp only [hsz]
   ·have hj' : j < (n + m) * i.size := hj
    have hcell : (w.drew.alloc (.cells CC el)).cell? ⟨w.heap.size, j, none⟩ = (L ++ news)[j]? := by
     rw [show (w.drew.alloc (.cells CC el)).cell? ⟨w.heap.size, j, none⟩ = CC[j]? from World.cell?_alloc_at (w := w.drew) CC el _ j rfl]; exact hall j (by omega)
    rw [hcell, Row.get_new, Nat.mod_eq_of_lt (by omega)]
    have h1 := List.getElem?_eq_getElem (l := l ++ cs) (i := j) (by omega)
    obtain ⟨x, x1, x2⟩ := hboth.at h1
    rw [h1]
    exact ⟨x, x1, x2⟩) ⟨rfl, rfl, rfl, by simp⟩ (.inr ⟨rfl, by simp, fun D hD => alloc_block w.drew _ hD⟩)
  exact ⟨_, _, ρ', hrun, q1, q2, q3⟩
 simp only [VR] at hS
 obtain ⟨hv, ⟨rfl, a0, rfl⟩ | ⟨B, C, rfl, hC⟩⟩ := hS
 ·have : l = [] := List.length_eq_zero_iff.1 (by omega)
  subst this
  exact fresh a0 0 [] (by simp [VRs]) (by cases a0 <;> simp [Builtin.firstCells, loadCells, loadCellsFrom]) (by omega)
 ·by_cases hroom : n + m ≤ C
  ·obtain ⟨N, h1, h2, h3, h4, h5, ro, L, l1, l3⟩ := p.hr.arrAt hk hv (.inr (by omega))
   have l2 : L.length = n * i.size := by rw [← l1.length]; exact h5
   have hNle : (n + m) * i.size ≤ N := by rw [← h4]; exact Nat.mul_le_mul_right _ hroom
   have c1 : ∀ j, j < news.length → (w.cell? ⟨B, n * i.size + j, none⟩).isSome = true := fun j hj => cell_some ro.1 (by omega)
   have c2 : ∀ j, j < news.length → w.frozen? ⟨B, n * i.size + j, none⟩ = false := fun j hj => ro.2.2.1 _ (by omega)
   have hst := run_storeCells_cells (P := P) B (n * i.size) news 0 w (by simpa using c1) (by simpa using c2) ho
   have hrun := s.room (ty := ty) ht0 ht hinfo (some ⟨B, 0, none⟩) n C rest hm0 hroom (w' := w.setCells B (n * i.size) news) (by
    show (storeCells ((⟨B, 0, none⟩ : Addr).add (n * i.size)) news).run P w = _
    rw [add_off, Nat.zero_add]; simpa using hst)
   obtain ⟨ρ', q1, q2, q3⟩ := p.setArr hk hi hG (n' := n + m) (by omega) hlen (B := B) (N := N) (C := C) hroom h4 (w' := w.setCells B (n * i.size) news) (by
    refine ⟨by rw [shape_setCells]; exact ro.1, hNle, fun j hj => by rw [World.frozen?_setCells]; exact ro.2.2.1 j hj, fun j hj => ?_⟩
    have hj' : j < (n + m) * i.size := hj
    rw [Row.get_new, Nat.mod_eq_of_lt (by omega)]
    by_cases hjr : j < n * i.size
    ·obtain ⟨x, x1, x2⟩ := ro.2.2.2 j hjr
     rw [Row.get_new, Nat.mod_eq_of_lt (by omega)] at x2
     refine ⟨x, ?_, by rw [List.getElem?_append_left (by omega)]; exact x2⟩
     rw [World.cell?_setCells_out B news (n * i.size) w ⟨B, j, none⟩ (fun _ _ => .inl hjr)]; exact x1
    ·have hkk : j - n * i.size < cs.length := by omega
     obtain ⟨x, x1, x2⟩ := hcs.at (List.getElem?_eq_getElem hkk)
     have := World.cell?_setCells_in B news (n * i.size) w c1 (j - n * i.size) (by omega)
     rw [show n * i.size + (j - n * i.size) = j by omega] at this
     refine ⟨_, this, ?_⟩
     have x3 : news[j - n * i.size] = x := by
      have := List.getElem?_eq_getElem (l := news) (i := j - n * i.size) (by omega)
      rw [x1] at this; exact (Option.some.inj this).symm
     rw [x3, List.getElem?_append_right (by omega), h5, List.getElem?_eq_getElem hkk]
     exact x2) (same_setCells _ _ _ _) (.inl ⟨⟨N, h1⟩, size_setCells _ _ _ _, fun D hD => heap_setCells_ne B D hD news (n * i.size) w⟩)
   exact ⟨_, _, ρ', hrun, q1, q2, q3⟩
  ·obtain ⟨L, l1, l3⟩ := p.hr.arrCells hk hv
   have l2 : L.length = n * i.size := by rw [← l1.length]; exact hll
   have hof := run_firstCells_some (P := P) w.drew i.size n ⟨B, 0, none⟩ n C L l2 (fun j u hj => by rw [add_off, Nat.zero_add]; exact l3 j u hj)
   exact fresh (some ⟨B, 0, none⟩) C L l1 hof (by omega)
end Go.Px
end
section
namespace Go.Px
def Chg (X : Cx) (sz : Nat) (rd : Option Nat) (L : List (Nat × AV)) (h : Heap) (L' : List (Nat × AV)) (h' : Heap) (m : List Nat) : Prop :=
 ∀ (ro : Option Nat) (ρ : Map) (w : World) (e : T AV) (a : Act), RoX X ρ rd ro → PI X ρ h w → ER ρ e a.tmps sz → Has e L → MRX X ρ m a.defers → ∃ ρ' e', RoX X ρ' rd ro ∧ PI X ρ' h' w ∧ ER ρ' e' a.tmps sz ∧ Has e' L' ∧ MRX X ρ' m a.defers
section
variable {X : Cx} {sz : Nat} {rd : Option Nat} {all : Array Oper} {rest : List Oper} {k : List It} {L L' : List (Nat × AV)} {h h' : Heap} {m : List Nat} {Q : Post}
theorem Ops.change (H : Chg X sz rd L h L' h' m) (n : Ops X sz rd all rest k L' h' m Q) : Ops X sz rd all rest k L h m Q := ⟨fun e he is his ro ρ w a Q' h1 h2 h3 h4 h5 => by
 obtain ⟨ρ', e', g1, g2, g3, g4, g5⟩ := H ro ρ w e a h1 h2 h3 he h4
 exact n.run e' g4 is his ro ρ' w a Q' g1 g2 g3 g5 h5⟩
theorem Go.change {c : Code} (H : Chg X sz rd L h L' h' m) (n : Go X sz rd (.code c :: k) L' h' m Q) : Go X sz rd (.code c :: k) L h m Q := ⟨fun e he ro ρ w a Q' h1 h2 h3 h4 h5 => by
 obtain ⟨ρ', e', g1, g2, g3, g4, g5⟩ := H ro ρ w e a h1 h2 h3 he h4
 have hn : Tri X sz rd c ⟨e', h', m⟩ (RunK X sz rd k Q) := n.run e' g4
 exact hn ro ρ' w a Q' g1 g2 g3 g5 h5⟩
theorem Go.changeL {c : Code} (H : Chg X sz rd L h L' h' m) (n : Go X sz rd (.lp c :: k) L' h' m Q) : Go X sz rd (.lp c :: k) L h m Q := ⟨fun e he ro ρ w a Q' h1 h2 h3 h4 h5 => by
 obtain ⟨ρ', e', g1, g2, g3, g4, g5⟩ := H ro ρ w e a h1 h2 h3 he h4
 have hn : LoopIn X sz rd c ⟨e', h', m⟩ (RunK X sz rd k Q) := n.run e' g4
 exact hn ro ρ' w a Q' g1 g2 g3 g5 h5⟩
end
/-! ## a new array of one's own, out of nil -/
theorem PI.tokV {X : Cx} {ρ : Map} {h : Heap} {w : World} (p : PI X ρ h w) (ty z : Nat) {v0 : Value} {a0 : Option Addr} (hv0 : v0 = .slice a0 0 0) (hz : X.g = none ∨ Nat.ble 1 h.nxt = true) : ∃ ρ', PI X ρ' (h.new (.arr ty z 0 [])) w ∧ Sub ρ ρ' ∧ ρ'.V h.nxt 0 = some v0 ∧ ρ'.m = ρ.m ∧ ρ'.F = ρ.F := by
 let ρ' : Map := ⟨ρ.m, ρ.F, fun j q => if j = h.nxt ∧ q = 0 then some v0 else ρ.V j q⟩
 have v1 : ρ'.V h.nxt 0 = some v0 := if_pos ⟨rfl, rfl⟩
 have v2 : ∀ j q, ¬ (j = h.nxt ∧ q = 0) → ρ'.V j q = ρ.V j q := fun j q a => if_neg a
 have hs : Sub ρ ρ' := ⟨fun _ _ e => e, fun _ _ _ e => e, fun j q v e => by
  by_cases hh : j = h.nxt ∧ q = 0
  ·rw [hh.1, p.vf h.nxt (Nat.le_refl _)] at e; cases e
  ·rw [v2 j q hh]; exact e⟩
 have hg : ∀ j, j ≠ h.nxt → (h.new (.arr ty z 0 [])).get j = h.get j := fun j q => by rw [Heap.get_new, if_neg q]
 have hn : (h.new (.arr ty z 0 [])).get h.nxt = .arr ty z 0 [] := by rw [Heap.get_new, if_pos rfl]
 have ho : ∀ j, j ≠ h.nxt → ((h.new (.arr ty z 0 [])).ok j ↔ h.ok j) := fun j q => Heap.ok_same (hg j q) (fun _ _ _ _ => rfl)
 have hne : ∀ i B N, ρ i = some (B, N) → i ≠ h.nxt := fun i B N e q => by rw [q, p.fr.1 h.nxt (Nat.le_refl _)] at e; cases e
 refine ⟨ρ', ⟨⟨p.hr.lt, fun i B N e q => ?_, fun i j B N M hij e1 e2 k1 k2 => ?_, fun i r q => ?_, p.hr.fz, fun i B N e q => ?_, fun i t' z' n l q => ?_⟩, ⟨fun i hi => ?_, fun i r q e1 e2 => ?_, fun i r q t e1 e2 e3 => ?_, fun q hq => p.wf.tipr q (Nat.le_of_succ_le hq)⟩, ⟨fun i hi => p.fr.1 i (Nat.le_of_succ_le hi), fun i r q => ?_⟩, fun i hi n => ?_, fun i t' z' n l q m' hm => ?_, p.ext, p.mine, p.sub, p.old, p.keep.mono hs, hz.elim (fun q G e => by rw [q] at e; cases e) fun q => p.gh.go (fun t z n l e => by rw [hg 0 (by have := bleT q; omega)] at e; exact ⟨_, _, _, e⟩) (Same.refl w) (fun _ _ _ => rfl) (fun i B N e o => .inr ⟨i, N, e, (ho i (hne i B N e)).1 o⟩) (fun _ _ _ => rfl) (fun B N e => .inl ⟨N, e⟩) (fun _ _ => rfl) (fun _ _ _ e => e) (fun v e => hs.V _ _ _ e)⟩, hs, v1, rfl, rfl⟩
 ·have hi := hne i B N e
  rw [hg i hi]; exact (p.hr.ok i B N e ((ho i hi).1 q)).mono hs
 ·have hi := hne i B N e1
  have hj := hne j B M e2
  obtain ⟨r, s, q, a, b, c⟩ := p.hr.inj i j B N M hij e1 e2 ((ho i hi).1 k1) ((ho j hj).1 k2)
  exact ⟨r, s, q, by rw [hg i hi]; exact a, by rw [hg j hj]; exact b, c⟩
 ·by_cases hi : i = h.nxt
  ·subst hi; rw [hn] at q; cases q
  ·rw [hg i hi] at q; exact p.hr.gl i r q
 ·have hi := hne i B N e
  rw [hg i hi]; exact p.hr.sep i B N e ((ho i hi).1 q)
 ·by_cases hi : i = h.nxt
  ·subst hi; rw [hn] at q; cases q
   exact ⟨by simp, .inl ⟨rfl, a0, v1.trans (by rw [hv0])⟩⟩
  ·rw [hg i hi] at q; exact (p.hr.av i t' z' n l q).mono hs
 ·have hi' : h.nxt + 1 ≤ i := hi
  rw [hg i (by omega)]; exact p.wf.fresh i (by omega)
 ·by_cases hi : i = h.nxt
  ·subst hi; rw [hn] at e1; cases e1
  ·rw [hg i hi] at e1; exact Nat.lt_succ_of_lt (p.wf.root i r q e1 e2)
 ·by_cases hi : i = h.nxt
  ·subst hi; rw [hn] at e1; cases e1
  ·rw [hg i hi] at e1
   obtain ⟨s, a, c⟩ := p.wf.tip i r q t e1 e2 e3
   exact ⟨s, by rw [hg t (fun k => by subst k; rw [p.wf.fresh _ (Nat.le_refl _)] at a; cases a)]; exact a, c⟩
 ·have := p.fr.2 i r q
  rw [hg i (fun k => by subst k; rw [p.wf.fresh _ (Nat.le_refl _)] at this; cases this)]; exact this
 ·have hi' : h.nxt + 1 ≤ i := hi
  rw [v2 i n (fun a => by omega)]; exact p.vf i (by omega) n
 ·by_cases hi : i = h.nxt
  ·subst hi; rw [hn] at q; cases q
   rw [v2 _ m' (fun a => by omega)]; exact p.vf _ (Nat.le_refl _) m'
  ·rw [hg i hi] at q
   rw [v2 i m' (fun a => hi a.1)]; exact p.vu i t' z' n l q m' hm
def noRoom : AV → Bool
 | .nilsl => true
 | .csl => true
 | _ => false
theorem noRoom_at {ρ : Map} {u : AV} (hu : noRoom u = true) {v : Value} (h : VR ρ u v) : ∃ a, v = .slice a 0 0 := by
 cases u <;> simp only [noRoom] at hu <;> first | (cases hu; done) | skip
 ·simp only [VR] at h; exact ⟨_, h⟩
 ·simp only [VR] at h
  rcases h with rfl | ⟨a, rfl⟩ <;> exact ⟨_, rfl⟩
theorem Chg.tokU {X : Cx} {sz : Nat} {rd : Option Nat} {L : List (Nat × AV)} {h : Heap} {m : List Nat} (t : Nat) (ty z : Nat) {u : AV} (hu : noRoom u = true) (hl : lkO L t = some u) (hz : X.g = none ∨ Nat.ble 1 h.nxt = true := by first | exact .inl rfl | exact .inr rfl) : Chg X sz rd L h ((t, .own h.nxt 0 z) :: L) (h.new (.arr ty z 0 [])) m := fun ro ρ w e a h1 p h3 he h4 => by
 have hx := h3.2 t
 rw [he t _ hl] at hx
 obtain ⟨a0, ha⟩ := noRoom_at hu hx
 obtain ⟨ρ', p', hs, v1, _, _⟩ := p.tokV ty z ha hz
 refine ⟨ρ', e.set und t (.own h.nxt 0 z), h1.mono hs, p', ⟨h3.1, fun s => ?_⟩, he.set t _, h4.mono hs⟩
 rw [get_set]
 by_cases hst : s = t
 ·subst hst
  rw [if_pos rfl]
  simp only [VR]
  exact ⟨v1, .inl ⟨trivial, _, ha⟩⟩
 ·rw [if_neg hst]; exact (h3.2 s).mono hs
theorem Chg.tok {X : Cx} {sz : Nat} {rd : Option Nat} {L : List (Nat × AV)} {h : Heap} {m : List Nat} (t : Nat) (ty z : Nat) (hl : lkO L t = some .nilsl) (hz : X.g = none ∨ Nat.ble 1 h.nxt = true := by first | exact .inl rfl | exact .inr rfl) : Chg X sz rd L h ((t, .own h.nxt 0 z) :: L) (h.new (.arr ty z 0 [])) m := Chg.tokU t ty z rfl hl hz
/-! ## nobody writes it any more -/
theorem PI.frzArr {X : Cx} {ρ : Map} {h : Heap} {w : World} (p : PI X ρ h w) {id ty z n : Nat} {l : List AV} (hg0 : h.get id = .arr ty z n l) (hi : HInd id h) (hG : indsB id X.gv = true) : ∃ ρ', PI X ρ' (h.put id .none) w ∧ SubX id ρ ρ' ∧ (∀ i, i ≠ id → ρ' i = ρ i) ∧ (∀ S, VR ρ (.own id n z) S → VR ρ' (.rsl n z l) S) ∧ ρ'.V = ρ.V := by
 obtain ⟨hlen, hcase⟩ := p.hr.av id ty z n l hg0
 have key : ∃ (F : Nat → List Value), (∀ (b j : Nat) (x : Value), (ρ.F b)[j]? = some x → (F b)[j]? = some x) ∧ (∀ b, (∀ M, ρ id ≠ some (b, M)) → F b = ρ.F b) ∧ FzW F w ∧ ∀ S, VR ρ (.own id n z) S → VR ⟨fun _ => none, F, fun _ _ => none⟩ (.rsl n z l) S := by
  rcases hcase with ⟨rfl, o0, hv⟩ | ⟨B, N, C, e1, e2, e3, e4⟩
  ·refine ⟨ρ.F, fun _ _ _ e => e, fun _ _ => rfl, p.hr.fz, fun S hS => ?_⟩
   have : l = [] := List.length_eq_zero_iff.1 (by omega)
   subst this
   simp only [VR] at hS
   rw [hv] at hS
   obtain ⟨q, _⟩ := hS
   cases q
   simp only [VR]
   refine ⟨by simp, .inl ⟨trivial, ?_⟩⟩
   cases o0 with
   | none => exact .inl rfl
   | some a => exact .inr ⟨a, 0, rfl⟩
  by_cases hn0 : n = 0
  ·subst hn0
   refine ⟨ρ.F, fun _ _ _ e => e, fun _ _ => rfl, p.hr.fz, fun S hS => ?_⟩
   have : l = [] := List.length_eq_zero_iff.1 (by omega)
   subst this
   simp only [VR] at hS
   rw [e2] at hS
   obtain ⟨q, _⟩ := hS
   cases q
   simp only [VR]
   exact ⟨by simp, .inl ⟨trivial, .inr ⟨_, _, rfl⟩⟩⟩
  ·obtain ⟨N', h5, h6, h7, h8, h9, ro', L0, l1, l3⟩ := p.hr.arrAt hg0 e2 (.inl hn0)
   have hFB : ρ.F B = [] := p.hr.F_row e1 (by unfold Heap.ok; rw [hg0]; trivial) (fun r => by rw [hg0]; exact fun q => by cases q)
   have g1 : ∀ b, b ≠ B → (fun b => if b = B then L0 else ρ.F b) b = ρ.F b := fun b q => if_neg q
   have g2 : (fun b => if b = B then L0 else ρ.F b) B = L0 := if_pos rfl
   refine ⟨fun b => if b = B then L0 else ρ.F b, fun b j x q => ?_, fun b q => g1 b (fun e => q N (e ▸ e1)), fun b j x q => ?_, fun S hS => ?_⟩
   ·by_cases hb : b = B
    ·subst hb; rw [hFB] at q; simp at q
    ·rw [g1 b hb]; exact q
   ·by_cases hb : b = B
    ·subst hb; rw [g2] at q; exact l3 j x q
    ·rw [g1 b hb] at q; exact p.hr.fz b j x q
   ·simp only [VR] at hS
    rw [e2] at hS
    obtain ⟨q, _⟩ := hS
    cases q
    simp only [VR]
    refine ⟨hlen, .inr ⟨B, 0, C, L0, rfl, e3, ?_, fun j x q => ?_⟩⟩
    ·refine VRs.mono (ρ := ρ.d) ⟨(fun _ _ e => by cases e), fun b j x q => ?_, (fun _ _ _ e => by cases e)⟩ l l1
     show ((fun b => if b = B then L0 else ρ.F b) b)[j]? = some x
     by_cases hb : b = B
     ·subst hb
      have q' : (ρ.F b)[j]? = some x := q
      rw [hFB] at q'; simp at q'
     ·rw [g1 b hb]; exact q
    ·show ((fun b => if b = B then L0 else ρ.F b) B)[0 + j]? = some x
     rw [g2, Nat.zero_add]; exact q
 obtain ⟨F, f1, f2, f3, f4⟩ := key
 let ρ' : Map := ⟨fun i => if i = id then none else ρ i, F, ρ.V⟩
 have m1 : ρ' id = none := if_pos rfl
 have m2 : ∀ i, i ≠ id → ρ' i = ρ i := fun i q => if_neg q
 have sx : SubX id ρ ρ' := ⟨fun i p' q e => by rw [m2 i q]; exact e, f1, fun _ _ _ e => e⟩
 have hg : ∀ j, j ≠ id → (h.put id .none).get j = h.get j := fun j q => by rw [Heap.get_put, if_neg q]
 have hn : (h.put id .none).get id = .none := by rw [Heap.get_put, if_pos rfl]
 have ho : ∀ j, j ≠ id → ((h.put id .none).ok j ↔ h.ok j) := fun j q => Heap.ok_same (hg j q) (fun _ _ _ _ => rfl)
 have hne : ∀ i B N, ρ' i = some (B, N) → i ≠ id ∧ ρ i = some (B, N) := fun i B N e => by
  by_cases q : i = id
  ·subst q; rw [m1] at e; cases e
  ·rw [m2 i q] at e; exact ⟨q, e⟩
 have hpi : PI X ρ' (h.put id .none) w := by
  refine ⟨⟨fun i B N e => p.hr.lt i B N (hne i B N e).2, fun i B N e q => ?_, fun i j B N M hij e1 e2 k1 k2 => ?_, fun i r q => ?_, f3, fun i B N e q => ?_, fun i t' z' n' l' q => ?_⟩, p.wf.putArr hg0 rfl (.inl rfl) rfl, ⟨fun i hi => ?_, fun i r q => ?_⟩, p.vf, fun i t' z' n' l' q m' hm' => ?_, p.ext, fun i B N e => p.mine i B N (hne i B N e).2, fun b j x e => f1 b j x (p.sub b j x e), fun b hb => ?_, inds_ok sx _ hG p.keep, p.gh.go (fun t' z' n' l' q => ?_) (Same.refl w) (fun _ _ _ => rfl) (fun i B N e q => ?_) (fun b hb hno => f2 b fun M ee => hno id M ee (by unfold Heap.ok; rw [hg0]; trivial)) (fun B N e => ?_) (fun _ _ => rfl) f1 (fun _ e => e)⟩
  ·obtain ⟨hi', e'⟩ := hne i B N e
   rw [hg i hi']; exact (p.hr.ok i B N e' ((ho i hi').1 q)).ind sx (hi.at_ p.wf hi')
  ·obtain ⟨hi', e1'⟩ := hne i B N e1
   obtain ⟨hj', e2'⟩ := hne j B M e2
   obtain ⟨r, s, q, a, b, c⟩ := p.hr.inj i j B N M hij e1' e2' ((ho i hi').1 k1) ((ho j hj').1 k2)
   exact ⟨r, s, q, by rw [hg i hi']; exact a, by rw [hg j hj']; exact b, c⟩
  ·by_cases hi' : i = id
   ·subst hi'; rw [hn] at q; cases q
   ·rw [hg i hi'] at q
    obtain ⟨N, hN⟩ := p.hr.gl i r q
    exact ⟨N, by rw [m2 i hi']; exact hN⟩
  ·obtain ⟨hi', e'⟩ := hne i B N e
   rw [hg i hi']
   have q' := (ho i hi').1 q
   show F B = [] ∨ _
   rw [f2 B (fun M ee => ?_)]
   ·exact p.hr.sep i B N e' q'
   ·obtain ⟨r, s, q'', x, _⟩ := p.hr.inj id i B M N (Ne.symm hi') ee e' (by unfold Heap.ok; rw [hg0]; trivial) q'
    rw [hg0] at x; cases x
  ·by_cases hi' : i = id
   ·subst hi'; rw [hn] at q; cases q
   ·rw [hg i hi'] at q
    obtain ⟨a1, ⟨a, b⟩ | ⟨B2, N2, C2, e1, e2⟩⟩ := p.hr.av i t' z' n' l' q
    ·exact ⟨a1, .inl ⟨a, b⟩⟩
    ·exact ⟨a1, .inr ⟨B2, N2, C2, by rw [m2 i hi']; exact e1, e2⟩⟩
  ·by_cases hi' : i = id
   ·subst hi'; exact m1
   ·rw [m2 i hi']; exact p.fr.1 i hi
  ·have := p.fr.2 i r q
   rw [hg i (fun k => by subst k; rw [hg0] at this; cases this)]; exact this
  ·by_cases hi' : i = id
   ·subst hi'; rw [hn] at q; cases q
   ·rw [hg i hi'] at q; exact p.vu i t' z' n' l' q m' hm'
  ·show F b = _
   rw [f2 b (fun M ee => p.mine id b M ee hb)]; exact p.old b hb
  ·by_cases hi' : 0 = id
   ·subst hi'; rw [hn] at q; cases q
   ·rw [hg 0 hi'] at q; exact ⟨_, _, _, q⟩
  ·obtain ⟨hi', e'⟩ := hne i B N e
   exact .inr ⟨i, N, e', (ho i hi').1 q⟩
  ·by_cases hi' : 1 = id
   ·subst hi'; exact .inr (by unfold Heap.ok; rw [hg0]; trivial)
   ·exact .inl ⟨N, by rw [m2 1 hi']; exact e⟩
 exact ⟨ρ', hpi, sx, m2, fun S hS => VR.mono (ρ := ⟨fun _ => none, F, fun _ _ => none⟩) ⟨(fun _ _ e => by cases e), fun _ _ _ e => e, (fun _ _ _ e => by cases e)⟩ _ (f4 S hS), rfl⟩
theorem Chg.frz {X : Cx} {sz : Nat} {rd : Option Nat} {L : List (Nat × AV)} {h : Heap} {m : List Nat} (t : Nat) {id ty z n : Nat} {l : List AV} (hl : lkO L t = some (.own id n z)) (hg0 : h.get id = .arr ty z n l) (hi : HInd id h) (hL : indL id L = true)
  (hm : (m.all fun i => !Nat.beq i id) = true) (hrd : rd ≠ some id) (hG : indsB id X.gv = true := by rfl) : Chg X sz rd L h ((t, .rsl n z l) :: L) (h.put id .none) m := fun ro ρ w e a h1 p h3 he h4 => by
 obtain ⟨ρ', hpi, sx, m2, f4, _⟩ := p.frzArr hg0 hi hG
 obtain ⟨e', he', er'⟩ := known_env (σ := ρ') (L := (t, .rsl n z l) :: L) (tm := a.tmps) (sz := sz) h3.1 (fun s v q => by
  unfold lkO at q
  split at q
  ·rename_i hs
   have hs := beqT hs
   cases q
   subst hs
   have := h3.2 s
   rw [he s _ hl] at this
   exact f4 _ this
  ·have := h3.2 s
   rw [he s _ q] at this
   exact ind_ok sx v (indL_at hL s v q) this)
 refine ⟨ρ', e', ?_, hpi, er', he', ?_⟩
 ·cases rd with
  | none => exact h1
  | some r =>
   obtain ⟨B, N, q1, q2⟩ := h1
   exact ⟨B, N, by rw [m2 r (fun e => hrd (by rw [e]))]; exact q1, q2⟩
 ·have hmr : ∀ {m : List Nat} {D : List Deferred}, (m.all fun i => !Nat.beq i id) = true → MR ρ m D → MR ρ' m D := by
   intro m
   induction m with
   | nil => intro D _ q; exact q
   | cons d m ih =>
    intro D hh q
    simp only [List.all_cons, Bool.and_eq_true] at hh
    obtain ⟨B, N, r, q1, q2, q3⟩ := q
    exact ⟨B, N, r, by rw [m2 d (nb hh.1)]; exact q1, ih hh.2 q2, q3⟩
  obtain ⟨D1, h5, h6⟩ := h4
  exact ⟨D1, hmr hm h5, h6⟩
end Go.Px
end
section
namespace Go.Px
/-! ## what is no more needed -/
mutual
def lowB (n : Nat) : AV → Bool
 | .ptr i _ => Nat.ble (i + 1) n
 | .sl i _ _ _ _ => Nat.ble (i + 1) n
 | .esl i => Nat.ble (i + 1) n
 | .mp i => Nat.ble (i + 1) n
 | .own i _ _ => Nat.ble (i + 1) n
 | .optr i _ _ => Nat.ble (i + 1) n
 | .fn f a b => (match (match f with | .yield l => Nat.ble (l + 1) n | _ => true) with | true => (match lowsB n a with | true => lowsB n b | false => false) | false => false)
 | .ifc _ a => lowB n a
 | .agg l => lowsB n l
 | .tup l => lowsB n l
 | _ => true
def lowsB (n : Nat) : List AV → Bool
 | [] => true
 | a :: l => (match lowB n a with | true => lowsB n l | false => false)
end
def cutN (ρ : Map) (n : Nat) : Map := ⟨fun i => if i < n then ρ i else none, ρ.F, fun k q => if k < n then ρ.V k q else none⟩
theorem cutN_m {ρ : Map} {n i : Nat} (h : i < n) : cutN ρ n i = ρ i := if_pos h
theorem cutN_n {ρ : Map} {n i : Nat} (h : ¬ i < n) : cutN ρ n i = none := if_neg h
theorem cutN_V {ρ : Map} {n i : Nat} (h : i < n) (q : Nat) : (cutN ρ n).V i q = ρ.V i q := if_pos h
mutual
theorem low_ok {n : Nat} {ρ : Map} : ∀ (a : AV) {v : Value}, lowB n a = true → VR ρ a v → VR (cutN ρ n) a v
 | .bad, _, _, _ => by simp [VR]
 | .bool b, _, _, q => by simpa [VR] using q
 | .int _ _, _, _, q => by simpa [VR] using q
 | .str l, _, _, q => by simpa [VR] using q
 | .nilptr, _, _, q => by simpa [VR] using q
 | .ptr i o, v, h, q => by
  simp only [lowB] at h
  simp only [VR] at q ⊢
  obtain ⟨B, N, e, r⟩ := q; exact ⟨B, N, by rw [cutN_m (bleT h)]; exact e, r⟩
 | .nilsl, _, _, q => by simpa [VR] using q
 | .sl i o l c z, v, h, q => by
  simp only [lowB] at h
  simp only [VR] at q ⊢
  obtain ⟨B, N, C, e, r⟩ := q; exact ⟨B, N, C, by rw [cutN_m (bleT h)]; exact e, r⟩
 | .esl i, v, h, q => by
  simp only [lowB] at h
  simp only [VR] at q ⊢
  obtain ⟨B, N, o, C, e, r⟩ := q; exact ⟨B, N, o, C, by rw [cutN_m (bleT h)]; exact e, r⟩
 | .nilmp, _, _, q => by simpa [VR] using q
 | .mp i, v, h, q => by
  simp only [lowB] at h
  simp only [VR] at q ⊢
  obtain ⟨B, N, e, r⟩ := q; exact ⟨B, N, by rw [cutN_m (bleT h)]; exact e, r⟩
 | .nilfn, _, _, q => by simpa [VR] using q
 | .fn f a b, v, h, q => by
  have h' := h
  simp only [lowB] at h'
  split at h'
  ·rename_i hf
   split at h'
   ·rename_i ha
    simp only [VR] at q ⊢
    obtain ⟨f', F, C, e1, e2, e3, e4⟩ := q
    refine ⟨f', F, C, ?_, lows_ok a ha e2, lows_ok b h' e3, e4⟩
    cases f <;> simp only [FR] at e1 ⊢
    all_goals first | exact e1 | (obtain ⟨B, N, e, r⟩ := e1; exact ⟨B, N, by rw [cutN_m (bleT hf)]; exact e, r⟩)
   ·cases h'
  ·cases h'
 | .nilifc, _, _, q => by simpa [VR] using q
 | .ifc t a, v, h, q => by
  simp only [lowB] at h
  simp only [VR] at q ⊢
  obtain ⟨x, e, r⟩ := q; exact ⟨x, low_ok a h e, r⟩
 | .agg l, v, h, q => by
  simp only [lowB] at h
  simp only [VR] at q ⊢
  obtain ⟨x, e, r⟩ := q; exact ⟨x, lows_ok l h e, r⟩
 | .tup l, v, h, q => by
  simp only [lowB] at h
  simp only [VR] at q ⊢
  obtain ⟨x, e, r⟩ := q; exact ⟨x, lows_ok l h e, r⟩
 | .gptr g o, _, _, q => by simpa [VR] using q
 | .anyb, _, _, q => by simpa [VR] using q
 | .big n, _, _, q => by simpa [VR] using q
 | .low n, _, _, q => by simpa [VR] using q
 | .anyi, _, _, q => by simpa [VR] using q
 | .rsl n z l, v, h, q => by simp only [VR] at q ⊢; exact q
 | .rptr l, v, h, q => by simp only [VR] at q ⊢; exact q
 | .csl, _, _, q => by simpa [VR] using q
 | .own i m z, v, h, q => by
  simp only [lowB] at h
  simp only [VR] at q ⊢; exact ⟨by rw [cutN_V (bleT h)]; exact q.1, q.2⟩
 | .optr i m o, v, h, q => by
  simp only [lowB] at h
  simp only [VR] at q ⊢
  obtain ⟨B, C, e1, e2⟩ := q
  exact ⟨B, C, by rw [cutN_V (bleT h)]; exact e1, e2⟩
theorem lows_ok {n : Nat} {ρ : Map} : ∀ (l : List AV) {L : List Value}, lowsB n l = true → VRs ρ l L → VRs (cutN ρ n) l L
 | [], _, _, q => by simpa [VRs] using q
 | a :: l, L, h, q => by
  have h' := h
  simp only [lowsB] at h'
  split at h'
  ·rename_i ha
   simp only [VRs] at q ⊢
   obtain ⟨x, r, e1, e2, e3⟩ := q
   exact ⟨x, r, low_ok a ha e1, lows_ok l h' e2, e3⟩
  ·cases h'
end
def lowL (n : Nat) : List (Nat × AV) → Bool
 | [] => true
 | (_, v) :: r => (match lowB n v with | true => lowL n r | false => false)
theorem lowL_at {n : Nat} : ∀ {L : List (Nat × AV)}, lowL n L = true → ∀ t v, lkO L t = some v → lowB n v = true
 | [], _, t, v, q => by cases q
 | (s, u) :: r, h, t, v, q => by
  simp only [lowL] at h
  split at h
  ·rename_i hu
   unfold lkO at q
   split at q
   ·cases q; exact hu
   ·exact lowL_at h t v q
  ·cases h
def ABLow (n : Nat) (b : AB) : Prop :=
 match b with
 | .none => True
 | .row r => r.root = none ∧ ((List.range r.n).all fun j => lowB n (r.get j)) = true
 | .loop l => ∃ lst, l.e = T.put und lst .leaf 0 ∧ lowsB n lst = true ∧ l.defers < n
 | .dfr _ => True
 | .arr _ _ _ _ => True
 | _ => False
theorem put_low {n : Nat} {lst : List AV} (h : lowsB n lst = true) (t : Nat) : lowB n ((T.put und lst (.leaf : T AV) 0).get und t) = true := by
 rw [get_put]
 simp only [Nat.zero_le, if_true, Nat.sub_zero, get_leaf]
 have key : ∀ (l : List AV), lowsB n l = true → ∀ (i : Nat) (a : AV), l[i]? = some a → lowB n a = true := by
  intro l
  induction l with
  | nil => intro _ i a q; simp at q
  | cons x l ih =>
   intro h i a q
   simp only [lowsB] at h
   split at h
   ·rename_i hx
    cases i with
    | zero => simp at q; subst q; exact hx
    | succ i => exact ih h i a (by simpa using q)
   ·cases h
 cases hq : lst[t]? with
 | none => rfl
 | some a => exact key lst h t a hq
theorem ABR.low {n : Nat} {ρ : Map} {b : AB} (hb : ABLow n b) {B N : Nat} {w : World} (h : ABR ρ b B N w) : ABR (cutN ρ n) b B N w := by
 cases b with
 | none => trivial
 | row r =>
  refine ⟨h.1, h.2.1, h.2.2.1, fun j hj => ?_⟩
  obtain ⟨v, a, q⟩ := h.2.2.2 j hj
  exact ⟨v, a, low_ok _ (List.all_eq_true.1 hb.2 j (List.mem_range.2 hj)) q⟩
 | loop l =>
  obtain ⟨lst, e1, e2, e3⟩ := hb
  obtain ⟨fn, tm, D, M, a, q, r⟩ := h
  refine ⟨fn, tm, D, M, a, ⟨q.1, fun t => ?_⟩, by rw [cutN_m e3]; exact r⟩
  have := q.2 t
  rw [e1] at this ⊢
  exact low_ok _ (put_low e2 t) this
 | dfr b => exact h
 | arr t z m l => exact h
 | map es c => exact hb.elim
 | sit l p => exact hb.elim
 | mit m a b c => exact hb.elim
 | gl r => exact hb.elim
noncomputable def hp (bs : List AB) : Heap := ⟨bs.length, T.put .none bs .leaf 0, .leaf, []⟩
theorem hp_get (bs : List AB) (i : Nat) : (hp bs).get i = (bs[i]?).getD .none := by
 show (T.put AB.none bs .leaf 0).get .none i = _
 rw [get_put]
 simp
def getsP (h : Heap) : List AB → Nat → Prop
 | [], _ => True
 | b :: r, i => (b = .none ∨ h.get i = b) ∧ getsP h r (i + 1)
def lowsP (n : Nat) : List AB → Prop
 | [] => True
 | b :: r => ABLow n b ∧ lowsP n r
theorem getsP_at {h : Heap} : ∀ {bs : List AB} {i : Nat}, getsP h bs i → ∀ (j : Nat) (b : AB), bs[j]? = some b → b = .none ∨ h.get (i + j) = b
 | [], i, _, j, b, q => by simp at q
 | x :: r, i, g, j, b, q => by
  cases j with
  | zero => simp at q; subst q; exact g.1
  | succ j =>
   have := getsP_at g.2 j b (by simpa using q)
   rwa [show i + 1 + j = i + (j + 1) by omega] at this
theorem lowsP_at {n : Nat} : ∀ {bs : List AB}, lowsP n bs → ∀ (j : Nat) (b : AB), bs[j]? = some b → ABLow n b
 | [], _, j, b, q => by simp at q
 | x :: r, g, j, b, q => by
  cases j with
  | zero => simp at q; subst q; exact g.1
  | succ j => exact lowsP_at g.2 j b (by simpa using q)
def rdLow (n : Nat) (rd : Option Nat) : Bool := match rd with | some r => Nat.ble (r + 1) n | none => true
theorem PI.cutP {X : Cx} {ρ : Map} {h : Heap} {w : World} (p : PI X ρ h w) (bs : List AB) (hg : ∀ i r, X.c.g0.get i ≠ .gl r) (hn : Nat.ble bs.length h.nxt = true) (hb : getsP h bs 0) (hbl : lowsP bs.length bs) (hG : lowsB bs.length X.gv = true) (hz : X.g = none ∨ Nat.ble 2 bs.length = true) : PI X (cutN ρ bs.length) (hp bs) w := by
 have hn := bleT hn
 have gl : ∀ i b, (hp bs).get i = b → b ≠ .none → i < bs.length ∧ h.get i = b ∧ ABLow bs.length b := fun i b q hne => by
  rw [hp_get] at q
  cases hbi : bs[i]? with
  | none => rw [hbi] at q; exact absurd q.symm hne
  | some b' =>
   rw [hbi] at q
   simp at q
   subst q
   have hi := (List.getElem?_eq_some_iff.1 hbi).1
   rcases getsP_at hb i b' hbi with r | r
   ·exact absurd r hne
   ·rw [Nat.zero_add] at r; exact ⟨hi, r, lowsP_at hbl i b' hbi⟩
 have hok : ∀ i, (hp bs).ok i → ∃ b, (hp bs).get i = b ∧ b ≠ .none ∧ i < bs.length ∧ h.get i = b ∧ ABLow bs.length b ∧ h.ok i := fun i o => by
  have hne : (hp bs).get i ≠ .none := fun q => by unfold Heap.ok at o; rw [q] at o; exact o
  obtain ⟨q1, q2, q3⟩ := gl i _ rfl hne
  refine ⟨_, rfl, hne, q1, q2, q3, ?_⟩
  unfold Heap.ok
  rw [q2]
  cases hh : (hp bs).get i with
  | none => exact absurd hh hne
  | row r =>
   rw [hh] at q3
   simp only []
   rw [Heap.row_of (q2.trans hh), q3.1]; rfl
  | _ => trivial
 have hcut : ∀ i p', cutN ρ bs.length i = some p' → i < bs.length ∧ ρ i = some p' := fun i p' q => by
  by_cases hi : i < bs.length
  ·rw [cutN_m hi] at q; exact ⟨hi, q⟩
  ·rw [cutN_n hi] at q; cases q
 refine ⟨⟨fun i B N q => p.hr.lt i B N (hcut i _ q).2, fun i B N q o => ?_, fun i j B N M hij q1 q2 o1 o2 => ?_, fun i r q => ?_, p.hr.fz, fun i B N q o => ?_, fun i t z n l q => ?_⟩, ⟨fun i hi => ?_, fun i r q a b => ?_, fun i r q t a b => ?_, fun q _ => rfl⟩, ⟨fun i hi => cutN_n (show ¬ i < bs.length from Nat.not_lt.2 hi), fun i r q => absurd q (hg i r)⟩, fun i hi n => if_neg (show ¬ i < bs.length from Nat.not_lt.2 hi), fun i t z n l q m' hm' => ?_, p.ext, fun i B N q => p.mine i B N (hcut i _ q).2, p.sub, p.old, lows_ok _ hG p.keep, hz.elim (fun q G e => by rw [q] at e; cases e) fun hz => p.gh.go (fun t z n l q => ⟨_, _, _, (gl 0 _ q (by simp)).2.1⟩) (Same.refl w) (fun _ _ _ => rfl) (fun i B N q o => ?_) (fun _ _ _ => rfl) (fun B N q => .inl ⟨N, by rw [cutN_m (bleT hz)]; exact q⟩) (fun _ _ => rfl) (fun _ _ _ e => e) (fun v q => by rw [cutN_V (Nat.lt_trans Nat.zero_lt_one (bleT hz))]; exact q)⟩
 ·obtain ⟨b, g1, g2, g3, g4, g5, g6⟩ := hok i o
  have := p.hr.ok i B N (hcut i _ q).2 g6
  rw [g4] at this
  rw [g1]; exact this.low g5
 ·obtain ⟨b, g1, g2, g3, g4, g5, g6⟩ := hok i o1
  obtain ⟨b', g1', g2', g3', g4', g5', g6'⟩ := hok j o2
  obtain ⟨r, s, q, x, y, z, _⟩ := p.hr.inj i j B N M hij (hcut i _ q1).2 (hcut j _ q2).2 g6 g6'
  rw [g4] at x
  subst x
  rw [g5.1] at z; cases z
 ·obtain ⟨_, _, q3⟩ := gl i _ q (by simp)
  exact q3.elim
 ·obtain ⟨b, g1, g2, g3, g4, g5, g6⟩ := hok i o
  rcases p.hr.sep i B N (hcut i _ q).2 g6 with r | ⟨r, r'⟩
  ·exact .inl r
  ·rw [g4] at r'; subst r'; exact g5.elim
 ·obtain ⟨q1, q2, _⟩ := gl i _ q (by simp)
  obtain ⟨h0, ⟨x, o, y⟩ | ⟨B, N, C, y, z', u⟩⟩ := p.hr.av i t z n l q2
  ·exact ⟨h0, .inl ⟨x, o, by rw [cutN_V q1]; exact y⟩⟩
  ·exact ⟨h0, .inr ⟨B, N, C, by rw [cutN_m q1]; exact y, by rw [cutN_V q1]; exact z', u⟩⟩
 ·have hi' : bs.length ≤ i := hi
  rw [hp_get, List.getElem?_eq_none hi']; rfl
 ·obtain ⟨_, _, q3⟩ := gl i _ a (by simp)
  rw [q3.1] at b; cases b
 ·obtain ⟨_, _, q3⟩ := gl i _ a (by simp)
  rw [q3.1] at b; cases b
 ·obtain ⟨q1, q2, _⟩ := gl i _ q (by simp)
  rw [cutN_V q1]; exact p.vu i t z n l q2 m' hm'
 ·obtain ⟨b, g1, g2, g3, g4, g5, g6⟩ := hok i o
  exact .inr ⟨i, N, (hcut i _ q).2, g6⟩
theorem Chg.cut {X : Cx} {sz : Nat} {rd : Option Nat} {L L' : List (Nat × AV)} {h : Heap} {m : List Nat} (bs : List AB) (hg : ∀ i r, X.c.g0.get i ≠ .gl r) (hs : SubL L L') (hlow : lowL bs.length L' = true) (hn : Nat.ble bs.length h.nxt = true) (hb : getsP h bs 0) (hbl : lowsP bs.length bs)
  (hm : (m.all fun i => Nat.ble (i + 1) bs.length) = true) (hrd : rdLow bs.length rd = true) (hG : lowsB bs.length X.gv = true := by rfl) (hz : X.g = none ∨ Nat.ble 2 bs.length = true := by first | exact .inl rfl | exact .inr rfl) : Chg X sz rd L h L' (hp bs) m := fun ro ρ w e a h1 p h3 he h4 => by
 have hpi := p.cutP bs hg hn hb hbl hG hz
 obtain ⟨e', he', er'⟩ := known_env (σ := cutN ρ bs.length) (L := L') (tm := a.tmps) (sz := sz) h3.1 (fun s v q => by
  have := h3.2 s
  rw [he s v (hs.lk q)] at this
  exact low_ok v (lowL_at hlow s v q) this)
 refine ⟨_, e', ?_, hpi, er', he', ?_⟩
 ·cases rd with
  | none => exact h1
  | some r =>
   obtain ⟨B, N, q1, q2⟩ := h1
   exact ⟨B, N, by rw [cutN_m (bleT (show Nat.ble (r + 1) bs.length = true from hrd))]; exact q1, q2⟩
 ·have hmr : ∀ {m : List Nat} {D : List Deferred}, (m.all fun i => Nat.ble (i + 1) bs.length) = true → MR ρ m D → MR (cutN ρ bs.length) m D := by
   intro m
   induction m with
   | nil => intro D _ q; exact q
   | cons d m ih =>
    intro D hh q
    simp only [List.all_cons, Bool.and_eq_true] at hh
    obtain ⟨B, N, r, q1, q2, q3⟩ := q
    exact ⟨B, N, r, by rw [cutN_m (bleT hh.1)]; exact q1, ih hh.2 q2, q3⟩
  obtain ⟨D1, h5, h6⟩ := h4
  exact ⟨D1, hmr hm h5, h6⟩
theorem Go.toC {X : Cx} {sz : Nat} {rd : Option Nat} {k : List It} {L L' : List (Nat × AV)} {h : Heap} {m : List Nat} {Q : Post} {c : Code} {bs : List AB} (g : Go X sz rd (.lp c :: k) L' (hp bs) m Q) (hg : ∀ i r, X.c.g0.get i ≠ .gl r) (hs : SubL L L') (hlow : lowL bs.length L' = true) (hn : Nat.ble bs.length h.nxt = true) (hb : getsP h bs 0) (hbl : lowsP bs.length bs)
  (hm : (m.all fun i => Nat.ble (i + 1) bs.length) = true) (hrd : rdLow bs.length rd = true) (hG : lowsB bs.length X.gv = true := by rfl) (hz : X.g = none ∨ Nat.ble 2 bs.length = true := by first | exact .inl rfl | exact .inr rfl) : Go X sz rd (.lp c :: k) L h m Q :=
 Go.changeL (Chg.cut bs hg hs hlow hn hb hbl hm hrd hG hz) g
theorem Go.toH {X : Cx} {sz : Nat} {rd : Option Nat} {k : List It} {L L' : List (Nat × AV)} {h : Heap} {m : List Nat} {Q : Post} {c : Code} {bs : List AB} (g : Go X sz rd (.code c :: k) L' (hp bs) m Q) (hg : ∀ i r, X.c.g0.get i ≠ .gl r) (hs : SubL L L') (hlow : lowL bs.length L' = true) (hn : Nat.ble bs.length h.nxt = true) (hb : getsP h bs 0) (hbl : lowsP bs.length bs)
  (hm : (m.all fun i => Nat.ble (i + 1) bs.length) = true) (hrd : rdLow bs.length rd = true) (hG : lowsB bs.length X.gv = true := by rfl) (hz : X.g = none ∨ Nat.ble 2 bs.length = true := by first | exact .inl rfl | exact .inr rfl) : Go X sz rd (.code c :: k) L h m Q :=
 Go.change (Chg.cut bs hg hs hlow hn hb hbl hm hrd hG hz) g
end Go.Px
end
section
namespace Go.Px
theorem ones_flat {α : Type} {enc : α → List AV} (he : ∀ a, ones (enc a) = true) : ∀ l : List α, ones (l.flatMap enc) = true
 | [] => rfl
 | a :: l => by
  have happ : ∀ x y : List AV, ones x = true → ones y = true → ones (x ++ y) = true := by
   intro x y hx hy
   induction x with
   | nil => exact hy
   | cons v x ih =>
    have hx' : (match v.one with | true => ones x | false => false) = true := hx
    show (match v.one with | true => ones (x ++ y) | false => false) = true
    split at hx'
    ·exact ih hx'
    ·cases hx'
  rw [List.flatMap_cons]
  exact happ _ _ (he a) (ones_flat he l)
def rdNot (id : Nat) (rd : Option Nat) : Bool := match rd with | some r => !Nat.beq r id | none => true
section
variable {X : Cx} {tb : List (Nat × TE)} (E : Env X.c tb) {sz : Nat} {rd : Option Nat} {all : Array Oper} {o : Oper} {rest : List Oper} {k : List It} {L : List (Nat × AV)} {h : Heap} {m : List Nat} {Q : Post}
include E
theorem Ops.append {d : Nat} {cl : Call} {x y : Operand} {t t1 el id n z q : Nat} {l cs : List AV} {e e1 ee : TE} (hd : o.dst = some d) (hs : Nat.ble (d + 1) sz = true) (hw : Want all L o true) (ho : o.op = .call cl) (hc : cl.callee = .builtin .append) (ha : cl.args.toList = [x, y])
  (hts0 : nth1 cl.argTypes.toList 0 = some t) (hts1 : nth1 cl.argTypes.toList 1 = some t1) (hx : evL L x = some (.own id n z)) (hy : evL L y = some (.rsl q z cs)) (ht : lkT tb t = some e) (hk : e.k = .slice el) (hel : lkT tb el = some ee) (hz : Nat.beq ee.s z = true) (hz0 : Nat.beq z 0 = false) (hb : Nat.ble ee.b 1000 = true)
  (ht1 : lkT tb t1 = some e1) (hk1 : (match e1.k with | .slice _ => true | .str => true | _ => false) = true) (hg : h.get id = .arr el z n l) (hi : HInd id h) (hL : indL id L = true) (hm : (m.all fun i => !Nat.beq i id) = true) (hrd : rdNot id rd = true) (hG : indsB id X.gv = true)
  (hzz : (match ee.z with | .bad => false | v => Nat.beq v.cells.length ee.s) = true) (hones : ones cs = true) (hq : q ≠ 0) (hsm : n + q ≤ 1000000) (nx : Ops X sz rd all rest k ((d, .own id (n + q) z) :: L) (h.put id (.arr el z (n + q) (l ++ cs))) m Q) : Ops X sz rd all (o :: rest) k L h m Q := ⟨fun e0 he => by
 refine TriOps.cons (hw e0 he) (K := fun s' => RunK X sz rd k Q .normal s') ?_
 intro ro ρ w a next Q' h1 p h3 h4 h5
 refine ⟨fun _ _ => trivial, ?_⟩
 rw [show (wideR ro).round = ro from rfl, Oper.semAt_eq ro a.eval o (by rw [ho]; intro d q; cases q)]
 have hz := beqT hz
 have hS : VR ρ (.own id n z) (a.eval x) := by rw [← he.ev hx]; exact ev_ok h3 x
 have hY : VR ρ (.rsl q z cs) (a.eval y) := by rw [← he.ev hy]; exact ev_ok h3 y
 simp only [VR] at hY
 obtain ⟨hlen, ⟨h0, _⟩ | ⟨B, off, C, news, hYe, hC, hcs, hfz⟩⟩ := hY
 ·exact absurd h0 hq
 obtain ⟨ie, i1, i2, i3⟩ := (E.t el ee hel).si
 have hnb : ee.z ≠ .bad := fun q => by rw [q] at hzz; cases hzz
 have hzl : ee.z.cells.length = ee.s := by
  cases hv : ee.z <;> rw [hv] at hzz <;> first | (cases hzz; done) | exact beqT hzz
 have hzc : X.c.zcells el = some ee.z.cells := by
  unfold Ctx.zcells
  rw [(E.t el ee hel).z]
  cases hv : ee.z <;> first | exact absurd hv hnb | rfl
 obtain ⟨Z, z1, z2, z3⟩ := src_zero E.k i1 hzc (i2.trans hzl.symm) ρ
 have hu := under_eq E.k ((E.t t e ht).sl hk)
 obtain ⟨d1, u1, u2⟩ := (E.t t1 e1 ht1).kd
 have hu1 := under_eq E.k u1
 have hni : ∀ kk, d1 ≠ .int kk := fun kk qq => by
  subst qq
  rw [← u2] at hk1
  cases hk1
 rw [nth1_eq] at hts0 hts1
 have hnl : news.length = q * z := by rw [← hcs.length]; exact hlen
 have hsz : ie.size = z := i2.trans hz
 have src : Src X.c.P w cl.argTypes ie Z (.slice (some ⟨B, off, none⟩) q C) q news := ⟨.inl ⟨t1, d1, by simpa using hts1, hu1, hni, fun w' => by simp [Builtin.lenOf], fun w' hw' => by
   refine run_firstCells_some (P := X.c.P) w' ie.size q ⟨B, off, none⟩ q C news (by rw [hnl, hsz]) (fun j u hj => ?_)
   rw [add_off, show w'.cell? ⟨B, off + j, none⟩ = w.cell? ⟨B, off + j, none⟩ from by simp [World.cell?, hw']]
   exact p.hr.fz B _ u (hfz j u hj)⟩, by rw [hnl, hsz], z1, z2, by rw [hsz]; exact beqN hz0, by rw [i3]; exact bleT hb⟩
 obtain ⟨y', w', ρ', r1, r2, r3, r4⟩ := append_own p hg hi hG hS src hsz (ty := o.type) (by simpa using hts0) hu (E.k.tys _ _ i1) [] hcs (ones_ok hones hcs) hq hsm
 have hrun : (execOp a.eval o).run X.c.P w = .ok (.value y') w' := by
  obtain ⟨CS, hCS⟩ : ∃ CS, (execOp a.eval o).run X.c.P w = (builtin .append cl.argTypes o.type CS (cl.args.map a.eval)).run X.c.P w :=
   ⟨_, by simp only [execOp, ho, resolve, hc, Sem.run_bind, Sem.run_pure, Result.andThen_ok, invoke]; rfl⟩
  have hargs : cl.args.map a.eval = #[a.eval x, a.eval y] := by apply Array.ext'; simp [ha]
  rw [hCS, hargs, hYe]
  have r1' : (Builtin.append_ cl.argTypes o.type #[a.eval x, .slice (some ⟨B, off, none⟩) q C]).run X.c.P w = .ok y' w' := r1
  simp [builtin, r1']
 rw [hrun]
 have hL2 : indL id ((d, .own id (n + q) z) :: L) = true := by simp only [indL, indB]; exact hL
 obtain ⟨e', he', er'⟩ := known_env (σ := ρ') (L := L) (tm := a.tmps) (sz := sz) h3.1 (fun s v qq => by
  have := h3.2 s
  rw [he s v qq] at this
  exact ind_ok r3 v (indL_at hL s v qq) this)
 refine h5 (.own id (n + q) z) ⟨e', h.put id (.arr el z (n + q) (l ++ cs)), m⟩ y' w' ρ' ⟨e'.set und d (.own id (n + q) z), by rw [hd]; exact setD_some hs, nx.run _ (he'.set d _)⟩ ?_ r2 er' ?_ r4
 ·cases rd with
  | none => exact h1
  | some r =>
   obtain ⟨B', N', q1, q2⟩ := h1
   exact ⟨B', N', r3.m r _ (nb (show (!Nat.beq r id) = true from hrd)) q1, q2⟩
 ·have hmr : ∀ {m : List Nat} {D : List Deferred}, (m.all fun i => !Nat.beq i id) = true → MR ρ m D → MR ρ' m D := by
   intro m
   induction m with
   | nil => intro D _ q; exact q
   | cons d m ih =>
    intro D hh q
    simp only [List.all_cons, Bool.and_eq_true] at hh
    obtain ⟨B, N, r, q1, q2, q3⟩ := q
    exact ⟨B, N, r, r3.m d _ (nb hh.1) q1, ih hh.2 q2, q3⟩
  obtain ⟨D1, h5, h6⟩ := h4
  exact ⟨D1, hmr hm h5, h6⟩⟩
theorem Ops.data {d len z : Nat} {cap : Option Nat} {cs : List AV} {ty : TypeId} (hd : o.dst = some d) (hs : Nat.ble (d + 1) sz = true) (hw : Want all L o true) (hcl : cls X.c o.op = .alloc) (hop : Hop X L h o (.sl h.nxt 0 len cap z) (newRow h ty cs.length .leaf cs)) (hlen : cs.length = len * z) (hdt : datsB cs = true)
  (nx : Ops X sz rd all rest k ((d, .rsl len z cs) :: L) h m Q) : Ops X sz rd all (o :: rest) k L h m Q := ⟨fun e0 he => by
 refine TriOps.cons (hw e0 he) (K := fun s' => RunK X sz rd k Q .normal s') ?_
 intro ro ρ w a next Q' h1 p h3 h4 h5
 refine ⟨fun _ _ => trivial, ?_⟩
 have hopA := hop e0 he
 rw [show (wideR ro).round = ro from rfl, Oper.semAt_eq ro a.eval o (opA_defer hopA)]
 obtain ⟨b, b1, b2, b3, b4⟩ := alloc_spec hcl hopA
 have hbe : b = .row ⟨ty, cs.length, .leaf, cs, none⟩ := by
  have h7 : (newRow h ty cs.length .leaf cs).get h.nxt = (h.new b).get h.nxt := by rw [b1]
  rw [show newRow h ty cs.length .leaf cs = h.new (.row ⟨ty, cs.length, .leaf, cs, none⟩) from rfl, Heap.get_new, Heap.get_new, if_pos rfl, if_pos rfl] at h7
  exact h7.symm
 subst hbe
 have hbr : HR ρ (bare h.nxt) w := bare_hr h.nxt p.hr.lt p.hr.fz
 obtain ⟨nx', w', ρ1, q1, q2, q3⟩ := opA_ok E.k hbr (bare_wf _) (fun i a b => p.fr.1 i a) h3 (b4 (bare h.nxt) rfl)
 have hblk : ∀ B, B < w.heap.size → w'.heap[B]? = w.heap[B]? := fun B hB => q2.frame B hB (fun i N _ => bare_no _ i)
 have hFo : ∀ B, B < w.heap.size → ρ1.F B = ρ.F B := fun B hB => q2.fold B hB (fun i N _ => bare_no _ i)
 have hgetn : ((bare h.nxt).new (.row ⟨ty, cs.length, .leaf, cs, none⟩)).get h.nxt = .row ⟨ty, cs.length, .leaf, cs, none⟩ := by
  have := Heap.get_new (bare h.nxt) h.nxt (.row ⟨ty, cs.length, .leaf, cs, none⟩)
  rw [this]; exact if_pos rfl
 have hokn : ((bare h.nxt).new (.row ⟨ty, cs.length, .leaf, cs, none⟩)).ok h.nxt := by
  unfold Heap.ok; rw [hgetn]; simp only []; rw [Heap.row_of hgetn]; rfl
 rcases q3 with ⟨S, rfl, q3⟩ | ⟨_, q3⟩
 ·simp only [VR] at q3
  obtain ⟨B, N, C, e1, rfl, hC, _, _⟩ := q3
  have hro := q2.hr.ok h.nxt B N e1 hokn
  rw [hgetn] at hro
  have hro : RowOk ρ1 ⟨ty, cs.length, .leaf, cs, none⟩ B N w' := hro
  obtain ⟨L0, l1, l2, l3⟩ := RowOk.reads hro cs.length 0 (by simp)
  rw [read_whole ty cs cs.length rfl] at l1
  have hFB : ρ1.F B = [] := q2.hr.F_row e1 hokn (fun r => by rw [hgetn]; exact fun q => by cases q)
  have hBge : w.heap.size ≤ B := by
   rcases q2.newb h.nxt B N e1 (p.fr.1 _ (Nat.le_refl _)) with r | ⟨j, M, _, r⟩
   ·exact r
   ·exact absurd r (bare_no _ j)
  have g1 : ∀ b, b ≠ B → (fun b => if b = B then L0 else ρ1.F b) b = ρ1.F b := fun b q => if_neg q
  have g2 : (fun b => if b = B then L0 else ρ1.F b) B = L0 := if_pos rfl
  have f1 : ∀ (b j : Nat) (x : Value), (ρ1.F b)[j]? = some x → ((fun b => if b = B then L0 else ρ1.F b) b)[j]? = some x := fun b j x q => by
   by_cases hb : b = B
   ·subst hb; rw [hFB] at q; simp at q
   ·rw [g1 b hb]; exact q
  have f0 : ∀ (b j : Nat) (x : Value), (ρ.F b)[j]? = some x → ((fun b => if b = B then L0 else ρ1.F b) b)[j]? = some x := fun b j x q => f1 b j x (q2.sub.F b j x q)
  have f3 : FzW (fun b => if b = B then L0 else ρ1.F b) w' := fun b j x q => by
   by_cases hb : b = B
   ·subst hb; rw [g2] at q
    have := l3 j x q; rwa [Nat.zero_add] at this
   ·rw [g1 b hb] at q; exact q2.hr.fz b j x q
  have hsub : Sub ρ ⟨ρ.m, fun b => if b = B then L0 else ρ1.F b, ρ.V⟩ := ⟨fun _ _ e => e, f0, fun _ _ _ e => e⟩
  have hpi := p.frz ⟨q2.same, hblk⟩ f0 (fun b hb => (g1 b (by omega)).trans (hFo b hb)) f3
  rw [q1]
  refine h5 (.rsl len z cs) ⟨e0, h, m⟩ _ w' _ ⟨e0.set und d (.rsl len z cs), by rw [hd]; exact setD_some hs, nx.run _ (he.set d _)⟩ (h1.mono hsub) hpi (h3.mono hsub) (h4.mono hsub) ?_
  simp only [VR]
  refine ⟨hlen, .inr ⟨B, 0, C, L0, rfl, hC, ?_, fun j x q => ?_⟩⟩
  ·exact VRs.mono (ρ := ρ1.d) (σ := (⟨ρ.m, fun b => if b = B then L0 else ρ1.F b, ρ.V⟩ : Map).d) ⟨(fun _ _ e => by cases e), f1, (fun _ _ _ e => by cases e)⟩ cs (dats_ok cs hdt l1)
  ·show ((fun b => if b = B then L0 else ρ1.F b) B)[0 + j]? = some x
   rw [g2, Nat.zero_add]; exact q
 ·simp only [VR] at q3
  obtain ⟨B, N, C, e1, e2, _⟩ := q3
  cases e2⟩
omit E in
theorem Hop.box {t : Nat} {x : Operand} {v r : AV} {h' : Heap} (ho : o.op = .box t x) (hx : evL L x = some v) (hb : oBox h t v = some (r, h')) : Hop X L h o r h' := fun e' he => by
 rw [ho]; simp only [opA]; rw [he.ev hx, hb]; rfl
omit E in
theorem Hop.eqD {t u : Nat} {x y : Operand} {a b : AV} {r : Bool} (ho : o.op = .binOp .eql t x y u) (hx : evL L x = some a) (hy : evL L y = some b) (hn : (match a with | .int _ _ => false | .str _ => false | .nilifc => false | _ => true) = true) (hr : eqv X.c 6 t a b = some r) : Hop X L h o (.bool r) h := fun e' he => by
 rw [ho]; simp only [opA]; rw [he.ev hx, he.ev hy]
 cases a <;> first | (cases hn; done) | (simp only [oBinX, oBin, hr, val])
omit E in
theorem Hop.neD {t u : Nat} {x y : Operand} {a b : AV} {r : Bool} (ho : o.op = .binOp .neq t x y u) (hx : evL L x = some a) (hy : evL L y = some b) (hn : (match a with | .int _ _ => false | .str _ => false | .nilifc => false | _ => true) = true) (hr : eqv X.c 6 t a b = some r) : Hop X L h o (.bool (!r)) h := fun e' he => by
 rw [ho]; simp only [opA]; rw [he.ev hx, he.ev hy]
 cases a <;> first | (cases hn; done) | (simp only [oBinX, oBin, hr, val])
omit E in
theorem strEq_sA (a b : List UInt8) : strEq (a.map UInt8.toNat) (b.map UInt8.toNat) = bd (a = b) := by
 rw [strEq_eq, ← bd_dec]
 have h1 : ∀ l : List UInt8, (l.map UInt8.toNat).map UInt8.ofNat = l := fun l => by
  rw [List.map_map]
  have : (UInt8.ofNat ∘ UInt8.toNat) = id := by funext x; simp
  rw [this, List.map_id]
 rw [h1, h1]
 by_cases h : a = b <;> simp [h]
omit E in
theorem Hop.eqS {t u : Nat} {x y : Operand} {a b : List UInt8} (ho : o.op = .binOp .eql t x y u) (hx : evL L x = some (sA a)) (hy : evL L y = some (sA b)) : Hop X L h o (.bool (bd (a = b))) h := fun e' he => by
 rw [ho]; simp only [opA]; rw [he.ev hx, he.ev hy]
 simp only [sA, oBinX, oBin, strOp, strEq_sA, val]
omit E in
theorem Hop.neS {t u : Nat} {x y : Operand} {a b : List UInt8} (ho : o.op = .binOp .neq t x y u) (hx : evL L x = some (sA a)) (hy : evL L y = some (sA b)) : Hop X L h o (.bool (!bd (a = b))) h := fun e' he => by
 rw [ho]; simp only [opA]; rw [he.ev hx, he.ev hy]
 simp only [sA, oBinX, oBin, strOp, strEq_sA, val]
/-! ## values that are made -/
def partsL (L : List (Nat × AV)) : List (Nat × Operand) → Option (List (Nat × AV))
 | [] => some []
 | (i, x) :: r => (match evL L x with | some v => (match partsL L r with | some vs => some ((i, v) :: vs) | none => none) | none => none)
omit E in
theorem partsL_ok {e : T AV} (he : Has e L) : ∀ {l : List (Nat × Operand)} {vs : List (Nat × AV)}, partsL L l = some vs → l.map (fun p => (p.1, ev e p.2)) = vs
 | [], vs, q => by cases q; rfl
 | (i, x) :: r, vs, q => by
  unfold partsL at q
  split at q
  ·rename_i v hv
   split at q
   ·rename_i us hu
    cases q
    simp only [List.map_cons]
    rw [he.ev hv, partsL_ok he hu]
   ·cases q
  ·cases q
def plOf (tb : List (Nat × TE)) : List (Nat × Nat) → Option (List (Nat × Nat))
 | [] => some []
 | (off, t) :: r => (match lkT tb t with | some e => (match plOf tb r with | some ps => some ((off, e.s) :: ps) | none => none) | none => none)
theorem plOf_ok : ∀ {fs : List Field} {pl : List (Nat × Nat)}, plOf tb (fs.map fun f => (f.offset, f.type)) = some pl → placesA X.c fs = some pl
 | [], pl, q => by cases q; rfl
 | f :: fs, pl, q => by
  simp only [List.map_cons] at q
  unfold plOf at q
  split at q
  ·rename_i e he
   split at q
   ·rename_i ps hps
    cases q
    have h1 := plOf_ok hps
    show (match X.c.size f.type with | some s => (match placesA X.c fs with | some r => some ((f.offset, s) :: r) | none => none) | none => none) = _
    rw [(E.t _ e he).size, h1]
   ·cases q
  ·cases q
theorem Hop.build {t : Nat} {ps : Array (Nat × Operand)} {vals : List (Nat × AV)} {e : TE} {fl pl : List (Nat × Nat)} {z cs : List AV} (ho : o.op = .build t ps) (hps : partsL L ps.toList = some vals) (ht : lkT tb t = some e) (hk : e.k = .struct fl) (hz : e.z = .agg z) (hp : plOf tb fl = some pl) (hf : fillA (nth1 pl) vals z = some cs) :
  Hop X L h o (.agg cs) h := fun e' he => by
 obtain ⟨fs, h1, h2⟩ := (E.t t e ht).struct hk
 have h3 := (E.t t e ht).z
 rw [← h2] at hp
 have h4 := plOf_ok E hp
 have h5 : nth pl = nth1 pl := by funext i; rw [nth_eq, nth1_eq]
 rw [ho]; simp only [opA, parts]
 rw [partsL_ok he hps]
 simp only [oBuild, h3, hz, h1, h4, h5, hf, val]
theorem Hop.bslice {t el len : Nat} {ps : Array (Nat × Operand)} {vals : List (Nat × AV)} {e ee : TE} {cs zc : List AV} (ho : o.op = .buildSlice t len ps) (hps : partsL L ps.toList = some vals) (ht : lkT tb t = some e) (hk : e.k = .slice el) (hel : lkT tb el = some ee) (hl0 : Nat.beq len 0 = false)
  (hzc : (match ee.z with | .bad => none | v => some v.cells) = some zc) (hsz : Nat.beq ee.s zc.length = true) (h0 : Nat.beq (len * ee.s) 0 = false) (h6 : Nat.ble (len * ee.s) 1000000 = true) (hf : fillA (fun i => some (i * ee.s, ee.s)) vals (reps len zc) = some cs) : Hop X L h o (.sl h.nxt 0 len (some len) ee.s) (newRow h el cs.length .leaf cs) := fun e' he => by
 have h1 := (E.t t e ht).sl hk
 have h2 := (E.t el ee hel).size
 have h3 : X.c.zcells el = some zc := by
  unfold Ctx.zcells
  rw [(E.t el ee hel).z]
  cases hv : ee.z <;> rw [hv] at hzc <;> first | (cases hzc; done) | exact hzc
 rw [ho]; simp only [opA, parts]
 rw [partsL_ok he hps]
 simp only [oBuildSlice, h1, h2, hl0, h3, hsz, h0, h6, hf, valH]
theorem Hop.storeO {t : Nat} {x y : Operand} {id n off ty z : Nat} {v : AV} {l : List AV} {e : TE} (ho : o.op = .store t x y) (hx : evL L x = some (.optr id n off)) (hy : evL L y = some v) (ht : lkT tb t = some e) (hl : Nat.beq e.s v.cells.length = true) (hg : h.get id = .arr ty z n l) (h1 : ones v.cells = true) (h2 : datsB v.cells = true) (hb : off + v.cells.length ≤ l.length) (hz1 : Nat.ble 1 e.s = true := by rfl) :
  Hop X L h o und (h.put id (.arr ty z n (l.take off ++ v.cells ++ l.drop (off + v.cells.length)))) := fun e' he => by
 rw [ho]; simp only [opA]; rw [he.ev hx, he.ev hy]
 have hz2 : Nat.ble 1 v.cells.length = true := by rw [← beqT hl]; exact hz1
 simp only [oStore, (E.t t e ht).size, hl, wOwn, hg, Nat.beq_refl, h1, h2, hz2, Nat.ble_eq_true_of_le hb, unit]
end
end Go.Px
end
section
namespace Go.Px
def onceB : List (Nat × AV) → Bool
 | [] => true
 | (t, _) :: r => (match r.all fun p => !Nat.beq p.1 t with | true => onceB r | false => false)
theorem once_lk : ∀ {L : List (Nat × AV)}, onceB L = true → ∀ p ∈ L, lkO L p.1 = some p.2
 | [], _, p, h => by cases h
 | (t, v) :: r, h, p, hp => by
  simp only [onceB] at h
  split at h
  ·rename_i hr
   rw [List.all_eq_true] at hr
   unfold lkO
   rcases List.mem_cons.1 hp with rfl | hp
   ·simp only [Nat.beq_refl]
   ·have := hr p hp
    rw [beqF (nb this)]
    exact once_lk h p hp
  ·cases h
theorem lk_mem : ∀ {L : List (Nat × AV)} {t : Nat} {v : AV}, lkO L t = some v → (t, v) ∈ L
 | [], _, _, h => by cases h
 | (s, u) :: r, t, v, h => by
  unfold lkO at h
  split at h
  ·rename_i hs; cases h; rw [beqT hs]; exact List.mem_cons_self
  ·exact List.mem_cons_of_mem _ (lk_mem h)
def rdA (rd : Option Nat) : List AV := match rd with | some l => [.ptr l 0] | none => []
def held (L : List (Nat × AV)) (m : List Nat) (rd : Option Nat) : List AV := L.map (·.2) ++ (m.map (fun d => AV.ptr d 0) ++ rdA rd)
theorem held_in {X : Cx} {ρ : Map} {L : List (Nat × AV)} {m : List Nat} {rd ro : Option Nat} {e : T AV} {tm : Array Value} {sz : Nat} {D : List Deferred} (h1 : RoX X ρ rd ro) (er : ER ρ e tm sz) (he : Has e L) (ho : onceB L = true) (h4 : MRX X ρ m D) :
  ∃ gx, VRs ρ (held L m rd) gx ∧ ∀ σ, VRs σ (held L m rd) gx → RoX X σ rd ro ∧ MRX X σ m D ∧ ∀ t v, lkO L t = some v → VR σ v (tm.getD t undef) := by
 have s1 : VRs ρ (L.map (·.2)) (L.map fun p => tm.getD p.1 undef) := VRs.map _ _ L fun p hp => by
  have := er.2 p.1
  rwa [he p.1 p.2 (once_lk ho p hp)] at this
 have s2 : ∀ σ, VRs σ (L.map (·.2)) (L.map fun p => tm.getD p.1 undef) → ∀ t v, lkO L t = some v → VR σ v (tm.getD t undef) := fun σ q t v hl => by
  obtain ⟨i, hi⟩ := List.getElem?_of_mem (lk_mem hl)
  exact (VRs.iff.1 q).2 i v _ (by rw [List.getElem?_map, hi]; rfl) (by rw [List.getElem?_map, hi]; rfl)
 obtain ⟨D1, h4, hD⟩ := h4
 have m1 : ∃ mx, VRs ρ (m.map fun d => AV.ptr d 0) mx ∧ ∀ σ, VRs σ (m.map fun d => AV.ptr d 0) mx → MR σ m D1 := by
  clear s1 s2 hD
  induction m generalizing D1 with
  | nil => exact ⟨[], by simp [VRs], fun σ _ => h4⟩
  | cons d m ih =>
   obtain ⟨B, N, r, q1, q2, rfl⟩ := h4
   obtain ⟨mx, i1, i2⟩ := ih _ q2
   refine ⟨.pointer (some ⟨B, 0, none⟩) :: mx, ?_, fun σ q => ?_⟩
   ·simp only [List.map_cons, VRs, VR]; exact ⟨_, _, ⟨B, N, q1, rfl⟩, i1, rfl⟩
   ·simp only [List.map_cons, VRs, VR] at q
    obtain ⟨x, y, ⟨B', N', q3, q4⟩, q5, q6⟩ := q
    cases q6
    cases q4
    exact ⟨B, N', r, q3, i2 σ q5, rfl⟩
 obtain ⟨mx, m2, m3⟩ := m1
 have r1 : ∃ rx, VRs ρ (rdA rd) rx ∧ ∀ σ, VRs σ (rdA rd) rx → RoX X σ rd ro := by
  cases rd with
  | none => exact ⟨[], by simp [rdA, VRs], fun σ _ => h1⟩
  | some l =>
   obtain ⟨B, N, q1, q2⟩ := h1
   refine ⟨[.pointer (some ⟨B, 0, none⟩)], by simp only [rdA, VRs, VR]; exact ⟨_, _, ⟨B, N, q1, rfl⟩, rfl, rfl⟩, fun σ q => ?_⟩
   simp only [rdA, VRs, VR] at q
   obtain ⟨x, y, ⟨B', N', q3, q4⟩, q5, q6⟩ := q
   cases q6
   cases q4
   exact ⟨B, N', q3, q2⟩
 obtain ⟨rx, r2, r3⟩ := r1
 refine ⟨(L.map fun p => tm.getD p.1 undef) ++ (mx ++ rx), s1.append (m2.append r2), fun σ q => ?_⟩
 have split : ∀ {a b : List AV} {A B : List Value}, a.length = A.length → VRs σ (a ++ b) (A ++ B) → VRs σ a A ∧ VRs σ b B := fun {a b A B} hl q => by
  obtain ⟨q1, q2⟩ := VRs.iff.1 q
  constructor
  ·refine VRs.iff.2 ⟨hl, fun i x y hx hy => q2 i x y ?_ ?_⟩
   ·rw [List.getElem?_append_left (List.getElem?_eq_some_iff.1 hx).1]; exact hx
   ·rw [List.getElem?_append_left (List.getElem?_eq_some_iff.1 hy).1]; exact hy
  ·refine VRs.iff.2 ⟨by simp only [List.length_append] at q1; omega, fun i x y hx hy => q2 (a.length + i) x y ?_ ?_⟩
   ·rw [List.getElem?_append_right (by omega), show a.length + i - a.length = i by omega]; exact hx
   ·rw [List.getElem?_append_right (by omega), show a.length + i - A.length = i by omega]; exact hy
 obtain ⟨q1, q2⟩ := split (by simp) q
 obtain ⟨q3, q4⟩ := split m2.length q2
 exact ⟨r3 σ q4, ⟨D1, m3 σ q3, hD⟩, s2 σ q1⟩
theorem VRs.split {σ : Map} {a b : List AV} {A B : List Value} (hl : a.length = A.length) (q : VRs σ (a ++ b) (A ++ B)) : VRs σ a A ∧ VRs σ b B := by
 obtain ⟨q1, q2⟩ := VRs.iff.1 q
 constructor
 ·refine VRs.iff.2 ⟨hl, fun i x y hx hy => q2 i x y ?_ ?_⟩
  ·rw [List.getElem?_append_left (List.getElem?_eq_some_iff.1 hx).1]; exact hx
  ·rw [List.getElem?_append_left (List.getElem?_eq_some_iff.1 hy).1]; exact hy
 ·refine VRs.iff.2 ⟨by simp only [List.length_append] at q1; omega, fun i x y hx hy => q2 (a.length + i) x y ?_ ?_⟩
  ·rw [List.getElem?_append_right (by omega), show a.length + i - a.length = i by omega]; exact hx
  ·rw [List.getElem?_append_right (by omega), show a.length + i - A.length = i by omega]; exact hy
theorem PI.more {X : Cx} {ρ : Map} {h : Heap} {w : World} (p : PI X ρ h w) {gv : List AV} {gx : List Value} (q : VRs ρ gv gx) : PI ⟨X.c, X.w0, X.F0, X.opn, X.g, none, [], gv ++ X.gv, gx ++ X.gx⟩ ρ h w :=
 {p with keep := q.append p.keep }
theorem PI.less {X : Cx} {ρ : Map} {h : Heap} {w : World} {gv : List AV} {gx : List Value} (p : PI ⟨X.c, X.w0, X.F0, X.opn, X.g, none, [], gv ++ X.gv, gx ++ X.gx⟩ ρ h w) (hl : gv.length = gx.length) : PI X ρ h w ∧ VRs ρ gv gx :=
 ⟨{ p with keep := (VRs.split hl p.keep).2 }, (VRs.split hl p.keep).1⟩
def FinI (c : Ctx) (res : List ResultVar) (K : AV → Heap → Prop) : Post := fun x s => (x = .normal ∨ x = .ret) ∧ ∃ h' vs, leave s.h s.m = some h' ∧ resA c h' s.e res = some vs ∧ K (one vs) h'
section
variable {X : Cx} {tb : List (Nat × TE)} (E : Env X.c tb) {sz : Nat} {rd : Option Nat} {all : Array Oper} {o : Oper} {rest : List Oper} {k : List It} {L : List (Nat × AV)} {h : Heap} {m : List Nat} {Q : Post}
include E
theorem callee {g : FuncId} {fn : Func} {body : Code} (hf : X.c.P.funcs[g]? = some fn) (hb : fn.body = some body) {args : List AV} (hlen : args.length ≤ fn.ntmps) {gv : List AV} {K : AV → Heap → Prop}
  (H : ∀ gx, Go ⟨X.c, X.w0, X.F0, X.opn, X.g, none, [], gv ++ X.gv, gx ++ X.gx⟩ fn.ntmps none [.code body] (argsL args 0) h [] (FinI X.c fn.results.toList K))
  {ρ : Map} {w : World} (p : PI X ρ h w) {A : List Value} (hA : VRs ρ args A) {gx : List Value} (hg : VRs ρ gv gx) {R : Value → World → Prop} (hR : ∀ v h' z w' ρ', K v h' → PI X ρ' h' w' → VRs ρ' gv gx → VR ρ' v z → R z w') :
  (callFunc g A.toArray).run X.c.P w = .ok (.enter g A.toArray) w ∧ CallsIn Fence.wide 0 X.c.P g A.toArray w (EndR R) := by
 have hnm : fn.name ≠ "runtime.NumGoroutine" := by simpa using E.k.names g fn hf
 refine ⟨by simp [callFunc, hf, hnm, hb, Sem.run], callsIn_of_wp_marks hf hb trivial ?_⟩
 have hrun := (H gx).run (T.put und args (env0 und fn.ntmps) 0) (argsL_has args _ 0)
 have ht : Tri ⟨X.c, X.w0, X.F0, X.opn, X.g, none, [], gv ++ X.gv, gx ++ X.gx⟩ fn.ntmps none body ⟨T.put und args (env0 und fn.ntmps) 0, h, []⟩ (FinI X.c fn.results.toList K) := hrun
 refine ht none ρ w _ _ rfl (p.more hg) (args_er hA hlen) ⟨[], rfl, rfl⟩ fun x s' a' w' ρ' ⟨hx, h', vs, q1, q2, q3⟩ g1 g2 g3 g4 => ?_
 have hfin : LeavesInM Fence.wide 0 X.c.P fn a'.tmps (EndR R) a'.defers .returning w' := by
  refine leave_ok g2.hr g2.wf (g4.nil rfl) q1 fun w2 gg => ?_
  have g5 := g2.good gg (ArrKeep.leave q1)
  obtain ⟨z, z1, z2⟩ := results_ok E.k g5.hr g3 q2
  obtain ⟨g6, g7⟩ := g5.less hg.length
  exact ⟨z, z1, hR _ _ z w2 ρ' q3 g6 g7 z2⟩
 rcases hx with rfl | rfl
 ·exact hfin
 ·exact hfin
theorem Ops.inl {d : Nat} {cl : Call} {f : Operand} {g : FuncId} {fn : Func} {body : Code} {first cap vs : List AV} (hd : o.dst = some d) (hs : Nat.ble (d + 1) sz = true) (hw : Want all L o true) (ho : o.op = .call cl) (hc : cl.callee = .value f) (hfv : evL L f = some (.fn (.func g) first cap))
  (hv : evsL L cl.args.toList = some vs) (hf : X.c.P.funcs[g]? = some fn) (hb : fn.body = some body) (hlen : Nat.ble (first ++ vs ++ cap).length fn.ntmps = true) (hon : onceB L = true)
  (H : ∀ gx, Go ⟨X.c, X.w0, X.F0, X.opn, X.g, none, [], held L m rd ++ X.gv, gx ++ X.gx⟩ fn.ntmps none [.code body] (argsL (first ++ vs ++ cap) 0) h [] (FinI X.c fn.results.toList fun v h' => Ops X sz rd all rest k ((d, v) :: L) h' m Q)) : Ops X sz rd all (o :: rest) k L h m Q := ⟨fun e0 he => by
 refine TriOps.cons (hw e0 he) (K := fun s' => RunK X sz rd k Q .normal s') ?_
 intro ro ρ w a next Q' h1 p h3 h4 h5
 refine ⟨fun _ _ => trivial, ?_⟩
 rw [show (wideR ro).round = ro from rfl, Oper.semAt_eq ro a.eval o (by rw [ho]; intro d q; cases q)]
 have hfv' := ev_ok h3 f
 rw [he.ev hfv] at hfv'
 simp only [VR, FR] at hfv'
 obtain ⟨f', F, C, e1, e2, e3, e4⟩ := hfv'
 subst e1
 have hargs := evs_ok h3 cl.args.toList
 rw [he.evs hv] at hargs
 have hA := VRs.append (VRs.append e2 hargs) e3
 obtain ⟨gx, g1, g2⟩ := held_in h1 h3 he hon h4
 obtain ⟨q1, q2⟩ := callee E hf hb (bleT hlen) H p hA g1 (R := fun z w' => next (a.put o.dst z) w') (fun v h' z w' ρ' hK hp hgv hz => by
  obtain ⟨r1, r2, r3⟩ := g2 ρ' hgv
  obtain ⟨e', he', er'⟩ := known_env (σ := ρ') (L := L) (tm := a.tmps) (sz := sz) h3.1 r3
  exact h5 v ⟨e', h', m⟩ z w' ρ' ⟨e'.set und d v, by rw [hd]; exact setD_some hs, hK.run _ (he'.set d v)⟩ r1 hp er' r2 hz)
 have hrun : (execOp a.eval o).run X.c.P w = .ok (.enter g (F ++ cl.args.toList.map a.eval ++ C).toArray) w := by
  rw [← q1]
  simp only [execOp, ho, resolve, hc, e4, Deferred.ofValue, Sem.run_bind, Sem.run_pure, Result.andThen_ok, invoke]
  congr 2
  apply Array.ext'; simp
 rw [hrun]
 exact uponIn_of_next (R := fun z w' => next (a.put o.dst z) w') (nx := .enter g _) q2 fun z w' r => r⟩
omit E in
theorem Go.retI {X' : Cx} {sz' : Nat} {k' : List It} {L' : List (Nat × AV)} {c : Ctx} {res : List ResultVar} {vs : List AV} {K : AV → Heap → Prop} (hr : resL L' res = some vs) (n : K (one vs) h) : Go X' sz' none (.code .ret :: k') L' h [] (FinI c res K) :=
 Go.ret fun e he => ⟨.inr rfl, h, vs, rfl, resL_ok he hr, n⟩
omit E in
theorem Go.endI {X' : Cx} {sz' : Nat} {L' : List (Nat × AV)} {c : Ctx} {res : List ResultVar} {vs : List AV} {K : AV → Heap → Prop} (hr : resL L' res = some vs) (n : K (one vs) h) : Go X' sz' none [] L' h [] (FinI c res K) :=
 Go.nil fun e he => ⟨.inl rfl, h, vs, rfl, resL_ok he hr, n⟩
end
end Go.Px
end
section
namespace Go.Px
noncomputable def envLs (L : List (Nat × AV)) (sz : Nat) : List AV := (List.range sz).map fun t => (lkO L t).getD .bad
theorem envLs_er {ρ : Map} {L : List (Nat × AV)} {e : T AV} {tm : Array Value} {sz : Nat} (er : ER ρ e tm sz) (he : Has e L) : ER ρ (T.put und (envLs L sz) .leaf 0) tm sz := by
 refine ⟨er.1, fun t => ?_⟩
 rw [get_put]
 simp only [Nat.zero_le, if_true, Nat.sub_zero, get_leaf]
 by_cases ht : t < sz
 ·unfold envLs
  rw [List.getElem?_map, List.getElem?_range ht]
  simp only [Option.map_some, Option.getD_some]
  cases hl : lkO L t with
  | none => simp [VR]
  | some v =>
   have := er.2 t
   rw [he t v hl] at this
   exact this
 ·rw [List.getElem?_eq_none (by simp [envLs]; omega)]
  have : tm.getD t undef = undef := by rw [Array.getD_eq_getD_getElem?, Array.getElem?_eq_none (by rw [er.1]; omega)]; rfl
  rw [this]; exact und_ok ρ
noncomputable def loopH (h : Heap) (L : List (Nat × AV)) (sz : Nat) (ps : List Tmp) (assign body : Code) : Heap :=
 (h.new (.dfr true)).new (.loop ⟨.ready, none, 0, T.put und (envLs L sz) .leaf 0, sz, ps, assign, body, h.nxt⟩)
def setL : List Tmp → List AV → List (Nat × AV) → List (Nat × AV)
 | p :: ps, a :: avs, L => setL ps avs ((p, a) :: L)
 | _, _, L => L
theorem setPs_has : ∀ {ps : List Tmp} {avs : List AV} {e e' : T AV} {sz : Nat} {L : List (Nat × AV)}, setPs e ps avs sz = some e' → Has e L → Has e' (setL ps avs L)
 | [], [], e, e', sz, L, q, h => by
  have q' : some e = some e' := q
  cases q'; exact h
 | [], a :: avs, e, e', sz, L, q, h => by
  have q' : (none : Option (T AV)) = some e' := q
  cases q'
 | p :: ps, [], e, e', sz, L, q, h => by
  have q' : (none : Option (T AV)) = some e' := q
  cases q'
 | p :: ps, a :: avs, e, e', sz, L, q, h => by
  have q' : (match Nat.ble (p + 1) sz with | true => setPs (e.set und p a) ps avs sz | false => none) = some e' := q
  split at q'
  ·exact setPs_has (L := (p, a) :: L) q' (h.set p a)
  ·cases q'
theorem setPs_some : ∀ {ps : List Tmp} {avs : List AV} {sz : Nat} (e : T AV), Nat.beq ps.length avs.length = true → (ps.all fun p => Nat.ble (p + 1) sz) = true → ∃ e', setPs e ps avs sz = some e'
 | [], [], sz, e, _, _ => ⟨e, rfl⟩
 | [], a :: avs, sz, e, h, _ => by cases h
 | p :: ps, [], sz, e, h, _ => by cases h
 | p :: ps, a :: avs, sz, e, h, k => by
  simp only [List.all_cons, Bool.and_eq_true] at k
  obtain ⟨e', q⟩ := setPs_some (ps := ps) (avs := avs) (e.set und p a) h k.2
  refine ⟨e', ?_⟩
  show (match Nat.ble (p + 1) sz with | true => setPs (e.set und p a) ps avs sz | false => none) = some e'
  rw [k.1]; exact q
section
variable {X : Cx} {tb : List (Nat × TE)} (E : Env X.c tb) {sz : Nat} {all : Array Oper} {o : Oper} {rest : List Oper} {k : List It} {L : List (Nat × AV)} {h : Heap} {m : List Nat} {Q : Post}
include E
def AfterR (X : Cx) (sz : Nat) (rd : Option Nat) (k : List It) (L : List (Nat × AV)) (l : Nat) (m : List Nat) (Q : Post) (h : Heap) : Prop :=
 ∃ r, h.get l = .loop r ∧ r.state ≠ .busy ∧ ∀ e, Has e L → RunK X sz rd k Q (match r.pending with | none => .normal | some x => x) ⟨e, h.put l (.loop { r with state := .exhausted }), m⟩
theorem Go.range {f : Operand} {ps : Array Tmp} {assign body bodyG : Code} {g : FuncId} {fn : Func} {first cap : List AV} (hfv : evL L f = some (.fn (.func g) first cap)) (hf : X.c.P.funcs[g]? = some fn) (hb : fn.body = some bodyG)
  (hlen : Nat.ble (first ++ [AV.fn (.yield (h.nxt + 1)) [] []] ++ cap).length fn.ntmps = true) (hon : onceB L = true)
  (H : ∀ gx, Go ⟨X.c, X.w0, X.F0, X.opn, X.g, none, [], (held L (h.nxt :: m) none ++ [AV.ptr (h.nxt + 1) 0]) ++ X.gv, gx ++ X.gx⟩ fn.ntmps none [.code bodyG] (argsL (first ++ [AV.fn (.yield (h.nxt + 1)) [] []] ++ cap) 0) (loopH h L sz ps.toList assign body) []
   (FinI X.c fn.results.toList fun _ h' => AfterR X sz none k L (h.nxt + 1) (h.nxt :: m) Q h')) (hro : X.ro = none := by rfl) : Go X sz none (.code (.rangeFunc f ps assign body) :: k) L h m Q := ⟨fun e0 he => by
 intro ro ρ w a Q' h1 p h3 h4 h5
 refine wpIn_rangeFunc fun fn' _ => ?_
 have hE := envLs_er h3 he
 have hel : enterLoop h 0 (T.put und (envLs L sz) .leaf 0) sz ps.toList assign body none = some (h.nxt + 1, [h.nxt], loopH h L sz ps.toList assign body) := rfl
 obtain ⟨B, N, mark, w1, ρ1, q1, g1, hl1, hm1⟩ := enterLoop_ok (c := X.c) (P := X.c.P) (fn' := fn') p.hr p.wf p.fr hE (rd := none) (show RoOk ρ none ro from (show ro = X.ro from h1).trans hro) hel
 have p1 : PI X ρ1 (loopH h L sz ps.toList assign body) w1 := p.good g1 ((ArrKeep.new rfl).trans (ArrKeep.new rfl))
 have hm2 : MRX X ρ1 (h.nxt :: m) (mark ++ a.defers) := MRX.push (m := [h.nxt]) hm1 (h4.mono g1.sub)
 obtain ⟨gx, b1, b2⟩ := held_in (L := L) (h1.mono g1.sub) (h3.mono g1.sub) he hon hm2
 have b3 : VRs ρ1 (held L (h.nxt :: m) none ++ [AV.ptr (h.nxt + 1) 0]) (gx ++ [.pointer (some ⟨B, 0, none⟩)]) := b1.append (by simp only [VRs, VR]; exact ⟨_, _, ⟨B, N, hl1, rfl⟩, rfl, rfl⟩)
 have hfv' := VR.mono g1.sub _ (ev_ok h3 f)
 rw [he.ev hfv] at hfv'
 simp only [VR, FR] at hfv'
 obtain ⟨f', F, C, e1, e2, e3, e4⟩ := hfv'
 subst e1
 have hy : VRs ρ1 [AV.fn (.yield (h.nxt + 1)) [] []] [Value.func (.yield B) #[] #[]] := by
  simp only [VRs, VR, FR]
  exact ⟨_, _, ⟨_, [], [], ⟨B, N, hl1, rfl⟩, rfl, rfl, rfl⟩, rfl, rfl⟩
 have hA := VRs.append (VRs.append e2 hy) e3
 obtain ⟨c1, c2⟩ := callee E hf hb (bleT hlen) H p1 hA b3 (R := fun z w2 => ∃ ρ2 h2, AfterR X sz none k L (h.nxt + 1) (h.nxt :: m) Q h2 ∧ PI X ρ2 h2 w2 ∧ VRs ρ2 (held L (h.nxt :: m) none ++ [AV.ptr (h.nxt + 1) 0]) (gx ++ [.pointer (some ⟨B, 0, none⟩)])) (fun v h' z w' ρ' hK hp hgv hz => ⟨ρ', h', hK, hp, hgv⟩)
 have harr : (F.toArray ++ #[Value.func (.yield B) #[] #[]] ++ C.toArray) = (F ++ [Value.func (.yield B) #[] #[]] ++ C).toArray := by apply Array.ext'; simp
 refine ⟨B, mark, w1, { target := .fn (.func g) C.toArray, args := F.toArray ++ #[Value.func (.yield B) #[] #[]] }, w1, g, F.toArray ++ #[Value.func (.yield B) #[] #[]] ++ C.toArray, w1, q1, ?_, fun _ _ => trivial, ?_, fun q => by simp [wideR, Fence.wide] at q, ?_⟩
 ·simp only [resolve, e4, Deferred.ofValue, Sem.run_pure]
  simp [Act.eval]
 ·simp only [invoke]
  have hcf : (callFunc g (F.toArray ++ #[Value.func (.yield B) #[] #[]] ++ C.toArray)).run X.c.P w1 = .ok (.enter g (F ++ [Value.func (.yield B) #[] #[]] ++ C).toArray) w1 := by rw [harr]; exact c1
  rw [harr] at hcf ⊢
  exact hcf
 ·rw [harr]
  refine CallsIn.mono (callsIn_ro c2) fun e w' r => ?_
  cases e with
  | panicked ch => exact r.elim
  | outgrown => exact r.elim
  | returned z =>
   obtain ⟨ρ2, h2, ⟨r, hg, hnb, hrun⟩, hp, hgv⟩ := r
   obtain ⟨v1, v2⟩ := VRs.split b1.length hgv
   simp only [VRs, VR] at v2
   obtain ⟨x, y, ⟨B', N', v3, v4⟩, _, v5⟩ := v2
   cases v5
   cases v4
   obtain ⟨r1, r2, r3⟩ := b2 ρ2 v1
   obtain ⟨fn0, tm, D, M, t1, t2, t3⟩ := ALoop.get hp.hr v3 hg
   have hlt := hp.hr.lt _ B N' v3
   have g3 := Good.putBlock hp.hr hp.wf v3 (.loop r) (.loop { r with state := .exhausted })
    (.loop { state := .exhausted, pending := pendOf r.pending, fn := fn0, tmps := tm, params := r.params.toArray, assign := r.assign, body := r.body, defers := D }) hg rfl (by simp) rfl
    (by simp only [ABR]; exact ⟨fn0, tm, D, M, World.putObj_heap_same hlt, t2, t3⟩)
   have hp3 := hp.good g3 (ArrKeep.put rfl)
   refine ⟨pendOf r.pending, _, run_endLoop t1 hnb, ?_⟩
   obtain ⟨e', he', er'⟩ := known_env (σ := ρ2) (L := L) (tm := a.tmps) (sz := sz) h3.1 r3
   have hrun' := hrun e' he'
   have fin := fun (x : Ex) (hx : (match r.pending with | none => Ex.normal | some x => x) = x) => h5 x ⟨e', h2.put (h.nxt + 1) (.loop { r with state := .exhausted }), h.nxt :: m⟩ { a with defers := mark ++ a.defers } _ ρ2 (hx ▸ hrun') r1 hp3 er' r2
   cases hpd : r.pending with
   | none =>
    have := fin .normal (by rw [hpd])
    simp only [hpd, pendOf] at this ⊢
    exact this
   | some x =>
    cases x with
    | normal =>
     have := fin .normal (by rw [hpd])
     simp only [hpd, pendOf, exCode] at this ⊢
     exact this
    | exit id =>
     have := fin (.exit id) (by rw [hpd])
     simp only [hpd, pendOf, exCode] at this ⊢
     exact wpIn_exit this
    | ret =>
     have := fin .ret (by rw [hpd])
     simp only [hpd, pendOf, exCode] at this ⊢
     exact wpIn_ret this⟩
def AfterB (X : Cx) (sz : Nat) (rd : Option Nat) (all : Array Oper) (rest : List Oper) (k : List It) (L : List (Nat × AV)) (d l : Nat) (m : List Nat) (Q : Post) : Post := fun x s =>
 ∃ r, s.h.get l = .loop r ∧ (match x with
  | .normal => Ops X sz rd all rest k ((d, .bool true) :: L) (s.h.put l (.loop { r with state := .ready, pending := none })) m Q
  | x => Ops X sz rd all rest k ((d, .bool false) :: L) (s.h.put l (.loop { r with state := .done, pending := some x })) m Q)
def AfterA (X : Cx) (sz l : Nat) (body : Code) (Q : Post) : Post := fun x s => x = .normal ∧ ∃ r, s.h.get l = .loop r ∧ r.state = .ready ∧ RunK X sz (some l) [.code body] Q .normal ⟨s.e, s.h.put l (.loop { r with state := .busy }), s.m⟩
omit E in
theorem Go.body {X' : Cx} {sz' l : Nat} {L' : List (Nat × AV)} {body : Code} {r : ALoop} (hl : h.get l = .loop r) (hs : r.state = .ready) (n : Go X' sz' (some l) [.code body] L' (h.put l (.loop { r with state := .busy })) m Q) : Go X' sz' (some l) [] L' h m (AfterA X' sz' l body Q) :=
 Go.nil fun e he => ⟨rfl, r, hl, hs, n.run e he⟩
omit E in
theorem Go.roundN {X' X : Cx} {sz' sz l d : Nat} {rd : Option Nat} {L' : List (Nat × AV)} {m' : List Nat} {r : ALoop} (hl : h.get l = .loop r) (n : Ops X sz rd all rest k ((d, .bool true) :: L) (h.put l (.loop { r with state := .ready, pending := none })) m Q) : Go X' sz' (some l) [] L' h m' (AfterB X sz rd all rest k L d l m Q) :=
 Go.nil fun e he => ⟨r, hl, n⟩
omit E in
theorem Ops.round {rd : Option Nat} {d l : Nat} {cl : Call} {f : Operand} {vs lst : List AV} {r : ALoop} (hd : o.dst = some d) (hs : Nat.ble (d + 1) sz = true) (hw : Want all L o true) (ho : o.op = .call cl) (hc : cl.callee = .value f) (hfv : evL L f = some (.fn (.yield l) [] [])) (hv : evsL L cl.args.toList = some vs)
  (hl : h.get l = .loop r) (hrs : r.state = .ready) (hre : r.e = T.put und lst .leaf 0) (hps : Nat.beq r.params.length vs.length = true) (hps2 : (r.params.all fun p => Nat.ble (p + 1) r.sz) = true) (hon : onceB L = true)
  (H : ∀ gx, Go ⟨X.c, X.w0, X.F0, X.opn, X.g, none, [], (held L m rd ++ [AV.ptr l 0]) ++ X.gv, gx ++ X.gx⟩ r.sz (some l) [.code r.assign] (setL r.params vs (argsL lst 0)) h [] (AfterA ⟨X.c, X.w0, X.F0, X.opn, X.g, none, [], (held L m rd ++ [AV.ptr l 0]) ++ X.gv, gx ++ X.gx⟩ r.sz l r.body (AfterB X sz rd all rest k L d l m Q))) : Ops X sz rd all (o :: rest) k L h m Q := ⟨fun e0 he => by
 refine TriOps.cons (hw e0 he) (K := fun s' => RunK X sz rd k Q .normal s') ?_
 intro ro ρ w a next Q' h1 p h3 h4 h5
 refine ⟨fun _ _ => trivial, ?_⟩
 rw [show (wideR ro).round = ro from rfl, Oper.semAt_eq ro a.eval o (by rw [ho]; intro d q; cases q)]
 have hfv' := ev_ok h3 f
 rw [he.ev hfv] at hfv'
 simp only [VR, VRs, FR] at hfv'
 obtain ⟨f', F, C, ⟨B, N, hB, rfl⟩, rfl, rfl, e4⟩ := hfv'
 have hargs := evs_ok h3 cl.args.toList
 rw [he.evs hv] at hargs
 obtain ⟨gx0, b1, b2⟩ := held_in h1 h3 he hon h4
 have b3 : VRs ρ (held L m rd ++ [AV.ptr l 0]) (gx0 ++ [.pointer (some ⟨B, 0, none⟩)]) := b1.append (by simp only [VRs, VR]; exact ⟨_, _, ⟨B, N, hB, rfl⟩, rfl, rfl⟩)
 obtain ⟨fn0, tm, D, M, p1, p2, p3⟩ := ALoop.get p.hr hB hl
 obtain ⟨e, hpe⟩ := setPs_some (sz := r.sz) r.e hps hps2
 obtain ⟨hlen, her⟩ := setPs_ok hpe hargs p2
 have hhas : Has e (setL r.params vs (argsL lst 0)) := setPs_has hpe (by rw [hre]; exact argsL_has lst .leaf 0)
 have hy := run_yield (P := X.c.P) (args := (cl.args.toList.map a.eval).toArray) p1 (by simpa using hlen)
 have hrun : (execOp a.eval o).run X.c.P w = (Instr.yield B (cl.args.toList.map a.eval).toArray).run X.c.P w := by
  simp only [execOp, ho, resolve, hc, e4, Deferred.ofValue, Sem.run_bind, Sem.run_pure, Result.andThen_ok, invoke]
  congr 2
  apply Array.ext'; simp
 rw [hrun, hy]
 refine uponIn_of_next (R := fun z w' => next (a.put o.dst z) w') ?_ fun z w' r => r
 refine roundIn_of_wpIn trivial ?_
 have hz : (r.params.toArray.zip (cl.args.toList.map a.eval).toArray).foldl (fun tmps (p : Tmp × Value) => tmps.setIfInBounds p.1 p.2) tm = (r.params.zip (cl.args.toList.map a.eval)).foldl (fun tmps (p : Tmp × Value) => tmps.setIfInBounds p.1 p.2) tm := by
  simp
 have hA := (H (gx0 ++ [.pointer (some ⟨B, 0, none⟩)])).run e hhas
 have htA : Tri ⟨X.c, X.w0, X.F0, X.opn, X.g, none, [], (held L m rd ++ [AV.ptr l 0]) ++ X.gv, (gx0 ++ [.pointer (some ⟨B, 0, none⟩)]) ++ X.gx⟩ r.sz (some l) r.assign ⟨e, h, []⟩ (AfterA ⟨X.c, X.w0, X.F0, X.opn, X.g, none, [], (held L m rd ++ [AV.ptr l 0]) ++ X.gv, (gx0 ++ [.pointer (some ⟨B, 0, none⟩)]) ++ X.gx⟩ r.sz l r.body (AfterB X sz rd all rest k L d l m Q)) := hA
 refine htA (some B) ρ w _ _ ⟨B, N, hB, rfl⟩ (p.more b3) (by rw [hz]; exact her) ⟨[], rfl, rfl⟩ fun x s' a1 w1 ρ1 ⟨hx, r1, hg1, hst, hrunB⟩ g1 g2 g3 g4 => ?_
 subst hx
 obtain ⟨B1, N1, hB1, hB1'⟩ := g1
 cases hB1'
 obtain ⟨fn1, tm1, D1, M1, q1, q2, q3⟩ := ALoop.get g2.hr hB1 hg1
 have g5 := Good.putBlock g2.hr g2.wf hB1 (.loop r1) (.loop { r1 with state := .busy })
  (.loop { state := .busy, pending := pendOf r1.pending, fn := fn1, tmps := tm1, params := r1.params.toArray, assign := r1.assign, body := r1.body, defers := D1 }) hg1 rfl (by simp) rfl
  (by simp only [ABR]; exact ⟨fn1, tm1, D1, M1, World.putObj_heap_same (g2.hr.lt l _ N1 hB1), q2, q3⟩)
 have g6 := g2.good g5 (ArrKeep.put rfl)
 refine ⟨_, run_beginRound q1 hst, ?_⟩
 have htB : Tri ⟨X.c, X.w0, X.F0, X.opn, X.g, none, [], (held L m rd ++ [AV.ptr l 0]) ++ X.gv, (gx0 ++ [.pointer (some ⟨B, 0, none⟩)]) ++ X.gx⟩ r.sz (some l) r.body ⟨s'.e, s'.h.put l (.loop { r1 with state := .busy }), s'.m⟩ (AfterB X sz rd all rest k L d l m Q) := hrunB
 refine htB (some B) ρ1 _ a1 _ ⟨B, N1, hB1, rfl⟩ g6 g3 g4 fun x s2 a2 w2 ρ2 ⟨r2, hg2, hK⟩ k1 k2 k3 k4 => ?_
 obtain ⟨B2, N2, hB2, hB2'⟩ := k1
 cases hB2'
 obtain ⟨fn2, tm2, D2, M2, t1, t2, t3⟩ := ALoop.get k2.hr hB2 hg2
 have hlt := k2.hr.lt l _ N2 hB2
 have g7 := fun (st : LoopState) (pd : Option Ex) => Good.putBlock k2.hr k2.wf hB2 (.loop r2) (.loop { r2 with state := st, pending := pd })
  (.loop { state := st, pending := pendOf pd, fn := fn2, tmps := tm2, params := r2.params.toArray, assign := r2.assign, body := r2.body, defers := D2 }) hg2 rfl (by simp) rfl
  (by simp only [ABR]; exact ⟨fn2, tm2, D2, M2, World.putObj_heap_same hlt, t2, t3⟩)
 have fin := fun (st : LoopState) (pd : Option Ex) (b : Bool) (hops : Ops X sz rd all rest k ((d, .bool b) :: L) (s2.h.put l (.loop { r2 with state := st, pending := pd })) m Q) => show next (a.put o.dst (.bool b)) (w2.putObj B (.loop { state := st, pending := pendOf pd, fn := fn2, tmps := tm2, params := r2.params.toArray, assign := r2.assign, body := r2.body, defers := D2 })) from by
  have k5 := k2.good (g7 st pd) (ArrKeep.put rfl)
  obtain ⟨k6, k7⟩ := k5.less b3.length
  obtain ⟨v1, v2⟩ := VRs.split b1.length k7
  obtain ⟨u1, u2, u3⟩ := b2 ρ2 v1
  obtain ⟨e', he', er'⟩ := known_env (σ := ρ2) (L := L) (tm := a.tmps) (sz := sz) h3.1 u3
  exact h5 (.bool b) ⟨e', _, m⟩ (.bool b) _ ρ2 ⟨e'.set und d (.bool b), by rw [hd]; exact setD_some hs, hops.run _ (he'.set d _)⟩ u1 k6 er' u2 (by simp only [VR])
 cases x with
 | normal => exact ⟨_, _, run_endRound none t1, fin .ready none true hK⟩
 | exit id => exact ⟨_, _, run_endRound (some (.exit id)) t1, fin .done (some (.exit id)) false hK⟩
 | ret => exact ⟨_, _, run_endRound (some .ret) t1, fin .done (some .ret) false hK⟩⟩
end
end Go.Px
end
section
namespace Go.Px
theorem Chg.weak {X : Cx} {sz : Nat} {rd : Option Nat} {L : List (Nat × AV)} {h : Heap} {m : List Nat} (t : Nat) {u v : AV} (hl : lkO L t = some u) (H : ∀ ρ x, VR ρ u x → VR ρ v x) : Chg X sz rd L h ((t, v) :: L) h m := fun ro ρ w e a h1 p h3 he h4 =>
 ⟨ρ, e.set und t v, h1, p, ⟨h3.1, fun s => by
  rw [get_set]
  by_cases hst : s = t
  ·subst hst
   rw [if_pos rfl]
   have := h3.2 s
   rw [he s _ hl] at this
   exact H ρ _ this
  ·rw [if_neg hst]; exact h3.2 s⟩, he.set t v, h4⟩
theorem weak_nil (z : Nat) : ∀ ρ x, VR ρ .nilsl x → VR ρ (.rsl 0 z []) x := fun ρ x q => by
 simp only [VR] at q
 subst q
 simp [VR]
section
variable {X : Cx} {tb : List (Nat × TE)} (E : Env X.c tb) {sz : Nat} {rd : Option Nat} {all : Array Oper} {o : Oper} {rest : List Oper} {k : List It} {L : List (Nat × AV)} {h : Heap} {m : List Nat} {Q : Post}
include E
theorem Ops.dataB {d len z : Nat} {cap : Option Nat} {cs : List AV} {ty : TypeId} (hd : o.dst = some d) (hs : Nat.ble (d + 1) sz = true) (hw : Want all L o true) (hop : Hop X L (bare h.nxt) o (.sl h.nxt 0 len cap z) (newRow (bare h.nxt) ty cs.length .leaf cs)) (hlen : cs.length = len * z) (hdt : datsB cs = true)
  (nx : Ops X sz rd all rest k ((d, .rsl len z cs) :: L) h m Q) : Ops X sz rd all (o :: rest) k L h m Q := ⟨fun e0 he => by
 refine TriOps.cons (hw e0 he) (K := fun s' => RunK X sz rd k Q .normal s') ?_
 intro ro ρ w a next Q' h1 p h3 h4 h5
 refine ⟨fun _ _ => trivial, ?_⟩
 have hopA : opA X.c e0 (bare h.nxt) o.op = some (.v (.sl h.nxt 0 len cap z) ((bare h.nxt).new (.row ⟨ty, cs.length, .leaf, cs, none⟩))) := hop e0 he
 rw [show (wideR ro).round = ro from rfl, Oper.semAt_eq ro a.eval o (opA_defer hopA)]
 have hbr : HR ρ (bare h.nxt) w := bare_hr h.nxt p.hr.lt p.hr.fz
 obtain ⟨nx', w', ρ1, q1, q2, q3⟩ := opA_ok E.k hbr (bare_wf _) (fun i a b => p.fr.1 i a) h3 hopA
 have hblk : ∀ B, B < w.heap.size → w'.heap[B]? = w.heap[B]? := fun B hB => q2.frame B hB (fun i N _ => bare_no _ i)
 have hFo : ∀ B, B < w.heap.size → ρ1.F B = ρ.F B := fun B hB => q2.fold B hB (fun i N _ => bare_no _ i)
 have hgetn : ((bare h.nxt).new (.row ⟨ty, cs.length, .leaf, cs, none⟩)).get h.nxt = .row ⟨ty, cs.length, .leaf, cs, none⟩ := by
  have := Heap.get_new (bare h.nxt) h.nxt (.row ⟨ty, cs.length, .leaf, cs, none⟩)
  rw [this]; exact if_pos rfl
 have hokn : ((bare h.nxt).new (.row ⟨ty, cs.length, .leaf, cs, none⟩)).ok h.nxt := by
  unfold Heap.ok; rw [hgetn]; simp only []; rw [Heap.row_of hgetn]; rfl
 rcases q3 with ⟨S, rfl, q3⟩ | ⟨_, q3⟩
 ·simp only [VR] at q3
  obtain ⟨B, N, C, e1, rfl, hC, _, _⟩ := q3
  have hro := q2.hr.ok h.nxt B N e1 hokn
  rw [hgetn] at hro
  have hro : RowOk ρ1 ⟨ty, cs.length, .leaf, cs, none⟩ B N w' := hro
  obtain ⟨L0, l1, l2, l3⟩ := RowOk.reads hro cs.length 0 (by simp)
  rw [read_whole ty cs cs.length rfl] at l1
  have hFB : ρ1.F B = [] := q2.hr.F_row e1 hokn (fun r => by rw [hgetn]; exact fun q => by cases q)
  have hBge : w.heap.size ≤ B := by
   rcases q2.newb h.nxt B N e1 (p.fr.1 _ (Nat.le_refl _)) with r | ⟨j, M, _, r⟩
   ·exact r
   ·exact absurd r (bare_no _ j)
  have g1 : ∀ b, b ≠ B → (fun b => if b = B then L0 else ρ1.F b) b = ρ1.F b := fun b q => if_neg q
  have g2 : (fun b => if b = B then L0 else ρ1.F b) B = L0 := if_pos rfl
  have f1 : ∀ (b j : Nat) (x : Value), (ρ1.F b)[j]? = some x → ((fun b => if b = B then L0 else ρ1.F b) b)[j]? = some x := fun b j x q => by
   by_cases hb : b = B
   ·subst hb; rw [hFB] at q; simp at q
   ·rw [g1 b hb]; exact q
  have f0 : ∀ (b j : Nat) (x : Value), (ρ.F b)[j]? = some x → ((fun b => if b = B then L0 else ρ1.F b) b)[j]? = some x := fun b j x q => f1 b j x (q2.sub.F b j x q)
  have f3 : FzW (fun b => if b = B then L0 else ρ1.F b) w' := fun b j x q => by
   by_cases hb : b = B
   ·subst hb; rw [g2] at q
    have := l3 j x q; rwa [Nat.zero_add] at this
   ·rw [g1 b hb] at q; exact q2.hr.fz b j x q
  have hsub : Sub ρ ⟨ρ.m, fun b => if b = B then L0 else ρ1.F b, ρ.V⟩ := ⟨fun _ _ e => e, f0, fun _ _ _ e => e⟩
  have hpi := p.frz ⟨q2.same, hblk⟩ f0 (fun b hb => (g1 b (by omega)).trans (hFo b hb)) f3
  rw [q1]
  refine h5 (.rsl len z cs) ⟨e0, h, m⟩ _ w' _ ⟨e0.set und d (.rsl len z cs), by rw [hd]; exact setD_some hs, nx.run _ (he.set d _)⟩ (h1.mono hsub) hpi (h3.mono hsub) (h4.mono hsub) ?_
  simp only [VR]
  refine ⟨hlen, .inr ⟨B, 0, C, L0, rfl, hC, ?_, fun j x q => ?_⟩⟩
  ·exact VRs.mono (ρ := ρ1.d) (σ := (⟨ρ.m, fun b => if b = B then L0 else ρ1.F b, ρ.V⟩ : Map).d) ⟨(fun _ _ e => by cases e), f1, (fun _ _ _ e => by cases e)⟩ cs (dats_ok cs hdt l1)
  ·show ((fun b => if b = B then L0 else ρ1.F b) B)[0 + j]? = some x
   rw [g2, Nat.zero_add]; exact q
 ·simp only [VR] at q3
  obtain ⟨B, N, C, e1, e2, _⟩ := q3
  cases e2⟩
omit E in
theorem dats_flat {α : Type} {enc : α → List AV} (he : ∀ a, datsB (enc a) = true) : ∀ l : List α, datsB (l.flatMap enc) = true
 | [] => rfl
 | a :: l => by
  have happ : ∀ x y : List AV, datsB x = true → datsB y = true → datsB (x ++ y) = true := by
   intro x y hx hy
   induction x with
   | nil => exact hy
   | cons v x ih =>
    have hx' : (match datB v with | true => datsB x | false => false) = true := hx
    show (match datB v with | true => datsB (x ++ y) | false => false) = true
    split at hx'
    ·exact ih hx'
    ·cases hx'
  rw [List.flatMap_cons]
  exact happ _ _ (he a) (dats_flat he l)
def encU (c : UInt8) : List AV := [.int .u8 (c.toNat : Int)]
omit E in
theorem encU_map : ∀ b : List UInt8, ((b.map UInt8.toNat).map fun n => AV.int .u8 (.ofNat (n % 256))) = b.flatMap encU
 | [] => rfl
 | c :: b => by
  have h : c.toNat % 256 = c.toNat := Nat.mod_eq_of_lt c.toNat_lt
  rw [List.flatMap_cons, ← encU_map b]
  simp only [List.map_cons, encU, h]
  rfl
omit E in
theorem TOk.it {c : Ctx} {t : Nat} {e : TE} {kk : IntKind} (h : TOk c t e) (k : e.k = .int kk) : c.under t = some (.int kk) := by
 obtain ⟨d, h1, h2⟩ := h.kd
 rw [k] at h2
 cases d <;> simp only [tkOf] at h2 <;> first | (cases h2; done) | (cases h2; exact h1)
theorem Ops.bytes {d s t el : Nat} {x : Operand} {b : List UInt8} {es e ee : TE} (hd : o.dst = some d) (hs : Nat.ble (d + 1) sz = true) (hw : Want all L o true) (ho : o.op = .convert s t x) (hx : evL L x = some (sA b)) (hst : lkT tb s = some es) (hks : es.k = .str) (ht : lkT tb t = some e) (hk : e.k = .slice el) (hel : lkT tb el = some ee) (hkel : ee.k = .int .u8)
  (nx : Ops X sz rd all rest k ((d, dsl 1 encU b) :: L) h m Q) : Ops X sz rd all (o :: rest) k L h m Q :=
 Ops.dataB E hd hs hw (len := b.length) (z := 1) (cap := none) (cs := b.flatMap encU) (ty := el) (fun e' he => by
  have h1 := (E.t s es hst).st hks
  have h2 := (E.t t e ht).sl hk
  have h3 := (E.t el ee hel).it hkel
  rw [ho]; simp only [opA]; rw [he.ev hx]
  simp only [sA, oConvert, h1, h2, h3, valH]
  rw [encU_map, flat_len (z := 1) (fun _ => rfl), List.length_map, Nat.mul_one]
  rfl) (flat_len (z := 1) (enc := encU) (fun _ => rfl) b) (dats_flat (fun _ => rfl) b) nx
end
theorem KOk.cmp {c : Ctx} {f : FuncId} {fn : Func} (hf : c.P.funcs[f]? = some fn) (h1 : (fn.name == "runtime.NumGoroutine") = false) (hb : fn.body.isNone = true) (hn : Extern.findNext fn = none) (he : Extern.find fn = some Extern.BytealgCompare.compare) (a b : List UInt8) : KOk c f [sA a, sA b] (.int .i64 (Lib.compareBytes a b)) := fun F w A hF hA => by
 simp only [sA, VRs, VR] at hA
 obtain ⟨_, _, rfl, ⟨_, _, rfl, rfl, rfl⟩, rfl⟩ := hA
 have hbs : ∀ l : List UInt8, (bs (l.map UInt8.toNat)).data.toList = l := fun l => by
  simp only [bs]
  rw [List.map_map]
  have : (UInt8.ofNat ∘ UInt8.toNat) = id := by funext x; simp
  rw [this, List.map_id]
 refine ⟨_, w, by rw [run_callFunc_extern hf h1 hb hn he, Lib.run_compareString, hbs, hbs]; rfl, ?_⟩
 exact ⟨ExtW.refl w, F, fun _ _ _ e => e, fun _ _ => rfl, hF, by simp only [VR]⟩
end Go.Px
end
section
namespace Go.Px
theorem PI.same {X : Cx} {ρ : Map} {h h' : Heap} {w : World} (p : PI X ρ h w) (hg : ∀ i, h'.get i = h.get i) (hn : h'.nxt = h.nxt) (ht : ∀ q, h'.tip q = h.tip q) : PI X ρ h' w := by
 have ho : ∀ j, h'.ok j ↔ h.ok j := fun j => Heap.ok_same (hg j) (fun _ q _ _ => by rw [ht q])
 refine ⟨⟨p.hr.lt, fun i B N e q => by rw [hg i]; exact p.hr.ok i B N e ((ho i).1 q), fun i j B N M hij e1 e2 k1 k2 => ?_, fun i r q => p.hr.gl i r (by rw [← hg i]; exact q), p.hr.fz, fun i B N e q => by rw [hg i]; exact p.hr.sep i B N e ((ho i).1 q), fun i t z n l q => p.hr.av i t z n l (by rw [← hg i]; exact q)⟩,
  ⟨fun i hi => by rw [hg i]; exact p.wf.fresh i (by omega), fun i r q a b => by rw [hn]; exact p.wf.root i r q (by rw [← hg i]; exact a) b, fun i r q t a b c => by rw [hg t]; exact p.wf.tip i r q t (by rw [← hg i]; exact a) b (by rw [← ht q]; exact c), fun q hq => by rw [ht q]; exact p.wf.tipr q (by omega)⟩,
  ⟨fun i hi => p.fr.1 i (by omega), fun i r q => by rw [hg i]; exact p.fr.2 i r q⟩, fun i hi n => p.vf i (by omega) n, fun i t z n l q => p.vu i t z n l (by rw [← hg i]; exact q), p.ext, p.mine, p.sub, p.old, p.keep, p.gh.go (fun t z n l q => ⟨_, _, _, by rw [← hg 0]; exact q⟩) (Same.refl w) (fun _ _ _ => rfl) (fun i B N e q => .inr ⟨i, N, e, (ho i).1 q⟩) (fun _ _ _ => rfl) (fun B N e => .inl ⟨N, e⟩) (fun _ _ => rfl) (fun _ _ _ e => e) (fun _ e => e)⟩
 obtain ⟨r, s, q, a, b, c⟩ := p.hr.inj i j B N M hij e1 e2 ((ho i).1 k1) ((ho j).1 k2)
 exact ⟨r, s, q, by rw [hg i]; exact a, by rw [hg j]; exact b, c⟩
section
variable {X : Cx} {tb : List (Nat × TE)} (E : Env X.c tb) {sz : Nat} {rd : Option Nat} {all : Array Oper} {o : Oper} {rest : List Oper} {k : List It} {L : List (Nat × AV)} {h : Heap} {m : List Nat} {Q : Post}
include E
theorem Ops.append0 {d : Nat} {cl : Call} {x y : Operand} {t t1 el id n z q : Nat} {l cs : List AV} {e e1 ee : TE} (hd : o.dst = some d) (hs : Nat.ble (d + 1) sz = true) (hw : Want all L o true) (ho : o.op = .call cl) (hc : cl.callee = .builtin .append) (ha : cl.args.toList = [x, y])
  (hts0 : nth1 cl.argTypes.toList 0 = some t) (hts1 : nth1 cl.argTypes.toList 1 = some t1) (hx : evL L x = some (.own id n z)) (hy : evL L y = some (.rsl q z cs)) (ht : lkT tb t = some e) (hk : e.k = .slice el) (hel : lkT tb el = some ee) (hz : Nat.beq ee.s z = true) 
  (ht1 : lkT tb t1 = some e1) (hk1 : (match e1.k with | .slice _ => true | .str => true | _ => false) = true) (hg : h.get id = .arr el z n l)
  (hq : q = 0) (nx : Ops X sz rd all rest k ((d, .own id (n + q) z) :: L) (h.put id (.arr el z (n + q) (l ++ cs))) m Q) : Ops X sz rd all (o :: rest) k L h m Q := ⟨fun e0 he => by
 refine TriOps.cons (hw e0 he) (K := fun s' => RunK X sz rd k Q .normal s') ?_
 intro ro ρ w a next Q' h1 p h3 h4 h5
 refine ⟨fun _ _ => trivial, ?_⟩
 rw [show (wideR ro).round = ro from rfl, Oper.semAt_eq ro a.eval o (by rw [ho]; intro d q; cases q)]
 have hz := beqT hz
 have hS : VR ρ (.own id n z) (a.eval x) := by rw [← he.ev hx]; exact ev_ok h3 x
 have hY : VR ρ (.rsl q z cs) (a.eval y) := by rw [← he.ev hy]; exact ev_ok h3 y
 subst hq
 have hcs : cs = [] := by
  simp only [VR] at hY
  exact List.length_eq_zero_iff.1 (by rw [hY.1]; omega)
 subst hcs
 obtain ⟨ie, i1, i2, i3⟩ := (E.t el ee hel).si
 have hsz : ie.size = z := i2.trans hz
 obtain ⟨s1, news, s2, s3, s4⟩ := src_ok (P := X.c.P) (h := h) (z := z) (m := 0) (cs := []) p.hr hY rfl (by simp [srcCells])
 have hnn : news = [] := List.length_eq_zero_iff.1 (by rw [s3]; omega)
 subst hnn
 have hu := under_eq E.k ((E.t t e ht).sl hk)
 obtain ⟨d1, u1, u2⟩ := (E.t t1 e1 ht1).kd
 have hu1 := under_eq E.k u1
 have hni : ∀ kk, d1 ≠ .int kk := fun kk qq => by
  subst qq
  rw [← u2] at hk1
  cases hk1
 rw [nth1_eq] at hts0 hts1
 have hS' := hS
 simp only [VR] at hS'
 have key : (Builtin.append_ cl.argTypes o.type #[a.eval x, a.eval y]).run X.c.P w = .ok (a.eval x) w := by
  have hf : (Builtin.firstCells ie.size 0 (a.eval y)).run X.c.P w = .ok ([] : List Value).toArray w := by
   have := s4 w rfl 0 (Nat.le_refl _)
   rw [hsz]; simpa using this
  obtain ⟨hv, ⟨hn0, a0, he0⟩ | ⟨B, C, he0, hC⟩⟩ := hS'
  ·rw [he0]
   have := append_room (P := X.c.P) w cl.argTypes o.type t t1 el d1 ie (by simpa using hts0) (by simpa using hts1) hu1 hni hu (E.k.tys _ _ i1) a0 0 0 0 (a.eval y) [] [] (s1 w) hf (Nat.le_refl _) (w' := w) (by cases a0 <;> simp [storeCells])
   simpa using this
  ·rw [he0]
   have := append_room (P := X.c.P) w cl.argTypes o.type t t1 el d1 ie (by simpa using hts0) (by simpa using hts1) hu1 hni hu (E.k.tys _ _ i1) (some ⟨B, 0, none⟩) n C 0 (a.eval y) [] [] (s1 w) hf (by omega) (w' := w) (by simp [storeCells])
   simpa using this
 have hrun : (execOp a.eval o).run X.c.P w = .ok (.value (a.eval x)) w := by
  obtain ⟨CS, hCS⟩ : ∃ CS, (execOp a.eval o).run X.c.P w = (builtin .append cl.argTypes o.type CS (cl.args.map a.eval)).run X.c.P w :=
   ⟨_, by simp only [execOp, ho, resolve, hc, Sem.run_bind, Sem.run_pure, Result.andThen_ok, invoke]; rfl⟩
  have hargs : cl.args.map a.eval = #[a.eval x, a.eval y] := by apply Array.ext'; simp [ha]
  rw [hCS, hargs]
  simp [builtin, key]
 rw [hrun]
 rw [List.append_nil, Nat.add_zero] at nx
 have hpi : PI X ρ (h.put id (.arr el z n l)) w := p.same (fun i => by
  rw [Heap.get_put]
  by_cases hi : i = id
  ·subst hi; rw [if_pos rfl, hg]
  ·rw [if_neg hi]) rfl (fun q => rfl)
 exact h5 (.own id n z) ⟨e0, h.put id (.arr el z n l), m⟩ (a.eval x) w ρ ⟨e0.set und d (.own id n z), by rw [hd]; exact setD_some hs, nx.run _ (he.set d _)⟩ h1 hpi h3 h4 hS⟩
theorem Ops.appendE {d : Nat} {cl : Call} {x y : Operand} {t t1 el id n z q : Nat} {l cs : List AV} {e e1 ee : TE} (hd : o.dst = some d) (hs : Nat.ble (d + 1) sz = true) (hw : Want all L o true) (ho : o.op = .call cl) (hc : cl.callee = .builtin .append) (ha : cl.args.toList = [x, y])
  (hts0 : nth1 cl.argTypes.toList 0 = some t) (hts1 : nth1 cl.argTypes.toList 1 = some t1) (hx : evL L x = some (.own id n z)) (hy : evL L y = some (.rsl q z cs)) (ht : lkT tb t = some e) (hk : e.k = .slice el) (hel : lkT tb el = some ee) (hz : Nat.beq ee.s z = true) (hz0 : Nat.beq z 0 = false) (hb : Nat.ble ee.b 1000 = true)
  (ht1 : lkT tb t1 = some e1) (hk1 : (match e1.k with | .slice _ => true | .str => true | _ => false) = true) (hg : h.get id = .arr el z n l) (hi : HInd id h) (hL : indL id L = true) (hm : (m.all fun i => !Nat.beq i id) = true) (hrd : rdNot id rd = true) (hG : indsB id X.gv = true)
  (hzz : (match ee.z with | .bad => false | v => Nat.beq v.cells.length ee.s) = true) (hones : ones cs = true) (hsm : n + q ≤ 1000000) (nx : Ops X sz rd all rest k ((d, .own id (n + q) z) :: L) (h.put id (.arr el z (n + q) (l ++ cs))) m Q) : Ops X sz rd all (o :: rest) k L h m Q := by
 by_cases hq : q = 0
 ·exact Ops.append0 E hd hs hw ho hc ha hts0 hts1 hx hy ht hk hel hz ht1 hk1 hg hq nx
 ·exact Ops.append E hd hs hw ho hc ha hts0 hts1 hx hy ht hk hel hz hz0 hb ht1 hk1 hg hi hL hm hrd hG hzz hones hq hsm nx
end
def indLx (k t : Nat) : List (Nat × AV) → Bool
 | [] => true
 | (s, v) :: r => (match (match Nat.beq s t with | true => true | false => indB k v) with | true => indLx k t r | false => false)
theorem indLx_at {k t : Nat} : ∀ {L : List (Nat × AV)}, indLx k t L = true → ∀ s v, s ≠ t → lkO L s = some v → indB k v = true
 | (s', u) :: r, h, s, v, hs, q => by
  have h' : (match (match Nat.beq s' t with | true => true | false => indB k u) with | true => indLx k t r | false => false) = true := h
  split at h'
  ·rename_i h1
   unfold lkO at q
   split at q
   ·rename_i h2
    cases q
    have h2 := beqT h2
    subst h2
    rw [beqF hs] at h1
    exact h1
   ·exact indLx_at h' s v hs q
  ·cases h'
theorem PI.frzRow {X : Cx} {ρ : Map} {h : Heap} {w : World} (p : PI X ρ h w) {id : Nat} {ty : TypeId} {cs : List AV} (hg0 : h.get id = .row ⟨ty, cs.length, .leaf, cs, none⟩) (hdt : datsB cs = true) (hi : HInd id h) (hG : indsB id X.gv = true) : ∃ ρ', PI X ρ' (h.put id .none) w ∧ SubX id ρ ρ' ∧ (∀ i, i ≠ id → ρ' i = ρ i) ∧ ∀ B N, ρ id = some (B, N) → ∃ L0, VRs ρ'.d cs L0 ∧ Fz ρ' B 0 L0 ∧ cs.length ≤ N := by
 have hok0 : h.ok id := by unfold Heap.ok; rw [hg0]; simp only []; rw [Heap.row_of hg0]; rfl
 have key : ∃ (F : Nat → List Value), (∀ (b j : Nat) (x : Value), (ρ.F b)[j]? = some x → (F b)[j]? = some x) ∧ (∀ b, (∀ M, ρ id ≠ some (b, M)) → F b = ρ.F b) ∧ FzW F w ∧ ∀ B N, ρ id = some (B, N) → ∃ L0, VRs (⟨fun _ => none, F, fun _ _ => none⟩ : Map) cs L0 ∧ Fz ⟨fun _ => none, F, fun _ _ => none⟩ B 0 L0 ∧ cs.length ≤ N := by
  cases hid : ρ id with
  | none => exact ⟨ρ.F, fun _ _ _ e => e, fun _ _ => rfl, p.hr.fz, fun B N e => by cases e⟩
  | some y =>
  obtain ⟨B, N⟩ := y
  have e1 : ρ id = some (B, N) := hid
  have hro := p.hr.ok id B N e1 hok0
  rw [hg0] at hro
  have hro : RowOk ρ ⟨ty, cs.length, .leaf, cs, none⟩ B N w := hro
  obtain ⟨L0, l1, l2, l3⟩ := RowOk.reads hro cs.length 0 (by simp)
  rw [read_whole ty cs cs.length rfl] at l1
  have hFB : ρ.F B = [] := p.hr.F_row e1 hok0 (fun r => by rw [hg0]; exact fun q => by cases q)
  have g1 : ∀ b, b ≠ B → (fun b => if b = B then L0 else ρ.F b) b = ρ.F b := fun b q => if_neg q
  have g2 : (fun b => if b = B then L0 else ρ.F b) B = L0 := if_pos rfl
  have f1 : ∀ (b j : Nat) (x : Value), (ρ.F b)[j]? = some x → ((fun b => if b = B then L0 else ρ.F b) b)[j]? = some x := fun b j x q => by
   by_cases hb : b = B
   ·subst hb; rw [hFB] at q; simp at q
   ·rw [g1 b hb]; exact q
  refine ⟨fun b => if b = B then L0 else ρ.F b, f1, fun b q => g1 b (fun e => q N (by rw [e])), fun b j x q => ?_, fun B' N' e' => ?_⟩
  ·by_cases hb : b = B
   ·subst hb; rw [g2] at q
    have := l3 j x q; rwa [Nat.zero_add] at this
   ·rw [g1 b hb] at q; exact p.hr.fz b j x q
  ·cases e'
   refine ⟨L0, ?_, fun j x q => ?_, hro.2.1⟩
   ·exact VRs.mono (ρ := ρ.d) (σ := (⟨fun _ => none, fun b => if b = B then L0 else ρ.F b, fun _ _ => none⟩ : Map)) ⟨(fun _ _ e => by cases e), f1, (fun _ _ _ e => by cases e)⟩ cs (dats_ok cs hdt l1)
   ·show ((fun b => if b = B then L0 else ρ.F b) B)[0 + j]? = some x
    rw [g2, Nat.zero_add]; exact q
 obtain ⟨F, f1, f2, f3, f4⟩ := key
 let ρ' : Map := ⟨fun i => if i = id then none else ρ i, F, ρ.V⟩
 have m1 : ρ' id = none := if_pos rfl
 have m2 : ∀ i, i ≠ id → ρ' i = ρ i := fun i q => if_neg q
 have sx : SubX id ρ ρ' := ⟨fun i p' q e => by rw [m2 i q]; exact e, f1, fun _ _ _ e => e⟩
 have hg : ∀ j, j ≠ id → (h.put id .none).get j = h.get j := fun j q => by rw [Heap.get_put, if_neg q]
 have hn : (h.put id .none).get id = .none := by rw [Heap.get_put, if_pos rfl]
 have ho : ∀ j, j ≠ id → ((h.put id .none).ok j ↔ h.ok j) := fun j q => Heap.ok_same (hg j q) (fun _ _ _ _ => rfl)
 have hne : ∀ i B N, ρ' i = some (B, N) → i ≠ id ∧ ρ i = some (B, N) := fun i B N e => by
  by_cases q : i = id
  ·subst q; rw [m1] at e; cases e
  ·rw [m2 i q] at e; exact ⟨q, e⟩
 have hpi : PI X ρ' (h.put id .none) w := by
  refine ⟨⟨fun i B N e => p.hr.lt i B N (hne i B N e).2, fun i B N e q => ?_, fun i j B N M hij e1 e2 k1 k2 => ?_, fun i r q => ?_, f3, fun i B N e q => ?_, fun i t' z' n' l' q => ?_⟩, ⟨fun i hi' => ?_, fun i r q a b => ?_, fun i r q t' a b c => ?_, p.wf.tipr⟩, ⟨fun i hi => ?_, fun i r q => ?_⟩, p.vf, fun i t' z' n' l' q m' hm' => ?_, p.ext, fun i B N e => p.mine i B N (hne i B N e).2, fun b j x e => f1 b j x (p.sub b j x e), fun b hb => ?_, inds_ok sx _ hG p.keep, p.gh.go (fun t' z' n' l' q => ?_) (Same.refl w) (fun _ _ _ => rfl) (fun i B N e q => ?_) (fun b hb hno => f2 b fun M ee => hno id M ee hok0) (fun B N e => ?_) (fun _ _ => rfl) f1 (fun _ e => e)⟩
  ·obtain ⟨hi', e'⟩ := hne i B N e
   rw [hg i hi']; exact (p.hr.ok i B N e' ((ho i hi').1 q)).ind sx (hi.at_ p.wf hi')
  ·obtain ⟨hi', e1'⟩ := hne i B N e1
   obtain ⟨hj', e2'⟩ := hne j B M e2
   obtain ⟨r, s, q, a, b, c⟩ := p.hr.inj i j B N M hij e1' e2' ((ho i hi').1 k1) ((ho j hj').1 k2)
   exact ⟨r, s, q, by rw [hg i hi']; exact a, by rw [hg j hj']; exact b, c⟩
  ·by_cases hi' : i = id
   ·subst hi'; rw [hn] at q; cases q
   ·rw [hg i hi'] at q
    obtain ⟨N, hN⟩ := p.hr.gl i r q
    exact ⟨N, by rw [m2 i hi']; exact hN⟩
  ·obtain ⟨hi', e'⟩ := hne i B N e
   rw [hg i hi']
   have q' := (ho i hi').1 q
   show F B = [] ∨ _
   rw [f2 B (fun M ee => ?_)]
   ·exact p.hr.sep i B N e' q'
   ·obtain ⟨r, s, q'', x, y, z', _⟩ := p.hr.inj id i B M N (Ne.symm hi') ee e' hok0 q'
    rw [hg0] at x; cases x; cases z'
  ·by_cases hi' : i = id
   ·subst hi'; rw [hn] at q; cases q
   ·rw [hg i hi'] at q
    obtain ⟨a1, ⟨a, b⟩ | ⟨B2, N2, C2, e1, e2⟩⟩ := p.hr.av i t' z' n' l' q
    ·exact ⟨a1, .inl ⟨a, b⟩⟩
    ·exact ⟨a1, .inr ⟨B2, N2, C2, by rw [m2 i hi']; exact e1, e2⟩⟩
  ·have hi2 : h.nxt ≤ i := hi'
   by_cases hii : i = id
   ·subst hii; exact hn
   ·rw [hg i hii]; exact p.wf.fresh i hi2
  ·by_cases hii : i = id
   ·subst hii; rw [hn] at a; cases a
   ·rw [hg i hii] at a; exact p.wf.root i r q a b
  ·by_cases hii : i = id
   ·subst hii; rw [hn] at a; cases a
   ·rw [hg i hii] at a
    obtain ⟨s, x, y, z'⟩ := p.wf.tip i r q t' a b c
    exact ⟨s, by rw [hg t' (fun e => by subst e; rw [hg0] at x; cases x; cases y)]; exact x, y, z'⟩
  ·by_cases hi' : i = id
   ·subst hi'; exact m1
   ·rw [m2 i hi']; exact p.fr.1 i hi
  ·have := p.fr.2 i r q
   rw [hg i (fun k => by subst k; rw [hg0] at this; cases this)]; exact this
  ·by_cases hi' : i = id
   ·subst hi'; rw [hn] at q; cases q
   ·rw [hg i hi'] at q; exact p.vu i t' z' n' l' q m' hm'
  ·show F b = _
   rw [f2 b (fun M ee => p.mine id b M ee hb)]; exact p.old b hb
  ·by_cases hi' : 0 = id
   ·subst hi'; rw [hn] at q; cases q
   ·rw [hg 0 hi'] at q; exact ⟨_, _, _, q⟩
  ·obtain ⟨hi', e'⟩ := hne i B N e
   exact .inr ⟨i, N, e', (ho i hi').1 q⟩
  ·by_cases hi' : 1 = id
   ·subst hi'; exact .inr hok0
   ·exact .inl ⟨N, by rw [m2 1 hi']; exact e⟩
 refine ⟨ρ', hpi, sx, m2, fun B N e => ?_⟩
 obtain ⟨L0, a1, a2, a3⟩ := f4 B N e
 exact ⟨L0, a1, a2, a3⟩
theorem Chg.frzR {X : Cx} {sz : Nat} {rd : Option Nat} {L : List (Nat × AV)} {h : Heap} {m : List Nat} (t : Nat) {id n z : Nat} {cap : Option Nat} {ty : TypeId} {cs : List AV} (hl : lkO L t = some (.sl id 0 n cap z)) (hg0 : h.get id = .row ⟨ty, cs.length, .leaf, cs, none⟩) (hlen : cs.length = n * z) (hdt : datsB cs = true) (hi : HInd id h) (hL : indLx id t L = true)
  (hm : (m.all fun i => !Nat.beq i id) = true) (hrd : rdNot id rd = true) (hG : indsB id X.gv = true := by rfl) : Chg X sz rd L h ((t, .rsl n z cs) :: L) (h.put id .none) m := fun ro ρ w e a h1 p h3 he h4 => by
 obtain ⟨ρ', hpi, sx, m2, f4⟩ := p.frzRow hg0 hdt hi hG
 obtain ⟨e', he', er'⟩ := known_env (σ := ρ') (L := (t, .rsl n z cs) :: L) (tm := a.tmps) (sz := sz) h3.1 (fun s v q => by
  unfold lkO at q
  split at q
  ·rename_i hs
   have hs := beqT hs
   cases q
   subst hs
   have := h3.2 s
   rw [he s _ hl] at this
   simp only [VR] at this ⊢
   obtain ⟨B', N', C', e1', e2', hC', _, _⟩ := this
   obtain ⟨L0, a1, a2, a3⟩ := f4 B' N' e1'
   exact ⟨hlen, .inr ⟨B', 0, C', L0, e2', hC', a1, a2⟩⟩
  ·rename_i hs
   have := h3.2 s
   rw [he s _ q] at this
   exact ind_ok sx v (indLx_at hL s v (beqN hs) q) this)
 refine ⟨ρ', e', ?_, hpi, er', he', ?_⟩
 ·cases rd with
  | none => exact h1
  | some r =>
   obtain ⟨B, N, q1, q2⟩ := h1
   exact ⟨B, N, by rw [m2 r (nb (show (!Nat.beq r id) = true from hrd))]; exact q1, q2⟩
 ·have hmr : ∀ {m : List Nat} {D : List Deferred}, (m.all fun i => !Nat.beq i id) = true → MR ρ m D → MR ρ' m D := by
   intro m
   induction m with
   | nil => intro D _ q; exact q
   | cons d m ih =>
    intro D hh q
    simp only [List.all_cons, Bool.and_eq_true] at hh
    obtain ⟨B, N, r, q1, q2, q3⟩ := q
    exact ⟨B, N, r, by rw [m2 d (nb hh.1)]; exact q1, ih hh.2 q2, q3⟩
  obtain ⟨D1, h5, h6⟩ := h4
  exact ⟨D1, hmr hm h5, h6⟩
/-! ## places in one's own arrays -/
theorem flat_get {α : Type} {z : Nat} {enc : α → List AV} (he : ∀ a, (enc a).length = z) (d : α) {l : List α} {i f : Nat} (hi : i < l.length) (hf : f < z) : (l.flatMap enc)[i * z + f]? = (enc (l.getD i d))[f]? := by
 rw [← flat_at he d l i hi, List.getElem?_take, if_pos hf, List.getElem?_drop]
section
variable {X : Cx} {tb : List (Nat × TE)} (E : Env X.c tb) {L : List (Nat × AV)} {h : Heap} {o : Oper}
include E
end
/-! ## halves -/
section
variable {X : Cx} {tb : List (Nat × TE)} (E : Env X.c tb) {L : List (Nat × AV)} {h : Heap} {o : Oper}
theorem Hop.quo {x y : Operand} {t u : Nat} {a b : Int} (ho : o.op = .binOp .quo t x y u) (hx : evL L x = some (.int .i64 a)) (hy : evL L y = some (.int .i64 b)) (hb : ieq b 0 = false) (hr : 0 ≤ a ∧ a < 9223372036854775808 ∧ 0 ≤ a / b ∧ a / b < 9223372036854775808) : Hop X L h o (.int .i64 (a / b)) h :=
 opA_bin ho hx hy ⟨by simp, by simp⟩ (by simp only [intOp, hb]; rw [Int.tdiv_eq_ediv_of_nonneg hr.1, wr_i64 ⟨by omega, hr.2.2.2⟩])
theorem wr_u64 {n : Int} (h : 0 ≤ n ∧ n < 18446744073709551616) : wr .u64 n = n := by
 cases n with
 | ofNat a =>
  have h2 := h.2
  rw [Int.ofNat_eq_natCast] at h2
  have h1 : um .u64 (Int.ofNat a) = a := by show a % 18446744073709551616 = a; omega
  show Int.ofNat (um .u64 (Int.ofNat a)) = _
  rw [h1]
 | negSucc a => have := h.1; omega
include E in
theorem Hop.conv {s t : Nat} {x : Operand} {k1 k2 : IntKind} {a : Int} {es e : TE} (ho : o.op = .convert s t x) (hx : evL L x = some (.int k1 a)) (hs : lkT tb s = some es) (ht : lkT tb t = some e) (hk : e.k = .int k2) (hr : wr k2 a = a) : Hop X L h o (.int k2 a) h := fun e' he => by
 obtain ⟨d, h1, _⟩ := (E.t s es hs).kd
 have h2 := (E.t t e ht).it hk
 rw [ho]; simp only [opA]; rw [he.ev hx]
 simp only [oConvert, h1, h2, hr, valH]
end
section
variable {X : Cx} {tb : List (Nat × TE)} (E : Env X.c tb) {sz : Nat} {rd : Option Nat} {all : Array Oper} {o : Oper} {rest : List Oper} {k : List It} {L : List (Nat × AV)} {h : Heap} {m : List Nat} {Q : Post}
include E
theorem Go.drawS2 (hm : X.c.P.follows .mixedOrders = true) (tb : List (Ent X.c)) (p : Nat) (ord : List Nat) {id : Nat} (hord : ord = List.range p) (hc : chkOrdS X.c all.toList p = true) (n : Dr X sz rd tb all ord [] L h (some h) m (SufQ X sz rd all p k Q)) : Go X sz rd (.code (.region id all true) :: k) L h m Q := by
 subst hord
 exact Go.drawS E hm tb p hc n
end
end Go.Px
end
section
namespace Go.Px
noncomputable def newAt (n : Nat) (h : Heap) (b : AB) : Heap := ⟨n + 1, h.blk.set .none n b, h.tips, n :: h.log⟩
theorem new_at {n : Nat} {h : Heap} (hn : h.nxt = n) (b : AB) : h.new b = newAt n h b := by subst hn; rfl
noncomputable def rowAt (n : Nat) (h : Heap) (t : TypeId) (k : Nat) (cs : List AV) : Heap := newAt n h (.row ⟨t, k, .leaf, cs, none⟩)
theorem row_at {n : Nat} {h : Heap} (hn : h.nxt = n) (t : TypeId) (k : Nat) (cs : List AV) : newRow h t k .leaf cs = rowAt n h t k cs := new_at hn _
def boxC (v : AV) : Option (List AV) := match v with | .agg l => some l | .bad => none | v => some [v]
section
variable {X : Cx} {tb : List (Nat × TE)} (E : Env X.c tb) {sz : Nat} {rd : Option Nat} {all : Array Oper} {o : Oper} {rest : List Oper} {k : List It} {L : List (Nat × AV)} {h : Heap} {m : List Nat} {Q : Post}
theorem oBox_C {h : Heap} {t : Nat} {v : AV} {cs : List AV} (hb : boxC v = some cs) : oBox h t v = some (.ptr h.nxt 0, newRow h t cs.length .leaf cs) := by
 cases v <;> first | (cases hb; rfl) | cases hb
theorem Hop.boxC {t : Nat} {x : Operand} {v : AV} {cs : List AV} (ho : o.op = .box t x) (hx : evL L x = some v) (hb : Px.boxC v = some cs) : Hop X L h o (.ptr h.nxt 0) (newRow h t cs.length .leaf cs) := Hop.box ho hx (oBox_C hb)
include E
theorem Ops.boxR {d t : Nat} {x : Operand} {v : AV} {cs : List AV} (hd : o.dst = some d) (hs : Nat.ble (d + 1) sz = true) (hw : Want all L o true) (ho : o.op = .box t x) (hx : evL L x = some v) (hb : Px.boxC v = some cs) (hdt : datsB cs = true)
  (nx : Ops X sz rd all rest k ((d, .rptr cs) :: L) h m Q) : Ops X sz rd all (o :: rest) k L h m Q := ⟨fun e0 he => by
 refine TriOps.cons (hw e0 he) (K := fun s' => RunK X sz rd k Q .normal s') ?_
 intro ro ρ w a next Q' h1 p h3 h4 h5
 refine ⟨fun _ _ => trivial, ?_⟩
 have hopA : opA X.c e0 (bare h.nxt) o.op = some (.v (.ptr h.nxt 0) ((bare h.nxt).new (.row ⟨t, cs.length, .leaf, cs, none⟩))) := Hop.boxC (X := X) (h := bare h.nxt) ho hx hb e0 he
 rw [show (wideR ro).round = ro from rfl, Oper.semAt_eq ro a.eval o (opA_defer hopA)]
 have hbr : HR ρ (bare h.nxt) w := bare_hr h.nxt p.hr.lt p.hr.fz
 obtain ⟨nx', w', ρ1, q1, q2, q3⟩ := opA_ok E.k hbr (bare_wf _) (fun i a b => p.fr.1 i a) h3 hopA
 have hblk : ∀ B, B < w.heap.size → w'.heap[B]? = w.heap[B]? := fun B hB => q2.frame B hB (fun i N _ => bare_no _ i)
 have hFo : ∀ B, B < w.heap.size → ρ1.F B = ρ.F B := fun B hB => q2.fold B hB (fun i N _ => bare_no _ i)
 have hgetn : ((bare h.nxt).new (.row ⟨t, cs.length, .leaf, cs, none⟩)).get h.nxt = .row ⟨t, cs.length, .leaf, cs, none⟩ := by
  have := Heap.get_new (bare h.nxt) h.nxt (.row ⟨t, cs.length, .leaf, cs, none⟩)
  rw [this]; exact if_pos rfl
 have hokn : ((bare h.nxt).new (.row ⟨t, cs.length, .leaf, cs, none⟩)).ok h.nxt := by
  unfold Heap.ok; rw [hgetn]; simp only []; rw [Heap.row_of hgetn]; rfl
 rcases q3 with ⟨S, rfl, q3⟩ | ⟨_, q3⟩
 ·simp only [VR] at q3
  obtain ⟨B, N, e1, rfl⟩ := q3
  have hro := q2.hr.ok h.nxt B N e1 hokn
  rw [hgetn] at hro
  have hro : RowOk ρ1 ⟨t, cs.length, .leaf, cs, none⟩ B N w' := hro
  obtain ⟨L0, l1, l2, l3⟩ := RowOk.reads hro cs.length 0 (by simp)
  rw [read_whole t cs cs.length rfl] at l1
  have hFB : ρ1.F B = [] := q2.hr.F_row e1 hokn (fun r => by rw [hgetn]; exact fun q => by cases q)
  have hBge : w.heap.size ≤ B := by
   rcases q2.newb h.nxt B N e1 (p.fr.1 _ (Nat.le_refl _)) with r | ⟨j, M, _, r⟩
   ·exact r
   ·exact absurd r (bare_no _ j)
  have g1 : ∀ b, b ≠ B → (fun b => if b = B then L0 else ρ1.F b) b = ρ1.F b := fun b q => if_neg q
  have g2 : (fun b => if b = B then L0 else ρ1.F b) B = L0 := if_pos rfl
  have f1 : ∀ (b j : Nat) (x : Value), (ρ1.F b)[j]? = some x → ((fun b => if b = B then L0 else ρ1.F b) b)[j]? = some x := fun b j x q => by
   by_cases hb : b = B
   ·subst hb; rw [hFB] at q; simp at q
   ·rw [g1 b hb]; exact q
  have f0 : ∀ (b j : Nat) (x : Value), (ρ.F b)[j]? = some x → ((fun b => if b = B then L0 else ρ1.F b) b)[j]? = some x := fun b j x q => f1 b j x (q2.sub.F b j x q)
  have f3 : FzW (fun b => if b = B then L0 else ρ1.F b) w' := fun b j x q => by
   by_cases hb : b = B
   ·subst hb; rw [g2] at q
    have := l3 j x q; rwa [Nat.zero_add] at this
   ·rw [g1 b hb] at q; exact q2.hr.fz b j x q
  have hsub : Sub ρ ⟨ρ.m, fun b => if b = B then L0 else ρ1.F b, ρ.V⟩ := ⟨fun _ _ e => e, f0, fun _ _ _ e => e⟩
  have hpi := p.frz ⟨q2.same, hblk⟩ f0 (fun b hb => (g1 b (by omega)).trans (hFo b hb)) f3
  rw [q1]
  refine h5 (.rptr cs) ⟨e0, h, m⟩ _ w' _ ⟨e0.set und d (.rptr cs), by rw [hd]; exact setD_some hs, nx.run _ (he.set d _)⟩ (h1.mono hsub) hpi (h3.mono hsub) (h4.mono hsub) ?_
  simp only [VR]
  refine ⟨B, 0, L0, rfl, ?_, fun j x q => ?_⟩
  ·exact VRs.mono (ρ := ρ1.d) (σ := (⟨ρ.m, fun b => if b = B then L0 else ρ1.F b, ρ.V⟩ : Map).d) ⟨(fun _ _ e => by cases e), f1, (fun _ _ _ e => by cases e)⟩ cs (dats_ok cs hdt l1)
  ·show ((fun b => if b = B then L0 else ρ1.F b) B)[0 + j]? = some x
   rw [g2, Nat.zero_add]; exact q
 ·simp only [VR] at q3
  obtain ⟨B, N, e1, e2⟩ := q3
  cases e2⟩
/-! ## numbers written out -/
theorem Ops.rowAt (n : Nat) {d ty N : Nat} {cs : List AV} (hd : o.dst = some d) (hs : Nat.ble (d + 1) sz = true) (hw : Want all L o true) (hn : h.nxt = n) (hop : Hop X L h o (.ptr h.nxt 0) (newRow h ty N .leaf cs)) (nx : Ops X sz rd all rest k ((d, .ptr n 0) :: L) (Px.rowAt n h ty N cs) m Q) : Ops X sz rd all (o :: rest) k L h m Q := by
 rw [hn, row_at hn] at hop
 exact Ops.mem E hd hs hw hop (by rw [← row_at hn]; exact ArrKeep.new rfl) nx
omit E in
theorem Dr.rowAt {tb : List (Ent X.c)} {ord : List Nat} {hb : Option Heap} {i : Nat} (n : Nat) {d ty N : Nat} {cs : List AV} (ho : nth1 all.toList i = some o) (hc : cls X.c o.op = .alloc) (hd : o.dst = some d) (hs : Nat.ble (d + 1) sz = true) (hw : Want all L o true) (hn : h.nxt = n) (hop : Hop X L h o (.ptr h.nxt 0) (newRow h ty N .leaf cs)) (nx : Dr X sz rd tb all ord k ((d, .ptr n 0) :: L) (Px.rowAt n h ty N cs) hb m Q) : Dr X sz rd tb all (i :: ord) k L h hb m Q := by
 rw [hn, row_at hn] at hop
 exact Dr.alloc ho hc hd hs hw hop (by rw [← row_at hn]; exact ArrKeep.new rfl) nx
omit E in
theorem Dr.slAt {tb : List (Ent X.c)} {ord : List Nat} {hb : Option Heap} {i : Nat} (n : Nat) {d ty len z : Nat} {cap : Option Nat} {cs : List AV} (ho : nth1 all.toList i = some o) (hc : cls X.c o.op = .alloc) (hd : o.dst = some d) (hs : Nat.ble (d + 1) sz = true) (hw : Want all L o true) (hn : h.nxt = n) (hop : Hop X L h o (.sl h.nxt 0 len cap z) (newRow h ty cs.length .leaf cs)) (nx : Dr X sz rd tb all ord k ((d, .sl n 0 len cap z) :: L) (Px.rowAt n h ty cs.length cs) hb m Q) : Dr X sz rd tb all (i :: ord) k L h hb m Q := by
 rw [hn, row_at hn] at hop
 exact Dr.alloc ho hc hd hs hw hop (by rw [← row_at hn]; exact ArrKeep.new rfl) nx
end
section
variable {X : Cx} {sz : Nat} {rd : Option Nat} {k : List It} {L : List (Nat × AV)} {h : Heap} {m : List Nat} {Q : Post}
theorem Go.condPt {t : Nat} {c d : Code} {p : Prop} (hb : lkO L t = some (.bool (bd p))) (g1 : p → Go X sz rd (.code c :: k) ((t, .bool true) :: L) h m Q) (g2 : ¬ p → Go X sz rd (.code d :: k) ((t, .bool false) :: L) h m Q) : Go X sz rd (.code (.cond (.tmp t) c d) :: k) L h m Q := ⟨fun e he => by
 have hk : ∀ {b : Bool}, bd p = b → Has e ((t, .bool b) :: L) := fun {b} hb' s u q => by
  unfold lkO at q
  split at q
  ·rename_i ht; cases q; have ht := beqT ht; subst ht; rw [← hb']; exact he s _ hb
  ·exact he s u q
 have he' : evL L (.tmp t) = some (.bool (bd p)) := hb
 exact Tri.cond (he.ev he') (fun q => (g1 (bd_iff.1 q)).run e (hk q)) (fun q => (g2 (bd_not.1 q)).run e (hk q))⟩
theorem Go.condNt {t : Nat} {c d : Code} {p : Prop} (hb : lkO L t = some (.bool (!bd p))) (g1 : ¬ p → Go X sz rd (.code c :: k) ((t, .bool true) :: L) h m Q) (g2 : p → Go X sz rd (.code d :: k) ((t, .bool false) :: L) h m Q) : Go X sz rd (.code (.cond (.tmp t) c d) :: k) L h m Q := by
 have e : (!bd p) = bd (¬ p) := by by_cases h : p <;> simp [bd, h]
 rw [e] at hb
 exact Go.condPt hb g1 fun q => g2 (Classical.not_not.1 q)
end
/-! ## what is left at the end -/
theorem out_t {p : Prop} (h : p) : one [AV.bool true] = .bool (bd p) := by rw [bd_of h]; rfl
theorem out_f {p : Prop} (h : ¬ p) : one [AV.bool false] = .bool (bd p) := by rw [bd_no h]; rfl
theorem out_e {p q : Prop} (h : p ↔ q) : one [AV.bool (bd p)] = .bool (bd q) := by rw [propext h]; rfl
end Go.Px
end
section
namespace Go.Px
section
variable {X : Cx} {sz : Nat} {rd : Option Nat} {all : Array Oper} {rest : List Oper} {k : List It} {L : List (Nat × AV)} {h : Heap} {m : List Nat} {Q : Post}
theorem Ops.gT {d : Nat} {p : Prop} (hg : gslot all rest = some d) (hb : lkO L d = some (.bool (bd p))) (hp : p) (n1 : Ops X sz rd all rest k ((d, .bool true) :: L) h m Q) : Ops X sz rd all rest k L h m Q := Ops.gP hg hb (fun _ => n1) fun q => absurd hp q
theorem Ops.gF {d : Nat} {p : Prop} (hg : gslot all rest = some d) (hb : lkO L d = some (.bool (bd p))) (hp : ¬ p) (n1 : Ops X sz rd all rest k ((d, .bool false) :: L) h m Q) : Ops X sz rd all rest k L h m Q := Ops.gP hg hb (fun q => absurd q hp) fun _ => n1
theorem Go.condTt {t : Nat} {c d : Code} {p : Prop} (hb : lkO L t = some (.bool (bd p))) (hp : p) (g1 : Go X sz rd (.code c :: k) ((t, .bool true) :: L) h m Q) : Go X sz rd (.code (.cond (.tmp t) c d) :: k) L h m Q := Go.condPt hb (fun _ => g1) fun q => absurd hp q
theorem Go.condFt {t : Nat} {c d : Code} {p : Prop} (hb : lkO L t = some (.bool (bd p))) (hp : ¬ p) (g1 : Go X sz rd (.code d :: k) ((t, .bool false) :: L) h m Q) : Go X sz rd (.code (.cond (.tmp t) c d) :: k) L h m Q := Go.condPt hb (fun q => absurd q hp) fun _ => g1
end
end Go.Px
end
section
namespace Go.Px
section
variable {X : Cx} {tb : List (Nat × TE)} {sz : Nat} {rd : Option Nat} {all : Array Oper} {o : Oper} {rest : List Oper} {k : List It} {L : List (Nat × AV)} {h : Heap} {m : List Nat} {Q : Post}
theorem Ops.frzMv (E : Env X.c tb) (d : Nat) {v : AV} {id ty z n : Nat} {l : List AV} (e0 : AV.rsl n z l = v) (hd : o.dst = some d) (hs : Nat.ble (d + 1) sz = true) (hw : Want all L o true) (hop : Hop X L h o (.own id n z) h) (hg0 : h.get id = .arr ty z n l) (hi : HInd id h) (hL : indL id L = true)
  (hm : (m.all fun i => !Nat.beq i id) = true) (hrd : rdNot id rd = true) (hG : indsB id X.gv = true) (nx : Ops X sz rd all rest k ((d, v) :: (d, .own id n z) :: L) (h.put id .none) m Q) : Ops X sz rd all (o :: rest) k L h m Q := by
 subst e0
 refine Ops.val E hd hs hw hop (Ops.change (Chg.frz d (by unfold lkO; rw [Nat.beq_refl]) hg0 hi (by simp only [indL, indB]; exact hL) hm (fun q => ?_) hG) nx)
 subst q
 simp [rdNot, Nat.beq_refl] at hrd
end
end Go.Px
end
section
namespace Go.Px
section
variable {X : Cx} {tb : List (Nat × TE)} {sz : Nat} {rd : Option Nat} {all : Array Oper} {o : Oper} {rest : List Oper} {k : List It} {L : List (Nat × AV)} {h : Heap} {m : List Nat} {Q : Post}
theorem PI.cellV {ρ : Map} {w : World} {id : Nat} {r r' : Row} (p : PI X ρ h w) (hg0 : h.get id = .row r) (h1 : r'.t = r.t) (h2 : r'.n = r.n) (h3 : r.root = none) (h4 : r'.root = none) (H : ∀ B N, ρ id = some (B, N) → ∀ j v, j < r.n → w.cell? ⟨B, j, none⟩ = some v → VR ρ (r.get j) v → VR ρ (r'.get j) v) : PI X ρ (h.put id (.row r')) w := by
 have hg : ∀ j, j ≠ id → (h.put id (.row r')).get j = h.get j := fun j q => by rw [Heap.get_put, if_neg q]
 have hn : (h.put id (.row r')).get id = .row r' := by rw [Heap.get_put, if_pos rfl]
 have hokn : h.ok id := by unfold Heap.ok; rw [hg0]; simp only []; rw [Heap.row_of hg0, h3]; rfl
 have ho : ∀ j, (h.put id (.row r')).ok j → h.ok j := fun j q => by
  by_cases hj : j = id
  ·subst hj; exact hokn
  ·exact (Heap.ok_same (hg j hj) (fun _ _ _ _ => rfl)).1 q
 have hk1 : ∀ j, ¬ Kin h id j := fun j hk => by
  obtain ⟨a, b, q, a1, a2, a3, a4⟩ := hk
  rw [hg0] at a1; cases a1; rw [h3] at a3; cases a3
 have hk2 : ∀ j, ¬ Kin h j id := fun j hk => by
  obtain ⟨a, b, q, a1, a2, a3, a4⟩ := hk
  rw [hg0] at a2; cases a2; rw [h3] at a4; cases a4
 refine ⟨⟨p.hr.lt, fun i B N e q => ?_, fun i j B N M hij e1 e2 k1 k2 => ?_, fun i s q => ?_, p.hr.fz, fun i B N e q => ?_, fun i t z n l q => ?_⟩,
  ⟨fun i hi => ?_, fun i s q a b => ?_, fun i s q t a b c => ?_, fun q hq => p.wf.tipr q hq⟩, ⟨fun i hi => p.fr.1 i hi, fun i s q => ?_⟩, fun i hi n => p.vf i hi n, fun i t z n l q => ?_, p.ext, p.mine, p.sub, p.old, p.keep, p.gh.go (fun t z n l q => ?_) (Same.refl w) (fun _ _ _ => rfl) (fun i B N e q => .inr ⟨i, N, e, ho i q⟩) (fun _ _ _ => rfl) (fun B N e => .inl ⟨N, e⟩) (fun _ _ => rfl) (fun _ _ _ e => e) (fun _ e => e)⟩
 ·by_cases hi : i = id
  ·subst hi
   rw [hn]
   have := p.hr.ok i B N e hokn
   rw [hg0] at this
   have this : RowOk ρ r B N w := this
   obtain ⟨q1, q2, q3, q4⟩ := this
   refine ⟨by rw [h1]; exact q1, by rw [h2]; exact q2, q3, fun j hj => ?_⟩
   rw [h2] at hj
   obtain ⟨v, v1, v2⟩ := q4 j hj
   exact ⟨v, v1, H B N e j v hj v1 v2⟩
  ·rw [hg i hi]; exact p.hr.ok i B N e (ho i q)
 ·have kk := p.hr.inj i j B N M hij e1 e2 (ho i k1) (ho j k2)
  by_cases hi : i = id
  ·subst hi; exact absurd kk (hk1 j)
  ·by_cases hj : j = id
   ·subst hj; exact absurd kk (hk2 i)
   ·obtain ⟨r, s, q, a, b, c⟩ := kk
    exact ⟨r, s, q, by rw [hg i hi]; exact a, by rw [hg j hj]; exact b, c⟩
 ·by_cases hi : i = id
  ·subst hi; rw [hn] at q; cases q
  ·rw [hg i hi] at q; exact p.hr.gl i s q
 ·by_cases hi : i = id
  ·subst hi
   rcases p.hr.sep i B N e hokn with a | ⟨s, a⟩
   ·exact .inl a
   ·rw [hg0] at a; cases a
  ·rw [hg i hi]; exact p.hr.sep i B N e (ho i q)
 ·by_cases hi : i = id
  ·subst hi; rw [hn] at q; cases q
  ·rw [hg i hi] at q; exact p.hr.av i t z n l q
 ·by_cases hi' : i = id
  ·subst hi'
   have : h.get i = .none := p.wf.fresh i hi
   rw [hg0] at this; cases this
  ·rw [hg i hi']; exact p.wf.fresh i hi
 ·by_cases hi : i = id
  ·subst hi; rw [hn] at a; cases a; rw [h4] at b; cases b
  ·rw [hg i hi] at a; exact p.wf.root i s q a b
 ·by_cases hi : i = id
  ·subst hi; rw [hn] at a; cases a; rw [h4] at b; cases b
  ·rw [hg i hi] at a
   obtain ⟨u, u1, u2, u3⟩ := p.wf.tip i s q t a b c
   by_cases ht : t = id
   ·subst ht; rw [hg0] at u1; cases u1; rw [h3] at u2; cases u2
   ·exact ⟨u, by rw [hg t ht]; exact u1, u2, u3⟩
 ·by_cases hi : i = id
  ·subst hi
   have := p.fr.2 i s q
   rw [hg0] at this; cases this
  ·rw [hg i hi]; exact p.fr.2 i s q
 ·by_cases hi : i = id
  ·subst hi; rw [hn] at q; cases q
  ·rw [hg i hi] at q; exact p.vu i t z n l q
 ·by_cases hi : 0 = id
  ·subst hi; rw [hn] at q; cases q
  ·rw [hg 0 hi] at q; exact ⟨_, _, _, q⟩
theorem PI.cell {ρ : Map} {w : World} {id : Nat} {r r' : Row} (p : PI X ρ h w) (hg0 : h.get id = .row r) (h1 : r'.t = r.t) (h2 : r'.n = r.n) (h3 : r.root = none) (h4 : r'.root = none) (H : ∀ j v, j < r.n → VR ρ (r.get j) v → VR ρ (r'.get j) v) : PI X ρ (h.put id (.row r')) w := p.cellV hg0 h1 h2 h3 h4 fun _ _ _ j v hj _ q => H j v hj q
theorem row1 (t : TypeId) (v : AV) : Row.get ⟨t, 1, .leaf, [v], none⟩ 0 = v := by
 unfold Row.get
 rw [show (T.leaf : T (Option AV)).get none 0 = none from get_leaf none 0]
 simp only [Nat.zero_mod]
 rfl
theorem Chg.tokCell (n0 id : Nat) (ty z : Nat) {t : TypeId} {u : AV} (hn0 : h.nxt = n0) (hu : noRoom u = true) (hg : h.get id = .row ⟨t, 1, .leaf, [u], none⟩) (hz : X.g = none ∨ Nat.ble 1 n0 = true := by first | exact .inl rfl | exact .inr rfl) : Chg X sz rd L h L ((newAt n0 h (.arr ty z 0 [])).put id (.row ⟨t, 1, .leaf, [.own n0 0 z], none⟩)) m := fun ro ρ w e a h1 p h3 he h4 => by
 rw [← new_at hn0]
 subst hn0
 have hlt : id < h.nxt := by
  rcases Nat.lt_or_ge id h.nxt with q | q
  ·exact q
  ·rw [p.wf.fresh id q] at hg; cases hg
 have hcell : ∀ B N, ρ id = some (B, N) → ∃ x, w.cell? ⟨B, 0, none⟩ = some x ∧ VR ρ u x := fun B N e => by
  have := p.hr.ok id B N e (by unfold Heap.ok; rw [hg]; simp only []; rw [Heap.row_of hg]; rfl)
  rw [hg] at this
  have ro : RowOk ρ ⟨t, 1, .leaf, [u], none⟩ B N w := this
  obtain ⟨x, x1, x2⟩ := ro.2.2.2 0 (by show 0 < 1; omega)
  rw [row1] at x2
  exact ⟨x, x1, x2⟩
 obtain ⟨v0, a0, hv0, hall⟩ : ∃ v0 a0, v0 = Value.slice a0 0 0 ∧ ∀ B N, ρ id = some (B, N) → w.cell? ⟨B, 0, none⟩ = some v0 := by
  cases hid : ρ id with
  | none => exact ⟨_, none, rfl, fun B N e => by cases e⟩
  | some y =>
   obtain ⟨B, N⟩ := y
   obtain ⟨x, x1, x2⟩ := hcell B N hid
   obtain ⟨a, ha⟩ := noRoom_at hu x2
   exact ⟨x, a, ha, fun B' N' e => by cases e; exact x1⟩
 obtain ⟨ρ', p', hs, v1, hm, _⟩ := p.tokV ty z hv0 hz
 have hne : id ≠ h.nxt := by omega
 have hg' : (h.new (.arr ty z 0 [])).get id = .row ⟨t, 1, .leaf, [u], none⟩ := by rw [Heap.get_new, if_neg hne]; exact hg
 refine ⟨ρ', e, h1.mono hs, p'.cellV hg' rfl rfl rfl rfl (fun B N e1 j v hj hc q => ?_), h3.mono hs, he, h4.mono hs⟩
 have hj : j = 0 := by have hj : j < 1 := hj; omega
 subst hj
 rw [row1]
 have e2 : ρ id = some (B, N) := by
  have : ρ'.m id = some (B, N) := e1
  rw [hm] at this; exact this
 rw [hall B N e2] at hc
 cases hc
 simp only [VR]
 exact ⟨v1, .inl ⟨trivial, _, hv0⟩⟩
theorem Ops.weakAt (E : Env X.c tb) (d : Nat) {u v : AV} (hd : o.dst = some d) (hs : Nat.ble (d + 1) sz = true) (hw : Want all L o true) (hop : Hop X L h o u h) (H : ∀ ρ x, VR ρ u x → VR ρ v x) (nx : Ops X sz rd all rest k ((d, v) :: (d, u) :: L) h m Q) : Ops X sz rd all (o :: rest) k L h m Q :=
 Ops.val E hd hs hw hop (Ops.change (Chg.weak d (by unfold lkO; rw [Nat.beq_refl]) H) nx)
end
noncomputable def hq (N : Nat) (bs : List AB) : Heap := ⟨N, T.put .none bs .leaf 0, .leaf, []⟩
theorem row_at_i {t : TypeId} {cs : List AV} {j : Nat} (hj : j < cs.length) : Row.get ⟨t, cs.length, .leaf, cs, none⟩ j = cs.getD j .bad := by
 unfold Row.get
 rw [show (T.leaf : T (Option AV)).get none j = none from get_leaf none j]
 simp only [Nat.mod_eq_of_lt hj, nth_eq, List.getD_eq_getElem?_getD, List.getElem?_eq_getElem hj]
 rfl
theorem lows_at {n : Nat} : ∀ {cs : List AV} {j : Nat}, lowsB n cs = true → j < cs.length → lowB n (cs.getD j .bad) = true
 | [], _, _, h => by simp at h
 | c :: cs, j, h, hj => by
  simp only [lowsB] at h
  split at h
  ·rename_i hc
   cases j with
   | zero => exact hc
   | succ j => exact lows_at (cs := cs) h (by simpa using hj)
  ·cases h
theorem inds_at {n : Nat} : ∀ {cs : List AV} {j : Nat}, indsB n cs = true → j < cs.length → indB n (cs.getD j .bad) = true
 | [], _, _, h => by simp at h
 | c :: cs, j, h, hj => by
  simp only [indsB] at h
  split at h
  ·rename_i hc
   cases j with
   | zero => exact hc
   | succ j => exact inds_at (cs := cs) h (by simpa using hj)
  ·cases h
theorem low_row {n N : Nat} {t : TypeId} {cs : List AV} (hN : cs.length = N) (h : lowsB n cs = true) : ABLow n (.row ⟨t, N, .leaf, cs, none⟩) := by
 subst hN
 refine ⟨rfl, ?_⟩
 rw [List.all_eq_true]
 intro j hj
 have hj : j < cs.length := by simpa using hj
 rw [row_at_i hj]; exact lows_at h hj
theorem ind_row {n N : Nat} {t : TypeId} {cs : List AV} (hN : cs.length = N) (h : indsB n cs = true) : ABInd n (.row ⟨t, N, .leaf, cs, none⟩) := by
 subst hN
 show ((List.range cs.length).all fun j => indB n (Row.get ⟨t, cs.length, .leaf, cs, none⟩ j)) = true
 rw [List.all_eq_true]
 intro j hj
 have hj : j < cs.length := by simpa using hj
 rw [row_at_i hj]; exact inds_at h hj
end Go.Px
end
section
namespace Go.Px
section
variable {X : Cx} {tb : List (Nat × TE)} (E : Env X.c tb) {sz : Nat} {rd : Option Nat} {all : Array Oper} {o : Oper} {rest : List Oper} {k : List It} {L : List (Nat × AV)} {h : Heap} {m : List Nat} {Q : Post}
include E
theorem Go.rangeAt (n : Nat) {f : Operand} {ps : Array Tmp} {assign body bodyG : Code} {g : FuncId} {fn : Func} {first cap : List AV} (hn : h.nxt = n) (hfv : evL L f = some (.fn (.func g) first cap)) (hf : X.c.P.funcs[g]? = some fn) (hb : fn.body = some bodyG)
  (hlen : Nat.ble (first ++ [AV.fn (.yield (n + 1)) [] []] ++ cap).length fn.ntmps = true) (hon : onceB L = true)
  (H : ∀ gx R, R = (⟨.ready, none, 0, T.put und (envLs L sz) .leaf 0, sz, ps.toList, assign, body, n⟩ : ALoop) → Go ⟨X.c, X.w0, X.F0, X.opn, X.g, none, [], (held L (n :: m) none ++ [AV.ptr (n + 1) 0]) ++ X.gv, gx ++ X.gx⟩ fn.ntmps none [.code bodyG] (argsL (first ++ [AV.fn (.yield (n + 1)) [] []] ++ cap) 0) (newAt (n + 1) (newAt n h (.dfr true)) (.loop R)) []
   (FinI X.c fn.results.toList fun _ h' => AfterR X sz none k L (n + 1) (n :: m) Q h')) (hro : X.ro = none := by rfl) : Go X sz none (.code (.rangeFunc f ps assign body) :: k) L h m Q := by
 subst hn
 exact Go.range E hfv hf hb hlen hon (fun gx => H gx _ rfl) hro
omit E
theorem Go.toQ {L' : List (Nat × AV)} {c : Code} {bs : List AB} {N : Nat} (g : Go X sz rd (.lp c :: k) L' (hq N bs) m Q) (hN : bs.length = N) (hg : ∀ i r, X.c.g0.get i ≠ .gl r) (hs : SubL L L') (hlow : lowL N L' = true) (hn : Nat.ble N h.nxt = true) (hb : getsP h bs 0) (hbl : lowsP N bs)
  (hm : (m.all fun i => Nat.ble (i + 1) N) = true) (hrd : rdLow N rd = true) (hG : lowsB N X.gv = true := by rfl) (hz : X.g = none ∨ Nat.ble 2 N = true := by first | exact .inl rfl | exact .inr rfl) : Go X sz rd (.lp c :: k) L h m Q := by
 subst hN
 exact Go.toC g hg hs hlow hn hb hbl hm hrd hG hz
theorem Go.toHQ {L' : List (Nat × AV)} {c : Code} {bs : List AB} {N : Nat} (g : Go X sz rd (.code c :: k) L' (hq N bs) m Q) (hN : bs.length = N) (hg : ∀ i r, X.c.g0.get i ≠ .gl r) (hs : SubL L L') (hlow : lowL N L' = true) (hn : Nat.ble N h.nxt = true) (hb : getsP h bs 0) (hbl : lowsP N bs)
  (hm : (m.all fun i => Nat.ble (i + 1) N) = true) (hrd : rdLow N rd = true) (hG : lowsB N X.gv = true := by rfl) (hz : X.g = none ∨ Nat.ble 2 N = true := by first | exact .inl rfl | exact .inr rfl) : Go X sz rd (.code c :: k) L h m Q := by
 subst hN
 exact Go.toH g hg hs hlow hn hb hbl hm hrd hG hz
theorem Chg.tokAt (n t : Nat) (ty z : Nat) (hn : h.nxt = n) (hl : lkO L t = some .nilsl) (hz : X.g = none ∨ Nat.ble 1 n = true := by first | exact .inl rfl | exact .inr rfl) : Chg X sz rd L h ((t, .own n 0 z) :: L) (newAt n h (.arr ty z 0 [])) m := by
 subst hn
 exact Chg.tok t ty z hl hz
theorem Go.afterN {l : Nat} {r : ALoop} (hl : h.get l = .loop r) (hp : r.pending = none) (hs : r.state = .ready ∨ r.state = .done) (n : Go X sz none k L (h.put l (.loop { r with state := .exhausted })) m Q) : AfterR X sz none k L l m Q h := by
 obtain ⟨st, pe, a1, a2, a3, a4, a5, a6, a7⟩ := r
 have hp : pe = none := hp
 subst hp
 refine ⟨_, hl, fun q => ?_, fun e he => n.run e he⟩
 rcases hs with hs | hs <;> rw [hs] at q <;> cases q
theorem Go.retFm {c : Ctx} {res : List ResultVar} {vs : List AV} {v : AV} {h' : Heap} (hl : leave h m = some h') (hr : resL L res = some vs) (hv : one vs = v) (hd : datB v = true) : Go X sz rd (.code .ret :: k) L h m (Fin c res v) :=
 Go.ret fun e he => ⟨.inr rfl, h', vs, hl, resL_ok he hr, hv, hd⟩
end
end Go.Px
end
section
namespace Go.Px
section
variable {X : Cx} {tb : List (Nat × TE)} (E : Env X.c tb) {sz : Nat} {rd : Option Nat} {all : Array Oper} {o : Oper} {rest : List Oper} {k : List It} {L : List (Nat × AV)} {h : Heap} {m : List Nat} {Q : Post}
include E
end
end Go.Px
end
section
namespace Go.Px
open Go.Deep Go.ChangeShapes Go.WideShapes
def held0 (W : World) (B : Nat) : List Value := match W.heap[B]? with
 | some (.cells c _ _) => c.toList
 | _ => []
theorem held0_at {W : World} {B j : Nat} {x : Value} : (held0 W B)[j]? = some x ↔ W.cell? ⟨B, j, none⟩ = some x := by
 unfold held0 World.cell?
 split
 ·rename_i c t f e
  simp [e]
 ·rename_i e
  constructor
  ·intro h; simp at h
  ·intro h
   split at h
   ·rename_i c t f e2; exact absurd e2 (e c t f)
   ·cases h
theorem held0_fz (W : World) : FzW (held0 W) W := fun B j x h => held0_at.1 h
theorem read_str (ρ : Map) (s : ByteArray) : VR ρ (sA s.data.toList) (.string s) := by
 unfold sA
 simp only [VR, bs]
 congr 1
 obtain ⟨⟨l⟩⟩ := s
 simp [List.map_map, Function.comp_def]
/-! ## it reads as before -/
theorem trodAll_carry {H : Type} {enc : TypeId × Value → H} {P : Program} {w w' : World} {base : Nat} {sp : Nat → Bool} {hd : Bool} : ∀ {ts : List TypeId} {vs : List Value} {ds : List (DataW H)} {ps : List MemPlace}, DataW.TrodAll enc P w base sp hd ts vs ds ps → (∀ p ∈ ps, w.sameAt w' p) → DataW.TrodAll enc P w' base sp hd ts vs ds ps
 | [], [], [], _, h, _ => h
 | _ :: _, _ :: _, _ :: _, _, ⟨p, q, ⟨n, h1⟩, h2, e⟩, hs => ⟨p, q, ⟨n, DataW.trod_carry n _ _ _ h1 fun x hx => hs x (by rw [e]; exact List.mem_append_left _ hx)⟩, trodAll_carry h2 (fun x hx => hs x (by rw [e]; exact List.mem_append_right _ hx)), e⟩
theorem ext_same {w w' : World} (h : ExtW w w') {p : MemPlace} (hp : p.block < w.heap.size) : w.sameAt w' p := by
 cases p with
 | cell b off =>
  show w'.cell? ⟨b, off, none⟩ = w.cell? ⟨b, off, none⟩
  unfold World.cell?
  rw [h.2 b hp]
 | map b => exact h.2 b hp
theorem ext_kept {w w' : World} (h : ExtW w w') (may : MemPlace → Prop) : w.keptBut w' may := by
 refine ⟨h.1.os, h.1.output, fun i hi => ?_⟩
 rw [h.2 i hi]
 cases w.heap[i]? with
 | none => rfl
 | some b => cases b <;> first | rfl | exact ⟨rfl, rfl, rfl, fun _ _ => rfl⟩ | exact .inr ⟨rfl, rfl⟩
theorem KOk.calls {c : Ctx} (k : CtxOk c) {f : FuncId} {fn : Func} (hf : c.P.funcs[f]? = some fn) (hb : fn.body.isSome = true) {args : List AV} {v : AV} (hk : KOk c f args v) {W : World} {A : List Value} (hA : VRs (fzm (held0 W)) args A) : Calls c.P f A.toArray W fun e W' => ∃ z, e = .returned z ∧ ExtW W W' ∧ ∃ ρ, VR ρ v z := by
 obtain ⟨nx, w1, q1, q2⟩ := hk (held0 W) W A (held0_fz W) hA
 obtain ⟨bd, hbd⟩ := Option.isSome_iff_exists.1 hb
 have hnm : fn.name ≠ "runtime.NumGoroutine" := by simpa using k.names f fn hf
 have hcall : (callFunc f A.toArray).run c.P W = .ok (.enter f A.toArray) W := by simp [callFunc, hf, hnm, hbd]
 rw [hcall] at q1
 cases q1
 have q3 : CallsIn Fence.wide 0 c.P f A.toArray W (EndR _) := q2
 refine (callsIn_wide.1 q3).mono fun e w' r => ?_
 cases e with
 | returned z =>
  obtain ⟨g, F', _, _, _, hv⟩ := r
  exact ⟨z, rfl, g, fzm F', hv⟩
 | panicked ch => exact r.elim
 | outgrown => exact r.elim
end Go.Px
end
section
namespace Go.Px
section
variable {c : Ctx} (k : CtxOk c) (kn : ∀ f, c.kn.get none f = none) {draw : DrawOk} (dc : DrawCalm draw) (dr : DrawSound c draw) {ext : Ext} (hx : ExtOk c ext) {lim : Nat}
include k kn dc dr hx
end
end Go.Px
end
section
namespace Go.Px
def inL (xs : List Nat) (f : Nat) : Bool := match xs with | [] => false | x :: r => (match Nat.beq x f with | true => true | false => inL r f)
theorem inL_mem : ∀ {xs : List Nat} {f : Nat}, inL xs f = true → f ∈ xs
 | [], _, h => by cases h
 | x :: r, f, h => by
  unfold inL at h
  split at h
  ·rename_i q; rw [beqT q]; exact List.mem_cons_self
  ·exact List.mem_cons_of_mem _ (inL_mem h)
end Go.Px
end
section
namespace Go.Px
section
variable {X : Cx} {sz : Nat} {rd : Option Nat} {s : St}
end
end Go.Px
end
section
namespace Go.Px
/-! ## numbers renamed -/
def renF (f : Nat → Nat) (g : Fn) : Fn := match g with | .yield l => .yield (f l) | g => g
mutual
def ren (f : Nat → Nat) : AV → AV
 | .bad => .bad
 | .bool b => .bool b
 | .int k n => .int k n
 | .str l => .str l
 | .nilptr => .nilptr
 | .ptr i o => .ptr (f i) o
 | .nilsl => .nilsl
 | .sl i o l c z => .sl (f i) o l c z
 | .esl i => .esl (f i)
 | .nilmp => .nilmp
 | .mp i => .mp (f i)
 | .nilfn => .nilfn
 | .fn g a b => .fn (renF f g) (rens f a) (rens f b)
 | .nilifc => .nilifc
 | .ifc t a => .ifc t (ren f a)
 | .agg l => .agg (rens f l)
 | .tup l => .tup (rens f l)
 | .gptr g o => .gptr g o
 | .anyb => .anyb
 | .big n => .big n
 | .low n => .low n
 | .anyi => .anyi
 | .rsl n z l => .rsl n z l
 | .rptr l => .rptr l
 | .csl => .csl
 | .own i n z => .own (f i) n z
 | .optr i n o => .optr (f i) n o
def rens (f : Nat → Nat) : List AV → List AV
 | [] => []
 | a :: l => ren f a :: rens f l
end
theorem rens_length (f : Nat → Nat) : ∀ l : List AV, (rens f l).length = l.length
 | [] => rfl
 | a :: l => by simp only [rens, List.length_cons, rens_length f l]
theorem rens_get (f : Nat → Nat) : ∀ (l : List AV) (j : Nat), (rens f l).getD j .bad = ren f (l.getD j .bad)
 | [], j => by simp [rens, ren]
 | a :: l, 0 => rfl
 | a :: l, j + 1 => by
  have := rens_get f l j
  simpa [rens] using this
def pull (ρ : Map) (f : Nat → Nat) : Map := ⟨fun j => ρ (f j), ρ.F, fun j n => ρ.V (f j) n⟩
mutual
theorem vr_ren {ρ : Map} {f : Nat → Nat} : ∀ (a : AV) (v : Value), VR ρ (ren f a) v ↔ VR (pull ρ f) a v
 | .bad, _ => by simp only [ren, VR]
 | .bool b, _ => by simp only [ren, VR]
 | .int _ _, _ => by simp only [ren, VR]
 | .str l, _ => by simp only [ren, VR]
 | .nilptr, _ => by simp only [ren, VR]
 | .ptr i o, _ => by simp only [ren, VR]; exact Iff.rfl
 | .nilsl, _ => by simp only [ren, VR]
 | .sl i o l c z, _ => by simp only [ren, VR]; exact Iff.rfl
 | .esl i, _ => by simp only [ren, VR]; exact Iff.rfl
 | .nilmp, _ => by simp only [ren, VR]
 | .mp i, _ => by simp only [ren, VR]; exact Iff.rfl
 | .nilfn, _ => by simp only [ren, VR]
 | .fn g a b, v => by
  have ha := fun L => vrs_ren (ρ := ρ) (f := f) a L
  have hb := fun L => vrs_ren (ρ := ρ) (f := f) b L
  have hg : ∀ f', FR ρ (renF f g) f' ↔ FR (pull ρ f) g f' := fun f' => by
   cases g <;> simp only [renF, FR] <;> exact Iff.rfl
  simp only [ren, VR, ha, hb, hg]
 | .nilifc, _ => by simp only [ren, VR]
 | .ifc t a, v => by
  have ha := fun x => vr_ren (ρ := ρ) (f := f) a x
  simp only [ren, VR, ha]
 | .agg l, v => by
  have ha := fun L => vrs_ren (ρ := ρ) (f := f) l L
  simp only [ren, VR, ha]
 | .tup l, v => by
  have ha := fun L => vrs_ren (ρ := ρ) (f := f) l L
  simp only [ren, VR, ha]
 | .gptr g o, _ => by simp only [ren, VR]
 | .anyb, _ => by simp only [ren, VR]
 | .big n, _ => by simp only [ren, VR]
 | .low n, _ => by simp only [ren, VR]
 | .anyi, _ => by simp only [ren, VR]
 | .rsl n z l, _ => by simp only [ren, VR]; exact Iff.rfl
 | .rptr l, _ => by simp only [ren, VR]; exact Iff.rfl
 | .csl, _ => by simp only [ren, VR]
 | .own i m z, _ => by simp only [ren, VR]; exact Iff.rfl
 | .optr i m o, _ => by simp only [ren, VR]; exact Iff.rfl
theorem vrs_ren {ρ : Map} {f : Nat → Nat} : ∀ (l : List AV) (L : List Value), VRs ρ (rens f l) L ↔ VRs (pull ρ f) l L
 | [], _ => by simp only [rens, VRs]
 | a :: l, L => by
  have ha := fun x => vr_ren (ρ := ρ) (f := f) a x
  have hl := fun M => vrs_ren (ρ := ρ) (f := f) l M
  simp only [rens, VRs, ha, hl]
end
/-! ## others' numbers: those handed over in their numbers, those of their own -/
def sg (is : List Nat) (b j : Nat) : Nat := match is with
 | [] => b + j
 | i :: r => (match j with | 0 => i | j + 1 => sg r b j)
def tau : List Nat → Nat → Nat → Option Nat
 | [], b, i => if b ≤ i then some (i - b) else none
 | x :: r, b, i => if i = x then some 0 else (tau r b i).map (· + 1)
def apart (b : Nat) : List Nat → Bool
 | [] => true
 | i :: r => (match Nat.ble (i + 1) b with | true => (match inL r i with | false => apart b r | true => false) | false => false)
theorem inL_of {xs : List Nat} {i : Nat} (h : i ∈ xs) : inL xs i = true := by
 induction xs with
 | nil => cases h
 | cons x r ih =>
  unfold inL
  rcases List.mem_cons.1 h with rfl | h
  ·simp only [Nat.beq_refl]
  ·split
   ·rfl
   ·exact ih h
theorem apart_cons {b i : Nat} {r : List Nat} (h : apart b (i :: r) = true) : i < b ∧ i ∉ r ∧ apart b r = true := by
 simp only [apart] at h
 split at h
 ·rename_i h1
  split at h
  ·rename_i h2
   refine ⟨bleT h1, ?_, h⟩
   intro q
   rw [inL_of q] at h2
   cases h2
  ·cases h
 ·cases h
theorem sg_in : ∀ (is : List Nat) (b j : Nat), sg is b j ∈ is ∨ b ≤ sg is b j
 | [], b, j => .inr (by simp only [sg]; omega)
 | i :: r, b, 0 => .inl (by simp only [sg]; exact List.mem_cons_self)
 | i :: r, b, j + 1 => by
  simp only [sg]
  rcases sg_in r b j with h | h
  ·exact .inl (List.mem_cons_of_mem _ h)
  ·exact .inr h
theorem tau_sg : ∀ {is : List Nat} {b : Nat} (j : Nat), apart b is = true → tau is b (sg is b j) = some j
 | [], b, j, _ => by
  have e : sg [] b j = b + j := rfl
  rw [e]
  simp only [tau]
  rw [if_pos (by omega)]; congr 1; omega
 | i :: r, b, 0, _ => by
  have e : sg (i :: r) b 0 = i := rfl
  rw [e]
  simp only [tau, if_pos]
 | i :: r, b, j + 1, h => by
  obtain ⟨h1, h2, h3⟩ := apart_cons h
  have e : sg (i :: r) b (j + 1) = sg r b j := rfl
  rw [e]
  simp only [tau]
  rw [if_neg (fun e => by rcases sg_in r b j with q | q; exact h2 (e ▸ q); omega), tau_sg j h3]; rfl
theorem sg_tau : ∀ {is : List Nat} {b i j : Nat}, tau is b i = some j → sg is b j = i
 | [], b, i, j, h => by
  simp only [tau] at h
  split at h
  ·cases h; simp only [sg]; omega
  ·cases h
 | x :: r, b, i, j, h => by
  simp only [tau] at h
  split at h
  ·cases h; rename_i e; simp only [sg]; exact e.symm
  ·cases j with
   | zero => cases q : tau r b i <;> rw [q] at h <;> cases h
   | succ j =>
    simp only [sg]
    refine sg_tau (is := r) (b := b) ?_
    cases q : tau r b i with
    | none => rw [q] at h; cases h
    | some k => rw [q] at h; cases h; rfl
theorem sg_lt : ∀ {is : List Nat} {b j : Nat}, apart b is = true → j < is.length → sg is b j < b
 | i :: r, b, 0, h, _ => by simp only [sg]; exact (apart_cons h).1
 | i :: r, b, j + 1, h, hj => by simp only [sg]; exact sg_lt (apart_cons h).2.2 (by simpa using hj)
theorem sg_ge : ∀ {is : List Nat} {b j : Nat}, is.length ≤ j → sg is b j = b + (j - is.length)
 | [], b, j, _ => by simp only [sg, List.length_nil]; omega
 | i :: r, b, 0, h => by simp at h
 | i :: r, b, j + 1, h => by
  simp only [sg]
  rw [sg_ge (by simpa using h)]
  simp only [List.length_cons]; omega
theorem sg_inj {is : List Nat} {b i j : Nat} (h : apart b is = true) (e : sg is b i = sg is b j) : i = j := by
 have := tau_sg i h
 rw [e, tau_sg j h] at this
 cases this; rfl
theorem tau_lt {is : List Nat} {b i j : Nat} (h : tau is b i = some j) (hi : i < b) : j < is.length := by
 have := sg_tau h
 rcases Nat.lt_or_ge j is.length with q | q
 ·exact q
 ·rw [sg_ge q] at this; omega
noncomputable def mixN : Nat → Heap → List Nat → List AB → Heap
 | n, h, i :: is, b :: bs => mixN n (h.put i b) is bs
 | n, h, [], b :: bs => mixN (n + 1) (newAt n h b) [] bs
 | _, h, _, [] => h
theorem mix_get_new : ∀ (bs : List AB) (b : Nat) (h : Heap) (i : Nat), (mixN b h [] bs).get i = (match tau [] b i with | some j => (bs[j]?).getD (h.get i) | none => h.get i)
 | [], b, h, i => by
  simp only [mixN]
  split <;> simp
 | x :: bs, b, h, i => by
  simp only [mixN]
  rw [mix_get_new bs (b + 1) (newAt b h x) i]
  have hg : (newAt b h x).get i = if i = b then x else h.get i := Px.get_set _ _ _ _ _
  simp only [tau]
  by_cases h1 : i = b
  ·subst h1
   rw [if_neg (by omega), if_pos (Nat.le_refl _)]
   simp only [hg, if_pos, Nat.sub_self]; rfl
  ·by_cases h2 : b ≤ i
   ·rw [if_pos (by omega), if_pos h2]
    simp only [hg, if_neg h1]
    rw [show i - b = (i - (b + 1)) + 1 by omega]; rfl
   ·rw [if_neg (by omega), if_neg h2]
    simp only [hg, if_neg h1]
theorem mix_get : ∀ (is : List Nat) (bs : List AB) (b : Nat) (h : Heap) (i : Nat), is.length ≤ bs.length → apart b is = true → (mixN b h is bs).get i = (match tau is b i with | some j => (bs[j]?).getD (h.get i) | none => h.get i)
 | [], bs, b, h, i, _, _ => mix_get_new bs b h i
 | x :: is, [], b, h, i, hl, _ => by simp at hl
 | x :: is, y :: bs, b, h, i, hl, ha => by
  obtain ⟨h1, h2, h3⟩ := apart_cons ha
  simp only [mixN]
  rw [mix_get is bs b (h.put x y) i (by simpa using hl) h3]
  simp only [tau, Heap.get_put]
  by_cases e : i = x
  ·subst e
   have : tau is b i = none := by
    cases q : tau is b i with
    | none => rfl
    | some j =>
     have := sg_tau q
     rcases sg_in is b j with r | r
     ·exact absurd (this ▸ r) h2
     ·omega
   rw [this]
   simp
  ·simp only [if_neg e]
   cases q : tau is b i with
   | none => rfl
   | some j => rfl
theorem mix_nxt : ∀ (is : List Nat) (bs : List AB) (b : Nat) (h : Heap), is.length ≤ bs.length → h.nxt = b → (mixN b h is bs).nxt = b + (bs.length - is.length)
 | [], [], b, h, _, e => by simpa [mixN] using e
 | [], x :: bs, b, h, _, e => by
  simp only [mixN]
  rw [mix_nxt [] bs (b + 1) (newAt b h x) (by simp) rfl]
  simp only [List.length_nil, List.length_cons]; omega
 | x :: is, [], b, h, hl, _ => by simp at hl
 | x :: is, y :: bs, b, h, hl, e => by
  simp only [mixN]
  rw [mix_nxt is bs b (h.put x y) (by simpa using hl) e]
  simp only [List.length_cons]; omega
theorem mix_tip : ∀ (is : List Nat) (bs : List AB) (b : Nat) (h : Heap) (q : Nat), (mixN b h is bs).tip q = h.tip q
 | [], [], b, h, q => rfl
 | [], x :: bs, b, h, q => by simp only [mixN]; rw [mix_tip [] bs]; rfl
 | x :: is, [], b, h, q => rfl
 | x :: is, y :: bs, b, h, q => by simp only [mixN]; rw [mix_tip is bs]; rfl
/-! ## what is handed over -/
inductive MB where
 | no
 | row (t : TypeId) (cs : List AV)
 | arr (t : TypeId) (z n : Nat) (l : List AV)
def MB.ab : MB → AB
 | .no => .none
 | .row t cs => .row ⟨t, cs.length, .leaf, cs, none⟩
 | .arr t z n l => .arr t z n l
def MB.ren (f : Nat → Nat) : MB → MB
 | .no => .no
 | .row t cs => .row t (rens f cs)
 | .arr t z n l => .arr t z n l
def MB.low (k : Nat) : MB → Bool
 | .row _ cs => lowsB k cs
 | _ => true
def lowM (k : Nat) : List MB → Bool
 | [] => true
 | b :: r => (match b.low k with | true => lowM k r | false => false)
theorem lowM_at {k : Nat} : ∀ {bs : List MB} {j : Nat} {b : MB}, lowM k bs = true → bs[j]? = some b → b.low k = true
 | [], j, b, _, h => by simp at h
 | x :: r, j, b, h, e => by
  simp only [lowM] at h
  split at h
  ·rename_i hx
   cases j with
   | zero => simp at e; subst e; exact hx
   | succ j => exact lowM_at (bs := r) h (by simpa using e)
  ·cases h
def MbAt (h : Heap) (i : Nat) (b : MB) : Prop :=
 match b with
 | .no => True
 | .row t cs => ∃ r, h.get i = .row r ∧ r.t = t ∧ r.n = cs.length ∧ r.root = none ∧ r.read 0 r.n = cs
 | .arr t z n l => h.get i = .arr t z n l
def MB.live : MB → Bool | .no => false | _ => true
def BlksAt (h : Heap) (f : Nat → Nat) : List Nat → List MB → Prop
 | [], [] => True
 | i :: is, b :: bs => (b.live = true ∧ MbAt h i (b.ren f)) ∧ BlksAt h f is bs
 | _, _ => False
theorem BlksAt.len {h : Heap} {f : Nat → Nat} : ∀ {is : List Nat} {bs : List MB}, BlksAt h f is bs → is.length = bs.length
 | [], [], _ => rfl
 | [], _ :: _, h => h.elim
 | _ :: _, [], h => h.elim
 | i :: is, b :: bs, ⟨_, h⟩ => by simp only [List.length_cons, h.len]
theorem BlksAt.at_ {h : Heap} {f : Nat → Nat} : ∀ {is : List Nat} {bs : List MB} {n j : Nat} {b : MB}, BlksAt h f is bs → bs[j]? = some b → b.live = true ∧ MbAt h (sg is n j) (b.ren f)
 | [], [], n, j, b, _, e => by simp at e
 | [], _ :: _, n, j, b, h, _ => h.elim
 | _ :: _, [], n, j, b, h, _ => h.elim
 | i :: is, b :: bs, n, 0, b', ⟨h, _⟩, e => by simp at e; subst e; exact h
 | i :: is, b :: bs, n, j + 1, b', ⟨_, h⟩, e => by simp only [sg]; exact h.at_ (by simpa using e)
def ptrs : List MB → Nat → List AV
 | [], _ => []
 | .row _ _ :: r, j => .ptr j 0 :: ptrs r (j + 1)
 | .arr _ _ _ _ :: r, j => ptrs r (j + 1)
 | .no :: r, j => ptrs r (j + 1)
theorem ptrs_mem : ∀ {bs : List MB} {n j : Nat} {t : TypeId} {cs : List AV}, bs[j]? = some (.row t cs) → AV.ptr (n + j) 0 ∈ ptrs bs n
 | [], n, j, t, cs, h => by simp at h
 | x :: r, n, 0, t, cs, h => by simp at h; subst h; simp [ptrs]
 | x :: r, n, j + 1, t, cs, h => by
  have ih := ptrs_mem (bs := r) (n := n + 1) (j := j) (by simpa using h)
  rw [show n + 1 + j = n + (j + 1) by omega] at ih
  cases x <;> simp only [ptrs] <;> first | exact List.mem_cons_of_mem _ ih | exact ih
def arrI : List Nat → List MB → List Nat
 | i :: is, .row _ _ :: bs => arrI is bs
 | i :: is, _ :: bs => i :: arrI is bs
 | _, _ => []
def rowI : List Nat → List MB → List Nat
 | i :: is, .row _ _ :: bs => i :: rowI is bs
 | i :: is, _ :: bs => rowI is bs
 | _, _ => []
theorem arr_or : ∀ {is : List Nat} {bs : List MB} {i : Nat}, is.length = bs.length → i ∈ is → inL (arrI is bs) i = true ∨ inL (rowI is bs) i = true
 | [], _, i, _, h => by cases h
 | x :: is, [], i, hl, _ => by simp at hl
 | x :: is, b :: bs, i, hl, h => by
  have hl' : is.length = bs.length := by simpa using hl
  rcases List.mem_cons.1 h with rfl | h
  ·cases b <;> simp [arrI, rowI, inL]
  ·rcases arr_or hl' h with q | q
   ·left
    cases b <;> simp only [arrI] <;> first | exact q | (unfold inL; split <;> first | rfl | exact q)
   ·right
    cases b <;> simp only [rowI] <;> first | exact q | (unfold inL; split <;> first | rfl | exact q)
theorem row_at_ : ∀ {is : List Nat} {bs : List MB} {i n : Nat}, inL (rowI is bs) i = true → ∃ j t cs, bs[j]? = some (.row t cs) ∧ sg is n j = i
 | [], _, i, n, h => by simp [rowI, inL] at h
 | x :: is, [], i, n, h => by simp [rowI, inL] at h
 | x :: is, b :: bs, i, n, h => by
  have ih := fun q => row_at_ (is := is) (bs := bs) (i := i) (n := n) q
  cases b with
  | row t cs =>
   simp only [rowI] at h
   unfold inL at h
   split at h
   ·rename_i q; exact ⟨0, t, cs, rfl, by simp only [sg]; exact beqT q⟩
   ·obtain ⟨j, t', cs', h1, h2⟩ := ih h
    exact ⟨j + 1, t', cs', by simpa using h1, by simpa only [sg] using h2⟩
  | no =>
   obtain ⟨j, t', cs', h1, h2⟩ := ih h
   exact ⟨j + 1, t', cs', by simpa using h1, by simpa only [sg] using h2⟩
  | arr a b c d =>
   obtain ⟨j, t', cs', h1, h2⟩ := ih h
   exact ⟨j + 1, t', cs', by simpa using h1, by simpa only [sg] using h2⟩
/-! ## what others hold stays -/
def nin (A : List Nat) (i : Nat) : Bool := match inL A i with | true => false | false => true
def nin2 (A R : List Nat) (i : Nat) : Bool := match inL A i with | true => false | false => nin R i
theorem nin_f {A : List Nat} {i : Nat} (h : nin A i = true) : inL A i = false := by
 unfold nin at h
 split at h
 ·cases h
 ·assumption
theorem nin2_f {A R : List Nat} {i : Nat} (h : nin2 A R i = true) : inL A i = false ∧ inL R i = false := by
 unfold nin2 at h
 split at h
 ·cases h
 ·exact ⟨by assumption, nin_f h⟩
mutual
def okB (A R : List Nat) : AV → Bool
 | .ptr i _ => nin A i
 | .sl i _ _ _ _ => nin2 A R i
 | .esl i => nin2 A R i
 | .mp i => nin2 A R i
 | .own i _ _ => nin2 A R i
 | .optr i _ _ => nin2 A R i
 | .fn f a b => (match (match f with | .yield l => nin2 A R l | _ => true) with | true => (match oksB A R a with | true => oksB A R b | false => false) | false => false)
 | .ifc _ a => okB A R a
 | .agg l => oksB A R l
 | .tup l => oksB A R l
 | _ => true
def oksB (A R : List Nat) : List AV → Bool
 | [] => true
 | a :: l => (match okB A R a with | true => oksB A R l | false => false)
end
structure SubM (A R : List Nat) (ρ σ : Map) : Prop where
 m : ∀ i p, inL A i = false → inL R i = false → ρ i = some p → σ i = some p
 r : ∀ i B N, inL A i = false → inL R i = true → ρ i = some (B, N) → ∃ N', σ i = some (B, N')
 F : ∀ (b j : Nat) (x : Value), (ρ.F b)[j]? = some x → (σ.F b)[j]? = some x
 V : ∀ i n v, inL A i = false → inL R i = false → ρ.V i n = some v → σ.V i n = some v
theorem SubM.d {A R : List Nat} {ρ σ : Map} (h : SubM A R ρ σ) : Sub ρ.d σ.d := ⟨(fun _ _ e => by cases e), h.F, (fun _ _ _ e => by cases e)⟩
theorem SubM.fz {A R : List Nat} {ρ σ : Map} (h : SubM A R ρ σ) {B o : Nat} {L : List Value} (q : Fz ρ B o L) : Fz σ B o L := fun j x e => h.F B _ x (q j x e)
mutual
theorem okB_ok {A R : List Nat} {ρ σ : Map} (s : SubM A R ρ σ) : ∀ (a : AV) {v : Value}, okB A R a = true → VR ρ a v → VR σ a v
 | .bad, _, _, _ => by simp [VR]
 | .bool b, _, _, q => by simpa [VR] using q
 | .int _ _, _, _, q => by simpa [VR] using q
 | .str l, _, _, q => by simpa [VR] using q
 | .nilptr, _, _, q => by simpa [VR] using q
 | .ptr i o, v, h, q => by
  simp only [okB] at h
  simp only [VR] at q ⊢
  obtain ⟨B, N, e, r⟩ := q
  cases hr : inL R i with
  | true => obtain ⟨N', e'⟩ := s.r i B N (nin_f h) hr e; exact ⟨B, N', e', r⟩
  | false => exact ⟨B, N, s.m i _ (nin_f h) hr e, r⟩
 | .nilsl, _, _, q => by simpa [VR] using q
 | .sl i o l c z, v, h, q => by
  simp only [okB] at h
  simp only [VR] at q ⊢
  obtain ⟨B, N, C, e, r⟩ := q; exact ⟨B, N, C, s.m i _ (nin2_f h).1 (nin2_f h).2 e, r⟩
 | .esl i, v, h, q => by
  simp only [okB] at h
  simp only [VR] at q ⊢
  obtain ⟨B, N, o, C, e, r⟩ := q; exact ⟨B, N, o, C, s.m i _ (nin2_f h).1 (nin2_f h).2 e, r⟩
 | .nilmp, _, _, q => by simpa [VR] using q
 | .mp i, v, h, q => by
  simp only [okB] at h
  simp only [VR] at q ⊢
  obtain ⟨B, N, e, r⟩ := q; exact ⟨B, N, s.m i _ (nin2_f h).1 (nin2_f h).2 e, r⟩
 | .nilfn, _, _, q => by simpa [VR] using q
 | .fn f a b, v, h, q => by
  have h' := h
  simp only [okB] at h'
  split at h'
  ·rename_i hf
   split at h'
   ·rename_i ha
    simp only [VR] at q ⊢
    obtain ⟨f', F, C, e1, e2, e3, e4⟩ := q
    refine ⟨f', F, C, ?_, oksB_ok s a ha e2, oksB_ok s b h' e3, e4⟩
    cases f <;> simp only [FR] at e1 ⊢
    all_goals first | exact e1 | (obtain ⟨B, N, e, r⟩ := e1; exact ⟨B, N, s.m _ _ (nin2_f hf).1 (nin2_f hf).2 e, r⟩)
   ·cases h'
  ·cases h'
 | .nilifc, _, _, q => by simpa [VR] using q
 | .ifc t a, v, h, q => by
  simp only [okB] at h
  simp only [VR] at q ⊢
  obtain ⟨x, e, r⟩ := q; exact ⟨x, okB_ok s a h e, r⟩
 | .agg l, v, h, q => by
  simp only [okB] at h
  simp only [VR] at q ⊢
  obtain ⟨x, e, r⟩ := q; exact ⟨x, oksB_ok s l h e, r⟩
 | .tup l, v, h, q => by
  simp only [okB] at h
  simp only [VR] at q ⊢
  obtain ⟨x, e, r⟩ := q; exact ⟨x, oksB_ok s l h e, r⟩
 | .gptr g o, _, _, q => by simpa [VR] using q
 | .anyb, _, _, q => by simpa [VR] using q
 | .big n, _, _, q => by simpa [VR] using q
 | .low n, _, _, q => by simpa [VR] using q
 | .anyi, _, _, q => by simpa [VR] using q
 | .rsl n z l, v, h, q => by
  simp only [VR] at q ⊢
  obtain ⟨h0, k | ⟨B, o, C, L, e1, e2, e3, e4⟩⟩ := q
  ·exact ⟨h0, .inl k⟩
  ·exact ⟨h0, .inr ⟨B, o, C, L, e1, e2, VRs.mono s.d l e3, s.fz e4⟩⟩
 | .rptr l, v, h, q => by
  simp only [VR] at q ⊢
  obtain ⟨B, o, L, e1, e3, e4⟩ := q
  exact ⟨B, o, L, e1, VRs.mono s.d l e3, s.fz e4⟩
 | .csl, _, _, q => by simpa [VR] using q
 | .own i m z, v, h, q => by
  simp only [okB] at h
  simp only [VR] at q ⊢; exact ⟨s.V _ _ _ (nin2_f h).1 (nin2_f h).2 q.1, q.2⟩
 | .optr i m o, v, h, q => by
  simp only [okB] at h
  simp only [VR] at q ⊢
  obtain ⟨B, C, e1, e2⟩ := q
  exact ⟨B, C, s.V _ _ _ (nin2_f h).1 (nin2_f h).2 e1, e2⟩
theorem oksB_ok {A R : List Nat} {ρ σ : Map} (s : SubM A R ρ σ) : ∀ (l : List AV) {L : List Value}, oksB A R l = true → VRs ρ l L → VRs σ l L
 | [], _, _, q => by simpa [VRs] using q
 | a :: l, L, h, q => by
  have h' := h
  simp only [oksB] at h'
  split at h'
  ·rename_i ha
   simp only [VRs] at q ⊢
   obtain ⟨x, r, e1, e2, e3⟩ := q
   exact ⟨x, r, okB_ok s a ha e1, oksB_ok s l h' e2, e3⟩
  ·cases h'
end
def ABOk (A R : List Nat) (b : AB) : Prop :=
 match b with
 | .none => True
 | .row r => ((List.range r.n).all fun j => okB A R (r.get j)) = true
 | .loop l => ∃ lst, l.e = T.put und lst .leaf 0 ∧ oksB A R lst = true ∧ nin2 A R l.defers = true
 | .dfr _ => True
 | .arr _ _ _ _ => True
 | _ => False
theorem put_okB {A R : List Nat} : ∀ {lst : List AV}, oksB A R lst = true → ∀ t, okB A R ((T.put und lst (.leaf : T AV) 0).get und t) = true := fun {lst} h t => by
 rw [get_put]
 simp only [Nat.zero_le, if_true, Nat.sub_zero, get_leaf]
 have key : ∀ (l : List AV), oksB A R l = true → ∀ (i : Nat) (a : AV), l[i]? = some a → okB A R a = true := by
  intro l
  induction l with
  | nil => intro _ i a q; simp at q
  | cons x l ih =>
   intro h i a q
   simp only [oksB] at h
   split at h
   ·rename_i hx
    cases i with
    | zero => simp at q; subst q; exact hx
    | succ i => exact ih h i a (by simpa using q)
   ·cases h
 cases hq : lst[t]? with
 | none => rfl
 | some a => exact key lst h t a hq
theorem ABR.okm {A R : List Nat} {ρ σ : Map} (s : SubM A R ρ σ) {b : AB} (hb : ABOk A R b) {B N : Nat} {w : World} (h : ABR ρ b B N w) : ABR σ b B N w := by
 cases b with
 | none => trivial
 | row r =>
  refine ⟨h.1, h.2.1, h.2.2.1, fun j hj => ?_⟩
  obtain ⟨v, a, q⟩ := h.2.2.2 j hj
  exact ⟨v, a, okB_ok s _ (List.all_eq_true.1 hb j (List.mem_range.2 hj)) q⟩
 | loop l =>
  obtain ⟨lst, e1, e2, e3⟩ := hb
  obtain ⟨fn, tm, D, M, a, q, r⟩ := h
  refine ⟨fn, tm, D, M, a, ⟨q.1, fun t => ?_⟩, s.m _ _ (nin2_f e3).1 (nin2_f e3).2 r⟩
  have := q.2 t
  rw [e1] at this ⊢
  exact okB_ok s _ (put_okB e2 t) this
 | dfr b => exact h
 | arr t z m l =>
  have h : RowOk ρ.d ⟨t, m * z, .leaf, l, none⟩ B N w := h
  exact RowOk.mono h s.d
 | map es c => exact hb.elim
 | sit l p => exact hb.elim
 | mit m a b c => exact hb.elim
 | gl r => exact hb.elim
def HOk (is A R : List Nat) (h : Heap) : Prop := allN h.nxt fun i => inL is i = true ∨ ABOk A R (h.get i)
theorem HOk.at_ {is A R : List Nat} {h : Heap} (q : HOk is A R h) (wf : WF h) {i : Nat} (hi : i ∉ is) : ABOk A R (h.get i) := by
 rcases Nat.lt_or_ge i h.nxt with q' | q'
 ·rcases allN_at q q' with r | r
  ·exact absurd (inL_mem r) hi
  ·exact r
 ·rw [wf.fresh i q']; trivial
end Go.Px
end
section
namespace Go.Px
theorem Row.read_get (r : Row) (n j : Nat) (h : j < n) : (r.read 0 n).getD j .bad = r.get j := by
 rw [Row.read_eq, List.getD_eq_getElem?_getD, Row.readS_at r n 0 j h, Nat.zero_add]; rfl
theorem sg_mem {b : Nat} : ∀ {is : List Nat} {i : Nat}, i ∈ is → ∃ j, j < is.length ∧ sg is b j = i
 | x :: r, i, h => by
  rcases List.mem_cons.1 h with rfl | h
  ·exact ⟨0, by simp, rfl⟩
  ·obtain ⟨j, j1, j2⟩ := sg_mem (b := b) h
   exact ⟨j + 1, by simpa using j1, by simpa only [sg] using j2⟩
theorem hq_get (N : Nat) (bs : List AB) (i : Nat) : (hq N bs).get i = (bs[i]?).getD .none := by
 show (T.put AB.none bs .leaf 0).get .none i = _
 rw [get_put]
 simp
theorem hq_ab (N : Nat) (bs : List MB) (i : Nat) : (hq N (bs.map MB.ab)).get i = ((bs[i]?).map MB.ab).getD .none := by
 rw [hq_get, List.getElem?_map]
theorem hq_mb {N : Nat} {bs : List MB} {i : Nat} {b : AB} (h : (hq N (bs.map MB.ab)).get i = b) (hn : b ≠ .none) : ∃ x, bs[i]? = some x ∧ x.ab = b := by
 rw [hq_ab] at h
 cases e : bs[i]? with
 | none => rw [e] at h; exact absurd h.symm hn
 | some x => rw [e] at h; exact ⟨x, rfl, h⟩
theorem hq_wf {N : Nat} {bs : List MB} (hN : bs.length = N) : WF (hq N (bs.map MB.ab)) := by
 refine ⟨fun i hi => ?_, fun i r q a b => ?_, fun i r q t a b c => ?_, fun q _ => get_leaf none q⟩
 ·have hi : N ≤ i := hi
  rw [hq_ab, List.getElem?_eq_none (by omega)]; rfl
 ·obtain ⟨x, x1, x2⟩ := hq_mb a (by simp)
  cases x <;> simp only [MB.ab] at x2 <;> cases x2
  cases b
 ·obtain ⟨x, x1, x2⟩ := hq_mb a (by simp)
  cases x <;> simp only [MB.ab] at x2 <;> cases x2
  cases b
theorem hq_okm {N : Nat} {bs : List MB} {i : Nat} (h : (hq N (bs.map MB.ab)).ok i) : ∃ x, bs[i]? = some x ∧ (hq N (bs.map MB.ab)).get i = x.ab ∧ x.live = true := by
 have hne : (hq N (bs.map MB.ab)).get i ≠ .none := fun q => by unfold Heap.ok at h; rw [q] at h; exact h
 obtain ⟨x, x1, x2⟩ := hq_mb (b := (hq N (bs.map MB.ab)).get i) rfl hne
 refine ⟨x, x1, x2.symm, ?_⟩
 cases x with
 | no => exact absurd x2.symm hne
 | row t cs => rfl
 | arr t z n l => rfl
def opnOf (ρ : Map) (B : Nat) : Prop := ∃ j N, ρ j = some (B, N)
def inMap (ρ : Map) (is : List Nat) (b k : Nat) : Map := cutN (pull ρ (sg is b)) k
theorem inMap_m {ρ : Map} {is : List Nat} {b k j : Nat} {p : Nat × Nat} (h : inMap ρ is b k j = some p) : j < k ∧ ρ (sg is b j) = some p := by
 unfold inMap at h
 by_cases hj : j < k
 ·rw [cutN_m hj] at h; exact ⟨hj, h⟩
 ·rw [cutN_n hj] at h; cases h
theorem MbAt.okk {h : Heap} {i : Nat} {b : MB} (hl : b.live = true) (hb : MbAt h i b) : h.ok i := by
 cases b with
 | no => cases hl
 | row t cs =>
  obtain ⟨r, r1, _, _, r4, _⟩ := hb
  unfold Heap.ok; rw [r1]; simp only []; rw [Heap.row_of r1, r4]; rfl
 | arr t z n l =>
  have hb : h.get i = .arr t z n l := hb
  unfold Heap.ok; rw [hb]; trivial
theorem MbAt.noroot {h : Heap} {i : Nat} {b : MB} (hl : b.live = true) (hb : MbAt h i b) {r : Row} (e : h.get i = .row r) : r.root = none := by
 cases b with
 | no => cases hl
 | row t cs =>
  obtain ⟨r', r1, _, _, r4, _⟩ := hb
  rw [r1] at e; cases e; exact r4
 | arr t z n l =>
  have hb : h.get i = .arr t z n l := hb
  rw [hb] at e; cases e
theorem MbAt.nogl {h : Heap} {i : Nat} {b : MB} (hl : b.live = true) (hb : MbAt h i b) {r : Row} : h.get i ≠ .gl r := by
 cases b with
 | no => cases hl
 | row t cs =>
  obtain ⟨r', r1, _⟩ := hb
  rw [r1]; exact fun e => by cases e
 | arr t z n l =>
  have hb : h.get i = .arr t z n l := hb
  rw [hb]; exact fun e => by cases e
theorem ren_live {f : Nat → Nat} {b : MB} : (b.ren f).live = b.live := by cases b <;> rfl
section
variable {X : Cx} {ρ : Map} {h : Heap} {w : World} (p : PI X ρ h w) {is : List Nat} {bs : List MB}
include p
theorem PI.enter (hg : ∀ i r, X.c.g0.get i ≠ .gl r) (hap : apart h.nxt is = true) (hb : BlksAt h (sg is h.nxt) is bs) (hlow : lowM bs.length bs = true) {gx : List Value} (hgx : VRs (inMap ρ is h.nxt bs.length) (ptrs bs 0) gx) :
  PI ⟨X.c, w, ρ.F, opnOf (inMap ρ is h.nxt bs.length), none, none, [], ptrs bs 0, gx⟩ (inMap ρ is h.nxt bs.length) (hq bs.length (bs.map MB.ab)) w := by
 have hlen := hb.len
 refine ⟨⟨fun i B N e => p.hr.lt _ B N (inMap_m e).2, fun i B N e q => ?_, fun i j B N M hij e1 e2 k1 k2 => ?_, fun i r q => ?_, p.hr.fz, fun i B N e q => ?_, fun i t z n l q => ?_⟩, hq_wf rfl, ⟨fun i hi => cutN_n (show ¬ i < bs.length from Nat.not_lt.2 hi), fun i r q => absurd q (hg i r)⟩, fun i hi n => if_neg (show ¬ i < bs.length from Nat.not_lt.2 hi), fun i t z n l q m' hm' => ?_, ⟨Same.refl w, fun _ _ => rfl⟩, fun i B N e hs => hs.2 ⟨i, N, e⟩, fun _ _ _ e => e, fun _ _ => rfl, hgx, fun G q => by cases q⟩
 ·obtain ⟨hi, e'⟩ := inMap_m e
  obtain ⟨x, x1, x2, x3⟩ := hq_okm q
  obtain ⟨_, y2⟩ := hb.at_ (n := h.nxt) x1
  have hok := MbAt.okk (by rw [ren_live]; exact x3) y2
  have hr := p.hr.ok _ B N e' hok
  rw [x2]
  cases x with
  | no => trivial
  | arr t z n l =>
   have y2 : h.get (sg is h.nxt i) = .arr t z n l := y2
   rw [y2] at hr; exact hr
  | row t cs =>
   obtain ⟨r, r1, r2, r3, r4, r5⟩ := y2
   rw [r1] at hr
   have hr : RowOk ρ r B N w := hr
   rw [rens_length] at r3
   refine ⟨by rw [← r2]; exact hr.1, by rw [← r3]; exact hr.2.1, hr.2.2.1, fun j hj => ?_⟩
   have hj : j < cs.length := hj
   obtain ⟨v, v1, v2⟩ := hr.2.2.2 j (by omega)
   refine ⟨v, v1, ?_⟩
   rw [row_at_i hj]
   have e5 : r.get j = ren (sg is h.nxt) (cs.getD j .bad) := by
    rw [← rens_get, ← r5, Row.read_get r r.n j (by omega)]
   rw [e5] at v2
   exact low_ok _ (lows_at (lowM_at hlow x1) hj) ((vr_ren _ _).1 v2)
 ·obtain ⟨x, x1, x2, x3⟩ := hq_okm k1
  obtain ⟨y, y1, y2, y3⟩ := hq_okm k2
  obtain ⟨_, z1⟩ := hb.at_ (n := h.nxt) x1
  obtain ⟨_, z2⟩ := hb.at_ (n := h.nxt) y1
  obtain ⟨r, s, q, a, b, c, _⟩ := p.hr.inj _ _ B N M (fun e => hij (sg_inj hap e)) (inMap_m e1).2 (inMap_m e2).2 (MbAt.okk (by rw [ren_live]; exact x3) z1) (MbAt.okk (by rw [ren_live]; exact y3) z2)
  rw [MbAt.noroot (by rw [ren_live]; exact x3) z1 a] at c; cases c
 ·obtain ⟨x, x1, x2⟩ := hq_mb q (by simp)
  cases x <;> simp only [MB.ab] at x2 <;> cases x2
 ·obtain ⟨x, x1, x2, x3⟩ := hq_okm q
  obtain ⟨_, z1⟩ := hb.at_ (n := h.nxt) x1
  exact .inl (p.hr.F_row (inMap_m e).2 (MbAt.okk (by rw [ren_live]; exact x3) z1) (fun r => MbAt.nogl (by rw [ren_live]; exact x3) z1))
 ·obtain ⟨x, x1, x2⟩ := hq_mb q (by simp)
  cases x <;> simp only [MB.ab] at x2 <;> cases x2
  obtain ⟨_, y2⟩ := hb.at_ (n := h.nxt) x1
  have hi := (List.getElem?_eq_some_iff.1 x1).1
  obtain ⟨h0, ⟨a, o, b⟩ | ⟨B, N, C, e1, e2, e3⟩⟩ := p.hr.av _ t z n l y2
  ·exact ⟨h0, .inl ⟨a, o, (cutN_V hi _).trans b⟩⟩
  ·exact ⟨h0, .inr ⟨B, N, C, (cutN_m hi).trans e1, (cutN_V hi _).trans e2, e3⟩⟩
 ·obtain ⟨x, x1, x2⟩ := hq_mb q (by simp)
  cases x <;> simp only [MB.ab] at x2 <;> cases x2
  obtain ⟨_, y2⟩ := hb.at_ (n := h.nxt) x1
  exact (cutN_V (List.getElem?_eq_some_iff.1 x1).1 _).trans (p.vu _ t z n l y2 m' hm')
def outMap (ρ ρ' : Map) (is : List Nat) (b k : Nat) : Map :=
 ⟨fun i => (match tau is b i with | some j => cutN ρ' k j | none => ρ i), ρ'.F, fun i n => (match tau is b i with | some j => (cutN ρ' k).V j n | none => ρ.V i n)⟩
omit p in
theorem outMap_m {ρ ρ' : Map} {is : List Nat} {b k i j : Nat} (e : tau is b i = some j) : outMap ρ ρ' is b k i = cutN ρ' k j := by unfold outMap; simp only [e]
omit p in
theorem outMap_n {ρ ρ' : Map} {is : List Nat} {b k i : Nat} (e : tau is b i = none) : outMap ρ ρ' is b k i = ρ i := by unfold outMap; simp only [e]
omit p in
theorem outMap_V {ρ ρ' : Map} {is : List Nat} {b k i j : Nat} (e : tau is b i = some j) (n : Nat) : (outMap ρ ρ' is b k).V i n = (cutN ρ' k).V j n := by unfold outMap; simp only [e]
omit p in
theorem outMap_W {ρ ρ' : Map} {is : List Nat} {b k i : Nat} (e : tau is b i = none) (n : Nat) : (outMap ρ ρ' is b k).V i n = ρ.V i n := by unfold outMap; simp only [e]
omit p in
theorem outMap_ren {ρ ρ' : Map} {is : List Nat} {b k : Nat} (hap : apart b is = true) {v : AV} {z : Value} (hl : lowB k v = true) (h : VR ρ' v z) : VR (outMap ρ ρ' is b k) (ren (sg is b) v) z := by
 refine (vr_ren _ _).2 (VR.mono (ρ := cutN ρ' k) (σ := pull (outMap ρ ρ' is b k) (sg is b)) ⟨fun i q e => ?_, fun _ _ _ e => e, fun i n q e => ?_⟩ v (low_ok v hl h))
 ·show outMap ρ ρ' is b k (sg is b i) = some q
  rw [outMap_m (tau_sg i hap)]; exact e
 ·show (outMap ρ ρ' is b k).V (sg is b i) n = some q
  rw [outMap_V (tau_sg i hap)]; exact e
theorem PI.back (hg : ∀ i r, X.c.g0.get i ≠ .gl r) (hap : apart h.nxt is = true) (hb : BlksAt h (sg is h.nxt) is bs) {gx : List Value} (hgx : VRs (inMap ρ is h.nxt bs.length) (ptrs bs 0) gx)
  (hI : HOk is (arrI is bs) (rowI is bs) h) (hG : oksB (arrI is bs) (rowI is bs) X.gv = true) (hz : X.g = none ∨ (nin is 0 && nin is 1 && Nat.ble 2 h.nxt) = true) {bs' : List MB} (hle : bs.length ≤ bs'.length) (hlow : lowM bs'.length bs' = true) {ρ' : Map} {w' : World}
  (q : PI ⟨X.c, w, ρ.F, opnOf (inMap ρ is h.nxt bs.length), none, none, [], ptrs bs 0, gx⟩ ρ' (hq bs'.length (bs'.map MB.ab)) w') :
  PI X (outMap ρ ρ' is h.nxt bs'.length) (mixN h.nxt h is (bs'.map fun b => (b.ren (sg is h.nxt)).ab)) w' ∧ SubM (arrI is bs) (rowI is bs) ρ (outMap ρ ρ' is h.nxt bs'.length) := by
 have hlen := hb.len
 have hle' : is.length ≤ (bs'.map fun b => (b.ren (sg is h.nxt)).ab).length := by rw [List.length_map]; omega
 have hnew : ∀ i, h.nxt ≤ i → ρ i = none := fun i hi => p.fr.1 i hi
 have hsome : ∀ {i j}, tau is h.nxt i = some j → sg is h.nxt j = i := fun e => sg_tau e
 have hnone : ∀ {i}, tau is h.nxt i = none → i ∉ is ∧ i < h.nxt := fun {i} e => by
  constructor
  ·intro hi
   obtain ⟨j, hj, rfl⟩ := sg_mem (b := h.nxt) hi
   rw [tau_sg j hap] at e; cases e
  ·rcases Nat.lt_or_ge i h.nxt with r | r
   ·exact r
   ·have e2 : sg is h.nxt (is.length + (i - h.nxt)) = i := by rw [sg_ge (by omega)]; omega
    rw [← e2, tau_sg _ hap] at e; cases e
 have g1 : ∀ {i j}, tau is h.nxt i = some j → ∀ {b}, bs'[j]? = some b → (mixN h.nxt h is (bs'.map fun b => (b.ren (sg is h.nxt)).ab)).get i = (b.ren (sg is h.nxt)).ab := fun {i j} e {b} hb' => by
  rw [mix_get _ _ _ _ _ hle' hap, e]
  simp only [List.getElem?_map, hb', Option.map_some, Option.getD_some]
 have g2 : ∀ {i}, tau is h.nxt i = none → (mixN h.nxt h is (bs'.map fun b => (b.ren (sg is h.nxt)).ab)).get i = h.get i := fun {i} e => by
  rw [mix_get _ _ _ _ _ hle' hap, e]
 have g3 : ∀ {i j}, tau is h.nxt i = some j → bs'[j]? = none → (mixN h.nxt h is (bs'.map fun b => (b.ren (sg is h.nxt)).ab)).get i = .none := fun {i j} e hb' => by
  rw [mix_get _ _ _ _ _ hle' hap, e]
  simp only [List.getElem?_map, hb', Option.map_none, Option.getD_none]
  have := List.getElem?_eq_none_iff.1 hb'
  have e2 := hsome e
  rw [sg_ge (by omega)] at e2
  exact p.wf.fresh i (by omega)
 have gn := mix_nxt is (bs'.map fun b => (b.ren (sg is h.nxt)).ab) h.nxt h hle' rfl
 rw [List.length_map] at gn
 have gt := mix_tip is (bs'.map fun b => (b.ren (sg is h.nxt)).ab) h.nxt h
 generalize mixN h.nxt h is (bs'.map fun b => (b.ren (sg is h.nxt)).ab) = H at *
 have hin : ∀ {i j}, tau is h.nxt i = some j → H.ok i → ∃ b, bs'[j]? = some b ∧ H.get i = (b.ren (sg is h.nxt)).ab ∧ b.live = true ∧ (hq bs'.length (bs'.map MB.ab)).ok j ∧ (hq bs'.length (bs'.map MB.ab)).get j = b.ab := fun {i j} e o => by
  cases hb' : bs'[j]? with
  | none => unfold Heap.ok at o; rw [g3 e hb'] at o; exact o.elim
  | some b =>
   have hgj : (hq bs'.length (bs'.map MB.ab)).get j = b.ab := by rw [hq_ab, hb']; rfl
   refine ⟨b, rfl, g1 e hb', ?_, ?_, hgj⟩
   ·cases b with
    | no => unfold Heap.ok at o; rw [g1 e hb'] at o; exact o.elim
    | row t cs => rfl
    | arr t z n l => rfl
   ·cases b with
    | no => unfold Heap.ok at o; rw [g1 e hb'] at o; exact o.elim
    | row t cs =>
     have hgj : (hq bs'.length (bs'.map MB.ab)).get j = .row ⟨t, cs.length, .leaf, cs, none⟩ := hgj
     unfold Heap.ok; rw [hgj]; simp only []; rw [Heap.row_of hgj]; rfl
    | arr t z n l =>
     have hgj : (hq bs'.length (bs'.map MB.ab)).get j = .arr t z n l := hgj
     unfold Heap.ok; rw [hgj]; trivial
 have hoth : ∀ {i}, tau is h.nxt i = none → (H.ok i ↔ h.ok i) := fun e => Heap.ok_same (g2 e) (fun r q _ _ => by rw [gt])
 have hsz : w.heap.size ≤ w'.heap.size := q.ext.1.size
 have other : ∀ {i B N}, tau is h.nxt i = none → ρ i = some (B, N) → h.ok i → ¬ opnOf (inMap ρ is h.nxt bs.length) B := fun {i B N} e e1 o ⟨j, M, ej⟩ => by
  obtain ⟨hj, e2⟩ := inMap_m ej
  have hne : i ≠ sg is h.nxt j := fun ee => by rw [ee, tau_sg j hap] at e; cases e
  obtain ⟨b, hbj⟩ : ∃ b, bs[j]? = some b := ⟨_, List.getElem?_eq_getElem hj⟩
  obtain ⟨y1, y2⟩ := hb.at_ (n := h.nxt) hbj
  obtain ⟨r, s, qq, a, c, d, f⟩ := p.hr.inj i _ B N M hne e1 e2 o (MbAt.okk (by rw [ren_live]; exact y1) y2)
  rw [MbAt.noroot (by rw [ren_live]; exact y1) y2 c] at f; cases f
 have stay : ∀ {i B N}, tau is h.nxt i = none → ρ i = some (B, N) → h.ok i → w'.heap[B]? = w.heap[B]? ∧ ρ'.F B = ρ.F B := fun {i B N} e e1 o => by
  have hB := p.hr.lt i B N e1
  exact ⟨q.ext.2 B ⟨hB, other e e1 o⟩, q.old B ⟨hB, other e e1 o⟩⟩
 have open_ : ∀ {B}, opnOf (inMap ρ is h.nxt bs.length) B → ¬ X.shut B := fun {B} ⟨j, M, ej⟩ => p.mine _ B M (inMap_m ej).2
 have hs : SubM (arrI is bs) (rowI is bs) ρ (outMap ρ ρ' is h.nxt bs'.length) := by
  refine ⟨fun i pp a r e => ?_, fun i B N a r e => ?_, q.sub, fun i n v a r e => ?_⟩
  ·cases ht : tau is h.nxt i with
   | none => rw [outMap_n ht]; exact e
   | some j =>
    have hi : i < h.nxt := by
     rcases Nat.lt_or_ge i h.nxt with x | x
     ·exact x
     ·rw [hnew i x] at e; cases e
    have hj := tau_lt ht hi
    have hmem : i ∈ is := by
     rcases sg_in is h.nxt j with x | x
     ·rw [hsome ht] at x; exact x
     ·rw [hsome ht] at x; omega
    rcases arr_or hlen hmem with x | x
    ·rw [a] at x; cases x
    ·rw [r] at x; cases x
  ·obtain ⟨j, t, cs, j1, j2⟩ := row_at_ (n := h.nxt) r
   have hj := (List.getElem?_eq_some_iff.1 j1).1
   have hm := ptrs_mem (n := 0) j1
   rw [Nat.zero_add] at hm
   obtain ⟨m, hm⟩ := List.getElem?_of_mem hm
   have k1 := VRs.iff.1 hgx
   have k2 := VRs.iff.1 q.keep
   have hgl : m < gx.length := by rw [← k1.1]; exact (List.getElem?_eq_some_iff.1 hm).1
   have v1 := k1.2 m _ _ hm (List.getElem?_eq_getElem hgl)
   have v2 := k2.2 m _ _ hm (List.getElem?_eq_getElem hgl)
   simp only [VR] at v1 v2
   obtain ⟨B1, N1, c1, d1⟩ := v1
   obtain ⟨B2, N2, c2, d2⟩ := v2
   rw [d1] at d2
   cases d2
   have := (inMap_m c1).2
   rw [j2, e] at this
   cases this
   refine ⟨N2, ?_⟩
   rw [← j2, outMap_m (tau_sg j hap), cutN_m (by omega)]; exact c2
  ·cases ht : tau is h.nxt i with
   | none => rw [outMap_W ht]; exact e
   | some j =>
    have hi : i < h.nxt := by
     rcases Nat.lt_or_ge i h.nxt with x | x
     ·exact x
     ·rw [p.vf i x] at e; cases e
    have hmem : i ∈ is := by
     rcases sg_in is h.nxt j with x | x
     ·rw [hsome ht] at x; exact x
     ·rw [hsome ht] at x; omega
    rcases arr_or hlen hmem with x | x
    ·rw [a] at x; cases x
    ·rw [r] at x; cases x
 have mineNew : ∀ {j B N}, ρ' j = some (B, N) → ¬ X.shut B := fun {j B N} e hsh => by
  have := q.mine j B N e
  refine this ⟨Nat.lt_of_lt_of_le hsh.1 p.ext.1.size, fun o => open_ o hsh⟩
 refine ⟨⟨⟨fun i B N e => ?_, fun i B N e o => ?_, fun i j B N M hij e1 e2 k1 k2 => ?_, fun i r e => ?_, q.hr.fz, fun i B N e o => ?_, fun i t z n l e => ?_⟩, ⟨fun i hi => ?_, fun i r qq a b => ?_, fun i r qq t a b c => ?_, fun qq hqq => ?_⟩, ⟨fun i hi => ?_, fun i r e => absurd e (hg i r)⟩, fun i hi n => ?_, fun i t z n l e m' hm' => ?_, ⟨p.ext.1.trans q.ext.1, fun b hbs => ?_⟩, fun i B N e => ?_, fun b j x e => q.sub b j x (p.sub b j x e), fun b hbs => ?_, oksB_ok hs _ hG p.keep, hz.elim (fun q G e => by rw [q] at e; cases e) fun hz => p.gh.go (fun t z n l e => ?_) q.ext.1 (fun b hbs hno => q.ext.2 b ⟨hbs, fun ⟨j, M, ej⟩ => ?_⟩) (fun i B N e o => ?_) (fun b hbs hno => q.old b ⟨hbs, fun ⟨j, M, ej⟩ => ?_⟩) (fun B N e => .inl ⟨N, ?_⟩) (fun b e => ?_) q.sub (fun v e => ?_)⟩, hs⟩
 ·cases ht : tau is h.nxt i with
  | none => rw [outMap_n ht] at e; exact Nat.lt_of_lt_of_le (p.hr.lt i B N e) hsz
  | some j =>
   rw [outMap_m ht] at e
   by_cases hj : j < bs'.length
   ·rw [cutN_m hj] at e; exact q.hr.lt j B N e
   ·rw [cutN_n hj] at e; cases e
 ·cases ht : tau is h.nxt i with
  | none =>
   rw [outMap_n ht] at e
   have o' := (hoth ht).1 o
   rw [g2 ht]
   exact ((p.hr.ok i B N e o').block (stay ht e o').1).okm hs (hI.at_ p.wf (hnone ht).1)
  | some j =>
   obtain ⟨b, b1, b2, b3, b4, b5⟩ := hin ht o
   have hj := (List.getElem?_eq_some_iff.1 b1).1
   rw [outMap_m ht, cutN_m hj] at e
   have hr := q.hr.ok j B N e b4
   rw [b5] at hr
   rw [b2]
   cases b with
   | no => trivial
   | arr t z n l => exact hr
   | row t cs =>
    have hr : RowOk ρ' ⟨t, cs.length, .leaf, cs, none⟩ B N w' := hr
    refine ⟨hr.1, by show (rens _ cs).length ≤ N; rw [rens_length]; exact hr.2.1, hr.2.2.1, fun m hm => ?_⟩
    have hm : m < (rens (sg is h.nxt) cs).length := hm
    have hm' : m < cs.length := by rw [rens_length] at hm; exact hm
    obtain ⟨v, v1, v2⟩ := hr.2.2.2 m hm'
    refine ⟨v, v1, ?_⟩
    rw [row_at_i hm'] at v2
    show VR _ (Row.get ⟨t, (rens (sg is h.nxt) cs).length, .leaf, rens (sg is h.nxt) cs, none⟩ m) v
    rw [row_at_i hm, rens_get]
    exact outMap_ren hap (lows_at (lowM_at hlow b1) hm') v2
 ·cases ht : tau is h.nxt i with
  | none =>
   rw [outMap_n ht] at e1
   have o1 := (hoth ht).1 k1
   cases hu : tau is h.nxt j with
   | none =>
    rw [outMap_n hu] at e2
    obtain ⟨r, s, qq, a, b, c⟩ := p.hr.inj i j B N M hij e1 e2 o1 ((hoth hu).1 k2)
    exact ⟨r, s, qq, by rw [g2 ht]; exact a, by rw [g2 hu]; exact b, c⟩
   | some l =>
    exfalso
    obtain ⟨b, b1, b2, b3, b4, b5⟩ := hin hu k2
    have hl := (List.getElem?_eq_some_iff.1 b1).1
    rw [outMap_m hu, cutN_m hl] at e2
    exact q.mine l B M e2 ⟨p.hr.lt i B N e1, other ht e1 o1⟩
  | some l =>
   obtain ⟨b, b1, b2, b3, b4, b5⟩ := hin ht k1
   have hl := (List.getElem?_eq_some_iff.1 b1).1
   rw [outMap_m ht, cutN_m hl] at e1
   exfalso
   cases hu : tau is h.nxt j with
   | none =>
    rw [outMap_n hu] at e2
    exact q.mine l B N e1 ⟨p.hr.lt j B M e2, other hu e2 ((hoth hu).1 k2)⟩
   | some l2 =>
    obtain ⟨b', b1', b2', b3', b4', b5'⟩ := hin hu k2
    have hl' := (List.getElem?_eq_some_iff.1 b1').1
    rw [outMap_m hu, cutN_m hl'] at e2
    obtain ⟨r, s, qq, a, x, c, _⟩ := q.hr.inj l l2 B N M (fun e => hij (by rw [← hsome ht, ← hsome hu, e])) e1 e2 b4 b4'
    rw [b5] at a
    cases b <;> simp only [MB.ab] at a <;> cases a
    cases c
 ·cases ht : tau is h.nxt i with
  | none =>
   rw [g2 ht] at e
   obtain ⟨N, hN⟩ := p.hr.gl i r e
   exact ⟨N, by rw [outMap_n ht]; exact hN⟩
  | some j =>
   obtain ⟨b, b1, b2, b3, b4, b5⟩ := hin ht (by unfold Heap.ok; rw [e]; trivial)
   rw [b2] at e
   cases b <;> cases e
 ·cases ht : tau is h.nxt i with
  | none =>
   rw [outMap_n ht] at e
   have o' := (hoth ht).1 o
   rw [g2 ht]
   show ρ'.F B = [] ∨ _
   rw [(stay ht e o').2]
   exact p.hr.sep i B N e o'
  | some j =>
   obtain ⟨b, b1, b2, b3, b4, b5⟩ := hin ht o
   have hj := (List.getElem?_eq_some_iff.1 b1).1
   rw [outMap_m ht, cutN_m hj] at e
   rcases q.hr.sep j B N e b4 with x | ⟨r, x⟩
   ·exact .inl x
   ·rw [b5] at x
    cases b <;> cases x
 ·cases ht : tau is h.nxt i with
  | none =>
   rw [g2 ht] at e
   obtain ⟨h0, ⟨a, o, b⟩ | ⟨B, N, C, e1, e2, e3⟩⟩ := p.hr.av i t z n l e
   ·exact ⟨h0, .inl ⟨a, o, by rw [outMap_W ht]; exact b⟩⟩
   ·exact ⟨h0, .inr ⟨B, N, C, by rw [outMap_n ht]; exact e1, by rw [outMap_W ht]; exact e2, e3⟩⟩
  | some j =>
   obtain ⟨b, b1, b2, b3, b4, b5⟩ := hin ht (by unfold Heap.ok; rw [e]; trivial)
   have hj := (List.getElem?_eq_some_iff.1 b1).1
   rw [b2] at e
   cases b with
   | no => cases e
   | row _ _ => cases e
   | arr t' z' n' l' =>
    cases e
    obtain ⟨h0, ⟨a, o, b⟩ | ⟨B, N, C, e1, e2, e3⟩⟩ := q.hr.av j _ _ _ _ b5
    ·exact ⟨h0, .inl ⟨a, o, by rw [outMap_V ht, cutN_V hj]; exact b⟩⟩
    ·exact ⟨h0, .inr ⟨B, N, C, by rw [outMap_m ht, cutN_m hj]; exact e1, by rw [outMap_V ht, cutN_V hj]; exact e2, e3⟩⟩
 ·rw [gn] at hi
  cases ht : tau is h.nxt i with
  | none => have := (hnone ht).2; omega
  | some j =>
   have e2 := hsome ht
   refine g3 ht (List.getElem?_eq_none ?_)
   rcases Nat.lt_or_ge j is.length with x | x
   ·have := sg_lt hap x; omega
   ·rw [sg_ge x] at e2; omega
 ·cases ht : tau is h.nxt i with
  | none => rw [g2 ht] at a; have := p.wf.root i r qq a b; omega
  | some j =>
   cases hb' : bs'[j]? with
   | none => rw [g3 ht hb'] at a; cases a
   | some x =>
    rw [g1 ht hb'] at a
    cases x <;> simp only [MB.ren, MB.ab] at a <;> cases a
    cases b
 ·cases ht : tau is h.nxt i with
  | none =>
   rw [g2 ht] at a
   obtain ⟨s, s1, s2, s3⟩ := p.wf.tip i r qq t a b (by rw [← gt]; exact c)
   refine ⟨s, ?_, s2, s3⟩
   cases hu : tau is h.nxt t with
   | none => rw [g2 hu]; exact s1
   | some l =>
    exfalso
    have htn : t < h.nxt := by
     rcases Nat.lt_or_ge t h.nxt with x | x
     ·exact x
     ·rw [p.wf.fresh t x] at s1; cases s1
    have hl := tau_lt hu htn
    obtain ⟨b', hb'⟩ : ∃ b', bs[l]? = some b' := ⟨_, List.getElem?_eq_getElem (by omega)⟩
    obtain ⟨y1, y2⟩ := hb.at_ (n := h.nxt) hb'
    rw [hsome hu] at y2
    rw [MbAt.noroot (by rw [ren_live]; exact y1) y2 s1] at s2; cases s2
  | some j =>
   cases hb' : bs'[j]? with
   | none => rw [g3 ht hb'] at a; cases a
   | some x =>
    rw [g1 ht hb'] at a
    cases x <;> simp only [MB.ren, MB.ab] at a <;> cases a
    cases b
 ·rw [gt]; exact p.wf.tipr qq (by omega)
 ·rw [gn] at hi
  cases ht : tau is h.nxt i with
  | none => have := (hnone ht).2; omega
  | some j =>
   have e2 := hsome ht
   rw [outMap_m ht]
   refine cutN_n (show ¬ j < bs'.length from fun x => ?_)
   rcases Nat.lt_or_ge j is.length with y | y
   ·have := sg_lt hap y; omega
   ·rw [sg_ge y] at e2; omega
 ·rw [gn] at hi
  cases ht : tau is h.nxt i with
  | none => have := (hnone ht).2; omega
  | some j =>
   have e2 := hsome ht
   rw [outMap_V ht]
   refine if_neg (show ¬ j < bs'.length from fun x => ?_)
   rcases Nat.lt_or_ge j is.length with y | y
   ·have := sg_lt hap y; omega
   ·rw [sg_ge y] at e2; omega
 ·cases ht : tau is h.nxt i with
  | none => rw [g2 ht] at e; rw [outMap_W ht]; exact p.vu i t z n l e m' hm'
  | some j =>
   obtain ⟨b, b1, b2, b3, b4, b5⟩ := hin ht (by unfold Heap.ok; rw [e]; trivial)
   have hj := (List.getElem?_eq_some_iff.1 b1).1
   rw [b2] at e
   cases b with
   | no => cases e
   | row _ _ => cases e
   | arr t' z' n' l' =>
    cases e
    rw [outMap_V ht, cutN_V hj]
    exact q.vu j _ _ _ _ b5 m' hm'
 ·have hlt := Nat.lt_of_lt_of_le hbs.1 p.ext.1.size
  rw [q.ext.2 b ⟨hlt, fun o => open_ o hbs⟩]
  exact p.ext.2 b hbs
 ·cases ht : tau is h.nxt i with
  | none => rw [outMap_n ht] at e; exact p.mine i B N e
  | some j =>
   rw [outMap_m ht] at e
   by_cases hj : j < bs'.length
   ·rw [cutN_m hj] at e; exact mineNew e
   ·rw [cutN_n hj] at e; cases e
 ·have hlt := Nat.lt_of_lt_of_le hbs.1 p.ext.1.size
  show ρ'.F b = _
  rw [q.old b ⟨hlt, fun o => open_ o hbs⟩]
  exact p.old b hbs
 ·simp only [Bool.and_eq_true] at hz
  have h0 : tau is h.nxt 0 = none := by
   cases ht : tau is h.nxt 0 with
   | none => rfl
   | some j =>
    have h1 := bleT hz.2
    have hj := tau_lt ht (by omega)
    rcases sg_in is h.nxt j with x | x
    ·rw [hsome ht] at x
     have := nin_f hz.1.1
     rw [inL_of x] at this; cases this
    ·rw [hsome ht] at x; omega
  rw [g2 h0] at e; exact ⟨_, _, _, e⟩
 ·obtain ⟨hj, e2⟩ := inMap_m ej
  obtain ⟨b', hbj⟩ : ∃ b, bs[j]? = some b := ⟨_, List.getElem?_eq_getElem hj⟩
  obtain ⟨y1, y2⟩ := hb.at_ (n := h.nxt) hbj
  exact hno _ M e2 (MbAt.okk (by rw [ren_live]; exact y1) y2)
 ·cases ht : tau is h.nxt i with
  | none => rw [outMap_n ht] at e; exact .inr ⟨i, N, e, (hoth ht).1 o⟩
  | some j =>
   obtain ⟨b, b1, b2, b3, b4, b5⟩ := hin ht o
   have hj := (List.getElem?_eq_some_iff.1 b1).1
   rw [outMap_m ht, cutN_m hj] at e
   rcases Nat.lt_or_ge B w.heap.size with x | x
   ·right
    have hop : opnOf (inMap ρ is h.nxt bs.length) B := Classical.byContradiction fun hn => q.mine j B N e ⟨x, hn⟩
    obtain ⟨j2, M, ej⟩ := hop
    obtain ⟨hj2, e2⟩ := inMap_m ej
    obtain ⟨b', hbj⟩ : ∃ b, bs[j2]? = some b := ⟨_, List.getElem?_eq_getElem hj2⟩
    obtain ⟨y1, y2⟩ := hb.at_ (n := h.nxt) hbj
    exact ⟨_, M, e2, MbAt.okk (by rw [ren_live]; exact y1) y2⟩
   ·exact .inl x
 ·obtain ⟨hj, e2⟩ := inMap_m ej
  obtain ⟨b', hbj⟩ : ∃ b, bs[j]? = some b := ⟨_, List.getElem?_eq_getElem hj⟩
  obtain ⟨y1, y2⟩ := hb.at_ (n := h.nxt) hbj
  exact hno _ M e2 (MbAt.okk (by rw [ren_live]; exact y1) y2)
 ·simp only [Bool.and_eq_true] at hz
  have h0 : tau is h.nxt 1 = none := by
   cases ht : tau is h.nxt 1 with
   | none => rfl
   | some j =>
    have h1 := bleT hz.2
    have hj := tau_lt ht (by omega)
    rcases sg_in is h.nxt j with x | x
    ·rw [hsome ht] at x
     have := nin_f hz.1.2
     rw [inL_of x] at this; cases this
    ·rw [hsome ht] at x; omega
  rw [outMap_n h0]; exact e
 ·have hb1 := p.hr.F_lt e
  refine q.ext.2 b ⟨hb1, fun ⟨j, M, ej⟩ => ?_⟩
  obtain ⟨hj, e2⟩ := inMap_m ej
  obtain ⟨b', hbj⟩ : ∃ b, bs[j]? = some b := ⟨_, List.getElem?_eq_getElem hj⟩
  obtain ⟨y1, y2⟩ := hb.at_ (n := h.nxt) hbj
  exact e (p.hr.F_row e2 (MbAt.okk (by rw [ren_live]; exact y1) y2) (fun r => MbAt.nogl (by rw [ren_live]; exact y1) y2))
 ·simp only [Bool.and_eq_true] at hz
  have h0 : tau is h.nxt 0 = none := by
   cases ht : tau is h.nxt 0 with
   | none => rfl
   | some j =>
    have h1 := bleT hz.2
    have hj := tau_lt ht (by omega)
    rcases sg_in is h.nxt j with x | x
    ·rw [hsome ht] at x
     have := nin_f hz.1.1
     rw [inL_of x] at this; cases this
    ·rw [hsome ht] at x; omega
  rw [outMap_W h0]; exact e
end
end Go.Px
end
section
namespace Go.Px
def hasP (j : Nat) : List AV → Bool
 | [] => false
 | .ptr i _ :: r => (match Nat.beq i j with | true => true | false => hasP j r)
 | _ :: r => hasP j r
def evidB : List AV → List MB → Nat → Bool
 | _, [], _ => true
 | acc, .row _ cs :: r, j => (match hasP j acc with | true => evidB (cs ++ acc) r (j + 1) | false => false)
 | acc, _ :: r, j => evidB acc r (j + 1)
theorem hasP_mem {j : Nat} : ∀ {l : List AV}, hasP j l = true → ∃ o, AV.ptr j o ∈ l
 | [], h => by cases h
 | a :: r, h => by
  have step : hasP j r = true → ∃ o, AV.ptr j o ∈ a :: r := fun q => by
   obtain ⟨o, ho⟩ := hasP_mem q
   exact ⟨o, List.mem_cons_of_mem _ ho⟩
  cases a <;> simp only [hasP] at h <;> first | exact step h | skip
  split at h
  ·rename_i q; rw [← beqT q]; exact ⟨_, List.mem_cons_self⟩
  ·exact step h
structure KM (c : Ctx) (f : FuncId) (bs : List MB) (args : List AV) (v : AV) (bs' : List MB) : Prop where
 le : bs.length ≤ bs'.length
 lo : lowM bs.length bs = true
 la : lowsB bs.length args = true
 lm : lowM bs'.length bs' = true
 lv : lowB bs'.length v = true
 ev : evidB args bs 0 = true
 run : ∀ (ρ : Map) (w : World) (A gx : List Value), PI ⟨c, w, ρ.F, opnOf ρ, none, none, [], ptrs bs 0, gx⟩ ρ (hq bs.length (bs.map MB.ab)) w → VRs ρ args A →
  ∃ nx w1, (callFunc f A.toArray).run c.P w = .ok nx w1 ∧ NextOk c.P (fun z w' => ∃ ρ', PI ⟨c, w, ρ.F, opnOf ρ, none, none, [], ptrs bs 0, gx⟩ ρ' (hq bs'.length (bs'.map MB.ab)) w' ∧ VR ρ' v z) nx w1
/-! ## out of a body -/
def MbsAt (h : Heap) : List MB → Nat → Prop
 | [], _ => True
 | b :: r, i => MbAt h i b ∧ MbsAt h r (i + 1)
theorem MbsAt.at_ {h : Heap} : ∀ {bs : List MB} {n j : Nat} {b : MB}, MbsAt h bs n → bs[j]? = some b → MbAt h (n + j) b
 | [], n, j, b, _, e => by simp at e
 | x :: r, n, 0, b, ⟨a, _⟩, e => by simp at e; subst e; exact a
 | x :: r, n, j + 1, b, ⟨_, a⟩, e => by
  have := a.at_ (j := j) (b := b) (by simpa using e)
  rwa [show n + 1 + j = n + (j + 1) by omega] at this
def FinM (c : Ctx) (res : List ResultVar) (v : AV) (bs' : List MB) : Post := fun x s => (x = .normal ∨ x = .ret) ∧ ∃ h' vs, leave s.h s.m = some h' ∧ resA c h' s.e res = some vs ∧ one vs = v ∧ MbsAt h' bs' 0 ∧ Nat.ble bs'.length h'.nxt = true
theorem low_ptrs : ∀ {bs : List MB} {n k : Nat}, n + bs.length ≤ k → lowsB k (ptrs bs n) = true
 | [], n, k, _ => rfl
 | x :: r, n, k, h => by
  have ih := low_ptrs (bs := r) (n := n + 1) (k := k) (by simp only [List.length_cons] at h; omega)
  cases x <;> simp only [ptrs] <;> first | exact ih | skip
  simp only [lowsB, lowB]
  rw [Nat.ble_eq_true_of_le (by simp only [List.length_cons] at h; omega)]; exact ih
theorem PI.canon {X : Cx} {ρ : Map} {h : Heap} {w : World} (p : PI X ρ h w) (hg : ∀ i r, X.c.g0.get i ≠ .gl r) {bs : List MB} (hb : MbsAt h bs 0) (hlow : lowM bs.length bs = true) (hG : lowsB bs.length X.gv = true) (hz : X.g = none) :
  PI X (cutN ρ bs.length) (hq bs.length (bs.map MB.ab)) w := by
 have hcut : ∀ i q, cutN ρ bs.length i = some q → i < bs.length ∧ ρ i = some q := fun i q e => by
  by_cases hi : i < bs.length
  ·rw [cutN_m hi] at e; exact ⟨hi, e⟩
  ·rw [cutN_n hi] at e; cases e
 have hat : ∀ {i b}, bs[i]? = some b → MbAt h i b := fun {i b} e => by have := hb.at_ e; rwa [Nat.zero_add] at this
 refine ⟨⟨fun i B N e => p.hr.lt _ B N (hcut i _ e).2, fun i B N e q => ?_, fun i j B N M hij e1 e2 k1 k2 => ?_, fun i r q => ?_, p.hr.fz, fun i B N e q => ?_, fun i t z n l q => ?_⟩, hq_wf rfl, ⟨fun i hi => cutN_n (show ¬ i < bs.length from Nat.not_lt.2 hi), fun i r q => absurd q (hg i r)⟩, fun i hi n => if_neg (show ¬ i < bs.length from Nat.not_lt.2 hi), fun i t z n l q m' hm' => ?_, p.ext, fun i B N e => p.mine i B N (hcut i _ e).2, p.sub, p.old, lows_ok _ hG p.keep, fun G e => by rw [hz] at e; cases e⟩
 ·obtain ⟨hi, e'⟩ := hcut i _ e
  obtain ⟨x, x1, x2, x3⟩ := hq_okm q
  have y2 := hat x1
  have hr := p.hr.ok _ B N e' (MbAt.okk x3 y2)
  rw [x2]
  cases x with
  | no => trivial
  | arr t z n l =>
   have y2 : h.get i = .arr t z n l := y2
   rw [y2] at hr; exact hr
  | row t cs =>
   obtain ⟨r, r1, r2, r3, r4, r5⟩ := y2
   rw [r1] at hr
   have hr : RowOk ρ r B N w := hr
   refine ⟨by rw [← r2]; exact hr.1, by rw [← r3]; exact hr.2.1, hr.2.2.1, fun j hj => ?_⟩
   have hj : j < cs.length := hj
   obtain ⟨v, v1, v2⟩ := hr.2.2.2 j (by omega)
   refine ⟨v, v1, ?_⟩
   rw [row_at_i hj]
   have e5 : r.get j = cs.getD j .bad := by rw [← r5, Row.read_get r r.n j (by omega)]
   rw [e5] at v2
   exact low_ok _ (lows_at (lowM_at hlow x1) hj) v2
 ·obtain ⟨x, x1, x2, x3⟩ := hq_okm k1
  obtain ⟨y, y1, y2, y3⟩ := hq_okm k2
  obtain ⟨r, s, q, a, b, c, _⟩ := p.hr.inj _ _ B N M hij (hcut i _ e1).2 (hcut j _ e2).2 (MbAt.okk x3 (hat x1)) (MbAt.okk y3 (hat y1))
  rw [MbAt.noroot x3 (hat x1) a] at c; cases c
 ·obtain ⟨x, x1, x2⟩ := hq_mb q (by simp)
  cases x <;> simp only [MB.ab] at x2 <;> cases x2
 ·obtain ⟨x, x1, x2, x3⟩ := hq_okm q
  exact .inl (p.hr.F_row (hcut i _ e).2 (MbAt.okk x3 (hat x1)) (fun r => MbAt.nogl x3 (hat x1)))
 ·obtain ⟨x, x1, x2⟩ := hq_mb q (by simp)
  cases x <;> simp only [MB.ab] at x2 <;> cases x2
  have y2 := hat x1
  have hi := (List.getElem?_eq_some_iff.1 x1).1
  obtain ⟨h0, ⟨a, o, b⟩ | ⟨B, N, C, e1, e2, e3⟩⟩ := p.hr.av _ t z n l y2
  ·exact ⟨h0, .inl ⟨a, o, (cutN_V hi _).trans b⟩⟩
  ·exact ⟨h0, .inr ⟨B, N, C, (cutN_m hi).trans e1, (cutN_V hi _).trans e2, e3⟩⟩
 ·obtain ⟨x, x1, x2⟩ := hq_mb q (by simp)
  cases x <;> simp only [MB.ab] at x2 <;> cases x2
  exact (cutN_V (List.getElem?_eq_some_iff.1 x1).1 _).trans (p.vu _ t z n l (hat x1) m' hm')
theorem KM.of {c : Ctx} (k : CtxOk c) (hg0 : ∀ i r, c.g0.get i ≠ .gl r) {f : FuncId} {fn : Func} {body : Code} (hf : c.P.funcs[f]? = some fn) (hb : fn.body = some body) {bs : List MB} {args : List AV} {v : AV} {bs' : List MB} {N : Nat} {ab : List AB} {gv : List AV} (hN : bs.length = N) (hA : bs.map MB.ab = ab) (hP : ptrs bs 0 = gv)
  (hlen : args.length ≤ fn.ntmps) (le : Nat.ble bs.length bs'.length = true) (lo : lowM bs.length bs = true) (la : lowsB bs.length args = true) (lm : lowM bs'.length bs' = true) (lv : lowB bs'.length v = true) (ev : evidB args bs 0 = true)
  (H : ∀ w F opn gx, Go ⟨c, w, F, opn, none, none, [], gv, gx⟩ fn.ntmps none [.code body] (argsL args 0) (hq N ab) [] (FinM c fn.results.toList v bs')) : KM c f bs args v bs' := by
 subst hN; subst hA; subst hP
 refine ⟨bleT le, lo, la, lm, lv, ev, fun ρ w A gx hpi hA => ?_⟩
 have hnm : fn.name ≠ "runtime.NumGoroutine" := by simpa using k.names f fn hf
 refine ⟨.enter f A.toArray, w, by simp [callFunc, hf, hnm, hb, Sem.run], ?_⟩
 refine callsIn_of_wp_marks hf hb trivial ?_
 have h := (H w ρ.F (opnOf ρ) gx).run (T.put und args (env0 und fn.ntmps) 0) (argsL_has args _ 0)
 have ht : Tri ⟨c, w, ρ.F, opnOf ρ, none, none, [], ptrs bs 0, gx⟩ fn.ntmps none body ⟨T.put und args (env0 und fn.ntmps) 0, hq bs.length (bs.map MB.ab), []⟩ (FinM c fn.results.toList v bs') := h
 refine ht none ρ w _ _ rfl hpi (args_er hA hlen) ⟨[], rfl, rfl⟩ fun x s' a' w' ρ' ⟨hx, h', vs, q1, q2, q3, q4, q5⟩ g1 g2 g3 g4 => ?_
 have hfin : LeavesInM Fence.wide 0 c.P fn a'.tmps (EndR fun z w' => ∃ ρ', PI ⟨c, w, ρ.F, opnOf ρ, none, none, [], ptrs bs 0, gx⟩ ρ' (hq bs'.length (bs'.map MB.ab)) w' ∧ VR ρ' v z) a'.defers .returning w' := by
  refine leave_ok g2.hr g2.wf (g4.nil rfl) q1 fun w2 g => ?_
  have g5 := g2.good g (ArrKeep.leave q1)
  obtain ⟨z, z1, z2⟩ := results_ok k g5.hr g3 q2
  rw [q3] at z2
  exact ⟨z, z1, _, g5.canon hg0 q4 lm (low_ptrs (by have := bleT le; omega)) rfl, low_ok v lv z2⟩
 rcases hx with rfl | rfl
 ·exact hfin
 ·exact hfin
theorem Go.retM {X : Cx} {sz : Nat} {rd : Option Nat} {k : List It} {L : List (Nat × AV)} {h : Heap} {m : List Nat} {c : Ctx} {res : List ResultVar} {vs : List AV} {v : AV} {bs' : List MB} {h' : Heap} (hl : leave h m = some h') (hr : resL L res = some vs) (hv : one vs = v) (hb : MbsAt h' bs' 0) (hn : Nat.ble bs'.length h'.nxt = true) : Go X sz rd (.code .ret :: k) L h m (FinM c res v bs') :=
 Go.ret fun e he => ⟨.inr rfl, h', vs, hl, resL_ok he hr, hv, hb, hn⟩
/-! ## at a call -/
def dropO (t : Nat) : List (Nat × AV) → Option (List (Nat × AV))
 | [] => some []
 | (s, v) :: r => (match dropO t r with | some r' => (match Nat.beq t s with | true => some r' | false => some ((s, v) :: r')) | none => none)
def cleanO (A R : List Nat) : List (Nat × AV) → Option (List (Nat × AV))
 | [] => some []
 | (t, v) :: r => (match cleanO A R r with
  | some r' => (match dropO t r' with
   | some r'' => (match okB A R v with | true => some ((t, v) :: r'') | false => some r'')
   | none => none)
  | none => none)
theorem drop_lk {t : Nat} : ∀ {L L' : List (Nat × AV)}, dropO t L = some L' → lkO L' t = none ∧ ∀ s, s ≠ t → lkO L' s = lkO L s
 | [], L', h => by cases h; exact ⟨rfl, fun _ _ => rfl⟩
 | (s, v) :: r, L', h => by
  simp only [dropO] at h
  split at h
  ·rename_i r' hr
   obtain ⟨i1, i2⟩ := drop_lk hr
   split at h
   ·rename_i e
    cases h
    have e := beqT e
    subst e
    refine ⟨i1, fun s hs => ?_⟩
    rw [i2 s hs]
    conv => rhs; unfold lkO
    rw [beqF hs]
   ·rename_i e
    cases h
    have e := beqN e
    constructor
    ·unfold lkO; rw [beqF e]; exact i1
    ·intro u hu
     unfold lkO
     rw [i2 u hu]
  ·cases h
theorem clean_lk {A R : List Nat} : ∀ {L L' : List (Nat × AV)}, cleanO A R L = some L' → ∀ t v, lkO L' t = some v → lkO L t = some v ∧ okB A R v = true
 | [], L', h, t, v, e => by cases h; cases e
 | (s, u) :: r, L', h, t, v, e => by
  simp only [cleanO] at h
  split at h
  ·rename_i r' hr
   split at h
   ·rename_i r'' hd
    obtain ⟨d1, d2⟩ := drop_lk hd
    have ih := clean_lk hr
    have key : lkO r'' t = some v → lkO ((s, u) :: r) t = some v ∧ okB A R v = true := fun q => by
     have hts : t ≠ s := fun x => by subst x; rw [d1] at q; cases q
     rw [d2 t hts] at q
     unfold lkO
     rw [beqF hts]
     exact ih t v q
    split at h
    ·rename_i hu
     cases h
     unfold lkO at e
     split at e
     ·rename_i ht
      cases e
      unfold lkO
      rw [ht]
      exact ⟨rfl, hu⟩
     ·exact key e
    ·cases h; exact key e
   ·cases h
  ·cases h
def wkA (h : Heap) : List AV → List AV → Prop
 | [], [] => True
 | a :: l, b :: m => (a = b ∨ False) ∧ wkA h l m
 | _, _ => False
theorem wk_ok {X : Cx} {ρ : Map} {h : Heap} {w : World} (p : PI X ρ h w) : ∀ {l m : List AV} {L : List Value}, wkA h l m → VRs ρ l L → VRs ρ m L
 | [], [], L, _, h => h
 | [], _ :: _, L, h, _ => h.elim
 | _ :: _, [], L, h, _ => h.elim
 | a :: l, b :: m, L, ⟨h1, h2⟩, h => by
  simp only [VRs] at h ⊢
  obtain ⟨x, r, e1, e2, e3⟩ := h
  refine ⟨x, r, ?_, wk_ok p h2 e2, e3⟩
  rcases h1 with rfl | q
  ·exact e1
  ·exact q.elim
theorem evid_ok {X : Cx} {ρ : Map} {h : Heap} {w : World} (p : PI X ρ h w) {is : List Nat} {all : List MB} (hb : BlksAt h (sg is h.nxt) is all) (hlow : lowM all.length all = true) : ∀ {bs : List MB} {acc : List AV} {n : Nat}, (∀ j b, bs[j]? = some b → all[n + j]? = some b) → evidB acc bs n = true → (∀ a ∈ acc, ∃ x, VR (inMap ρ is h.nxt all.length) a x) → ∃ gx, VRs (inMap ρ is h.nxt all.length) (ptrs bs n) gx
 | [], acc, n, _, _, _ => ⟨[], by simp [ptrs, VRs]⟩
 | b :: bs, acc, n, hall, he, ha => by
  have hall' : ∀ j b, bs[j]? = some b → all[n + 1 + j]? = some b := fun j b e => by
   have := hall (j + 1) b (by simpa using e)
   rwa [show n + (j + 1) = n + 1 + j by omega] at this
  have h0 := hall 0 b rfl
  rw [Nat.add_zero] at h0
  cases b with
  | no => simp only [evidB] at he; simp only [ptrs]; exact evid_ok p hb hlow hall' he ha
  | arr t z k l => simp only [evidB] at he; simp only [ptrs]; exact evid_ok p hb hlow hall' he ha
  | row t cs =>
   simp only [evidB] at he
   split at he
   ·rename_i hp
    obtain ⟨o, ho⟩ := hasP_mem hp
    obtain ⟨x, hx⟩ := ha _ ho
    simp only [VR] at hx
    obtain ⟨B, N, c1, c2⟩ := hx
    obtain ⟨hn, c3⟩ := inMap_m c1
    obtain ⟨_, r, r1, r2, r3, r4, r5⟩ := hb.at_ (n := h.nxt) h0
    have hok : h.ok (sg is h.nxt n) := by unfold Heap.ok; rw [r1]; simp only []; rw [Heap.row_of r1, r4]; rfl
    have hr := p.hr.ok _ B N c3 hok
    rw [r1] at hr
    have hr : RowOk ρ r B N w := hr
    rw [rens_length] at r3
    obtain ⟨gx, hgx⟩ := evid_ok p hb hlow hall' he (fun a hm => by
     rcases List.mem_append.1 hm with hm | hm
     ·obtain ⟨j, hj, rfl⟩ := List.getElem_of_mem hm
      obtain ⟨v, v1, v2⟩ := hr.2.2.2 j (by omega)
      have e5 : r.get j = ren (sg is h.nxt) (cs.getD j .bad) := by
       rw [← rens_get, ← r5, Row.read_get r r.n j (by omega)]
      rw [e5] at v2
      refine ⟨v, ?_⟩
      have hlw : lowsB all.length cs = true := lowM_at hlow h0
      have := low_ok _ (lows_at hlw hj) ((vr_ren _ _).1 v2)
      rwa [List.getD_eq_getElem?_getD, List.getElem?_eq_getElem hj] at this
     ·exact ha a hm)
    simp only [ptrs]
    refine ⟨.pointer (some ⟨B, 0, none⟩) :: gx, ?_⟩
    simp only [VRs, VR]
    exact ⟨_, _, ⟨B, N, c1, rfl⟩, hgx, rfl⟩
   ·cases he
theorem vrs_ex {ρ : Map} {l : List AV} {L : List Value} (h : VRs ρ l L) : ∀ a ∈ l, ∃ x, VR ρ a x := fun a ha => by
 obtain ⟨i, hi⟩ := List.getElem?_of_mem ha
 have hl := VRs.iff.1 h
 have hlt : i < L.length := by rw [← hl.1]; exact (List.getElem?_eq_some_iff.1 hi).1
 exact ⟨_, hl.2 i _ _ hi (List.getElem?_eq_getElem hlt)⟩
def nins2 (A R : List Nat) : List Nat → Bool
 | [] => true
 | d :: m => (match nin2 A R d with | true => nins2 A R m | false => false)
section
variable {X : Cx} {tb : List (Nat × TE)} (E : Env X.c tb) {sz : Nat} {rd : Option Nat} {all : Array Oper} {o : Oper} {rest : List Oper} {k : List It} {L : List (Nat × AV)} {h : Heap} {m : List Nat} {Q : Post}
include E
theorem Ops.callM (is : List Nat) (N : Nat) {cl : Call} {f : Operand} {g : FuncId} {first cap vs args : List AV} {v v' : AV} {bs bs' : List MB} {ab : List AB} {L' : List (Nat × AV)} (hw : Want all L o true) (ho : o.op = .call cl) (hc : cl.callee = .value f) (hfv : evL L f = some (.fn (.func g) first cap))
  (hv : evsL L cl.args.toList = some vs) (hk : KM X.c g bs args v bs') (hN : h.nxt = N) (hwk : wkA h (first ++ vs ++ cap) (rens (sg is N) args)) (hap : apart N is = true) (hb : BlksAt h (sg is N) is bs) (hI : HOk is (arrI is bs) (rowI is bs) h) (hL : cleanO (arrI is bs) (rowI is bs) L = some L') (hm : nins2 (arrI is bs) (rowI is bs) m = true)
  (hrd : (match rd with | some l => nin2 (arrI is bs) (rowI is bs) l | none => true) = true) (hv' : ren (sg is N) v = v') (hab : bs'.map (fun b => (b.ren (sg is N)).ab) = ab) {d : Nat} (hd : o.dst = some d) (hs : Nat.ble (d + 1) sz = true) (n : Ops X sz rd all rest k ((d, v') :: L') (mixN N h is ab) m Q)
  (hG : oksB (arrI is bs) (rowI is bs) X.gv = true := by rfl) (hgz : X.g = none ∨ (nin is 0 && nin is 1 && Nat.ble 2 N) = true := by first | exact .inl rfl | exact .inr rfl) : Ops X sz rd all (o :: rest) k L h m Q := ⟨fun e0 he => by
 subst hN; subst hv'; subst hab
 refine TriOps.cons (hw e0 he) (K := fun s' => RunK X sz rd k Q .normal s') ?_
 intro ro ρ w a next Q' h1 p h3 h4 h5
 refine ⟨fun _ _ => trivial, ?_⟩
 rw [show (wideR ro).round = ro from rfl, Oper.semAt_eq ro a.eval o (by rw [ho]; intro d q; cases q)]
 have hfv' := ev_ok h3 f
 rw [he.ev hfv] at hfv'
 simp only [VR, FR] at hfv'
 obtain ⟨f', F, C, e1, e2, e3, e4⟩ := hfv'
 subst e1
 have hargs := evs_ok h3 cl.args.toList
 rw [he.evs hv] at hargs
 have hA := wk_ok p hwk (VRs.append (VRs.append e2 hargs) e3)
 have hA2 : VRs (inMap ρ is h.nxt bs.length) args _ := lows_ok args hk.la ((vrs_ren _ _).1 hA)
 obtain ⟨gx, hgx⟩ := evid_ok p hb hk.lo (bs := bs) (acc := args) (n := 0) (fun j b e => by rw [Nat.zero_add]; exact e) hk.ev (vrs_ex hA2)
 obtain ⟨nx, w1, q1, q2⟩ := hk.run (inMap ρ is h.nxt bs.length) w _ gx (p.enter E.g hap hb hk.lo hgx) hA2
 have hrun : (execOp a.eval o).run X.c.P w = .ok nx w1 := by
  rw [← q1]
  simp only [execOp, ho, resolve, hc, e4, Deferred.ofValue, Sem.run_bind, Sem.run_pure, Result.andThen_ok, invoke]
  congr 2
  apply Array.ext'; simp
 rw [hrun]
 refine uponIn_of_next q2 fun z w' ⟨ρ', pi', hz⟩ => ?_
 obtain ⟨pp, hs'⟩ := p.back E.g hap hb hgx hI hG hgz hk.le hk.lm pi'
 obtain ⟨e', he', er'⟩ := known_env (σ := outMap ρ ρ' is h.nxt bs'.length) (L := L') (tm := a.tmps) (sz := sz) h3.1 (fun t u q => by
  obtain ⟨c1, c2⟩ := clean_lk hL t u q
  have := h3.2 t
  rw [he t u c1] at this
  exact okB_ok hs' u c2 this)
 refine h5 (ren (sg is h.nxt) v) ⟨e', _, m⟩ z w' _ ⟨e'.set und d _, by rw [hd]; exact setD_some hs, n.run _ (he'.set d _)⟩ ?_ pp er' ?_ (outMap_ren hap hk.lv hz)
 ·cases rd with
  | none => exact h1
  | some r =>
   obtain ⟨B, N, x1, x2⟩ := h1
   exact ⟨B, N, hs'.m r _ (nin2_f hrd).1 (nin2_f hrd).2 x1, x2⟩
 ·have hmr : ∀ {m : List Nat} {D : List Deferred}, nins2 (arrI is bs) (rowI is bs) m = true → MR ρ m D → MR (outMap ρ ρ' is h.nxt bs'.length) m D := by
   intro m
   induction m with
   | nil => intro D _ q; exact q
   | cons d m ih =>
    intro D hh q
    simp only [nins2] at hh
    split at hh
    ·rename_i hd
     obtain ⟨B, N, r, x1, x2, x3⟩ := q
     exact ⟨B, N, r, hs'.m d _ (nin2_f hd).1 (nin2_f hd).2 x1, ih hh x2, x3⟩
    ·cases hh
  obtain ⟨D1, h5, h6⟩ := h4
  exact ⟨D1, hmr hm h5, h6⟩⟩
end
theorem Chg.tokNew {X : Cx} {sz : Nat} {rd : Option Nat} {L : List (Nat × AV)} {h : Heap} {m : List Nat} (n0 ty z : Nat) (hn0 : h.nxt = n0) (hz : X.g = none ∨ Nat.ble 1 n0 = true := by first | exact .inl rfl | exact .inr rfl) : Chg X sz rd L h L (newAt n0 h (.arr ty z 0 [])) m := fun ro ρ w e a h1 p h3 he h4 => by
 rw [← new_at hn0]
 subst hn0
 obtain ⟨ρ', p', hs, _, _, _⟩ := p.tokV ty z (v0 := .slice none 0 0) rfl hz
 exact ⟨ρ', e, h1.mono hs, p', h3.mono hs, he, h4.mono hs⟩
end Go.Px
end
