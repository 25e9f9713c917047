/- Parts of the proof in YtfngmfddoaajaaaFin: PxTi, PxTj, PxTk, PxTl, PxTm, PxTn, PxTo, PxTp, PxTq, PxTr, PxTs, PxTt, PxTu, PxTv, FxA, FxB, PxTw, FxC, FxD, FxE, FxM, PxTx, PxTy, FxN, PxTz, PxVa, PxVb. -/
import Derived.Test.YtfngmfddoaajaaaK3
import Derived.Lib.Bytealg
import Derived.Laws.Externs
import Derived.Deep.Slices
import Derived.ReadAgain
import Derived.Test.YtfngmfddoaajaaaChecked
import Derived.Sort.Grow
import Derived.Sort.EncStr
import Derived.Lib.SlicesCompact
/- PxTi -/
section
set_option linter.unusedVariables false
set_option linter.unusedSimpArgs false
namespace Go.Px

theorem ones_flat {α : Type} {enc : α → List AV} (he : ∀ a, ones (enc a) = true) : ∀ l : List α, ones (l.flatMap enc) = true
  | [] => rfl
  | a :: l => by
    have happ : ∀ x y : List AV, ones x = true → ones y = true → ones (x ++ y) = true := by
      intro x y hx hy
      induction x with
      | nil => exact hy
      | cons v x ih =>
        have hx' : (match v.one with | true => ones x | false => false) = true := hx
        show (match v.one with | true => ones (x ++ y) | false => false) = true
        split at hx'
        · exact ih hx'
        · cases hx'
    rw [List.flatMap_cons]
    exact happ _ _ (he a) (ones_flat he l)

def rdNot (id : Nat) (rd : Option Nat) : Bool := match rd with | some r => !Nat.beq r id | none => true
section
variable {X : Cx} {tb : List (Nat × TE)} (E : Env X.c tb) {sz : Nat} {rd : Option Nat} {all : Array Oper} {o : Oper} {rest : List Oper} {k : List It} {L : List (Nat × AV)} {h : Heap} {m : List Nat} {Q : Post}
include E

/-- APPENDED: cells that nobody writes, to an array of one's own. -/
theorem Ops.append {d : Nat} {cl : Call} {x y : Operand} {t t1 el id n z q : Nat} {l cs : List AV} {e e1 ee : TE} (hd : o.dst = some d) (hs : Nat.ble (d + 1) sz = true) (hw : Want all L o true) (ho : o.op = .call cl) (hc : cl.callee = .builtin .append) (ha : cl.args.toList = [x, y])
    (hts0 : nth1 cl.argTypes.toList 0 = some t) (hts1 : nth1 cl.argTypes.toList 1 = some t1) (hx : evL L x = some (.own id n z)) (hy : evL L y = some (.rsl q z cs)) (ht : lkT tb t = some e) (hk : e.k = .slice el) (hel : lkT tb el = some ee) (hz : Nat.beq ee.s z = true) (hz0 : Nat.beq z 0 = false) (hb : Nat.ble ee.b 1000 = true)
    (ht1 : lkT tb t1 = some e1) (hk1 : (match e1.k with | .slice _ => true | .str => true | _ => false) = true) (hg : h.get id = .arr el z n l) (hi : HInd id h) (hL : indL id L = true) (hm : (m.all fun i => !Nat.beq i id) = true) (hrd : rdNot id rd = true) (hG : indsB id X.gv = true)
    (hzz : (match ee.z with | .bad => false | v => Nat.beq v.cells.length ee.s) = true) (hones : ones cs = true) (hq : q ≠ 0) (hsm : n + q ≤ 1000000) (nx : Ops X sz rd all rest k ((d, .own id (n + q) z) :: L) (h.put id (.arr el z (n + q) (l ++ cs))) m Q) : Ops X sz rd all (o :: rest) k L h m Q := ⟨fun e0 he => by
  refine TriOps.cons (hw e0 he) (K := fun s' => RunK X sz rd k Q .normal s') ?_
  intro ro ρ w a next Q' h1 p h3 h4 h5
  refine ⟨fun _ _ => trivial, ?_⟩
  rw [show (wideR ro).round = ro from rfl, Oper.semAt_eq ro a.eval o (by rw [ho]; intro d q; cases q)]
  have hz := beqT hz
  have hS : VR ρ (.own id n z) (a.eval x) := by rw [← he.ev hx]; exact ev_ok h3 x
  have hY : VR ρ (.rsl q z cs) (a.eval y) := by rw [← he.ev hy]; exact ev_ok h3 y
  simp only [VR] at hY
  obtain ⟨hlen, ⟨h0, _⟩ | ⟨B, off, C, news, hYe, hC, hcs, hfz⟩⟩ := hY
  · exact absurd h0 hq
  -- the source
  obtain ⟨ie, i1, i2, i3⟩ := (E.t el ee hel).si
  have hnb : ee.z ≠ .bad := fun q => by rw [q] at hzz; cases hzz
  have hzl : ee.z.cells.length = ee.s := by
    cases hv : ee.z <;> rw [hv] at hzz <;> first | (cases hzz; done) | exact beqT hzz
  have hzc : X.c.zcells el = some ee.z.cells := by
    unfold Ctx.zcells
    rw [(E.t el ee hel).z]
    cases hv : ee.z <;> first | exact absurd hv hnb | rfl
  obtain ⟨Z, z1, z2, z3⟩ := src_zero E.k i1 hzc (i2.trans hzl.symm) ρ
  have hu := under_eq E.k ((E.t t e ht).sl hk)
  obtain ⟨d1, u1, u2⟩ := (E.t t1 e1 ht1).kd
  have hu1 := under_eq E.k u1
  have hni : ∀ kk, d1 ≠ .int kk := fun kk qq => by
    subst qq
    rw [← u2] at hk1
    cases hk1
  rw [nth1_eq] at hts0 hts1
  have hnl : news.length = q * z := by rw [← hcs.length]; exact hlen
  have hsz : ie.size = z := i2.trans hz
  have src : Src X.c.P w cl.argTypes ie Z (.slice (some ⟨B, off, none⟩) q C) q news := ⟨.inl ⟨t1, d1, by simpa using hts1, hu1, hni, fun w' => by simp [Builtin.lenOf], fun w' hw' => by
      refine run_firstCells_some (P := X.c.P) w' ie.size q ⟨B, off, none⟩ q C news (by rw [hnl, hsz]) (fun j u hj => ?_)
      rw [add_off, show w'.cell? ⟨B, off + j, none⟩ = w.cell? ⟨B, off + j, none⟩ from by simp [World.cell?, hw']]
      exact p.hr.fz B _ u (hfz j u hj)⟩, by rw [hnl, hsz], z1, z2, by rw [hsz]; exact beqN hz0, by rw [i3]; exact bleT hb⟩
  obtain ⟨y', w', ρ', r1, r2, r3, r4⟩ := append_own p hg hi hG hS src hsz (ty := o.type) (by simpa using hts0) hu (E.k.tys _ _ i1) [] hcs (ones_ok hones hcs) hq hsm
  have hrun : (execOp a.eval o).run X.c.P w = .ok (.value y') w' := by
    obtain ⟨CS, hCS⟩ : ∃ CS, (execOp a.eval o).run X.c.P w = (builtin .append cl.argTypes o.type CS (cl.args.map a.eval)).run X.c.P w :=
      ⟨_, by simp only [execOp, ho, resolve, hc, Sem.run_bind, Sem.run_pure, Result.andThen_ok, invoke]; rfl⟩
    have hargs : cl.args.map a.eval = #[a.eval x, a.eval y] := by apply Array.ext'; simp [ha]
    rw [hCS, hargs, hYe]
    have r1' : (Builtin.append_ cl.argTypes o.type #[a.eval x, .slice (some ⟨B, off, none⟩) q C]).run X.c.P w = .ok y' w' := r1
    simp [builtin, r1']
  rw [hrun]
  have hL2 : indL id ((d, .own id (n + q) z) :: L) = true := by simp only [indL, indB]; exact hL
  obtain ⟨e', he', er'⟩ := known_env (σ := ρ') (L := L) (tm := a.tmps) (sz := sz) h3.1 (fun s v qq => by
    have := h3.2 s
    rw [he s v qq] at this
    exact ind_ok r3 v (indL_at hL s v qq) this)
  refine h5 (.own id (n + q) z) ⟨e', h.put id (.arr el z (n + q) (l ++ cs)), m⟩ y' w' ρ' ⟨e'.set und d (.own id (n + q) z), by rw [hd]; exact setD_some hs, nx.run _ (he'.set d _)⟩ ?_ r2 er' ?_ r4
  · cases rd with
    | none => exact h1
    | some r =>
      obtain ⟨B', N', q1, q2⟩ := h1
      exact ⟨B', N', r3.m r _ (nb (show (!Nat.beq r id) = true from hrd)) q1, q2⟩
  · have hmr : ∀ {m : List Nat} {D : List Deferred}, (m.all fun i => !Nat.beq i id) = true → MR ρ m D → MR ρ' m D := by
      intro m
      induction m with
      | nil => intro D _ q; exact q
      | cons d m ih =>
        intro D hh q
        simp only [List.all_cons, Bool.and_eq_true] at hh
        obtain ⟨B, N, r, q1, q2, q3⟩ := q
        exact ⟨B, N, r, r3.m d _ (nb hh.1) q1, ih hh.2 q2, q3⟩
    obtain ⟨D1, h5, h6⟩ := h4
    exact ⟨D1, hmr hm h5, h6⟩⟩

/-- new data, that nobody writes from now on -/
theorem Ops.data {d len z : Nat} {cap : Option Nat} {cs : List AV} {ty : TypeId} (hd : o.dst = some d) (hs : Nat.ble (d + 1) sz = true) (hw : Want all L o true) (hcl : cls X.c o.op = .alloc) (hop : Hop X L h o (.sl h.nxt 0 len cap z) (newRow h ty cs.length .leaf cs)) (hlen : cs.length = len * z) (hdt : datsB cs = true)
    (nx : Ops X sz rd all rest k ((d, .rsl len z cs) :: L) h m Q) : Ops X sz rd all (o :: rest) k L h m Q := ⟨fun e0 he => by
  refine TriOps.cons (hw e0 he) (K := fun s' => RunK X sz rd k Q .normal s') ?_
  intro ro ρ w a next Q' h1 p h3 h4 h5
  refine ⟨fun _ _ => trivial, ?_⟩
  have hopA := hop e0 he
  rw [show (wideR ro).round = ro from rfl, Oper.semAt_eq ro a.eval o (opA_defer hopA)]
  obtain ⟨b, b1, b2, b3, b4⟩ := alloc_spec hcl hopA
  have hbe : b = .row ⟨ty, cs.length, .leaf, cs, none⟩ := by
    have h7 : (newRow h ty cs.length .leaf cs).get h.nxt = (h.new b).get h.nxt := by rw [b1]
    rw [show newRow h ty cs.length .leaf cs = h.new (.row ⟨ty, cs.length, .leaf, cs, none⟩) from rfl, Heap.get_new, Heap.get_new, if_pos rfl, if_pos rfl] at h7
    exact h7.symm
  subst hbe
  have hbr : HR ρ (bare h.nxt) w := bare_hr h.nxt p.hr.lt p.hr.fz
  obtain ⟨nx', w', ρ1, q1, q2, q3⟩ := opA_ok E.k hbr (bare_wf _) (fun i a b => p.fr.1 i a) h3 (b4 (bare h.nxt) rfl)
  have hblk : ∀ B, B < w.heap.size → w'.heap[B]? = w.heap[B]? := fun B hB => q2.frame B hB (fun i N _ => bare_no _ i)
  have hFo : ∀ B, B < w.heap.size → ρ1.F B = ρ.F B := fun B hB => q2.fold B hB (fun i N _ => bare_no _ i)
  have hgetn : ((bare h.nxt).new (.row ⟨ty, cs.length, .leaf, cs, none⟩)).get h.nxt = .row ⟨ty, cs.length, .leaf, cs, none⟩ := by
    have := Heap.get_new (bare h.nxt) h.nxt (.row ⟨ty, cs.length, .leaf, cs, none⟩)
    rw [this]; exact if_pos rfl
  have hokn : ((bare h.nxt).new (.row ⟨ty, cs.length, .leaf, cs, none⟩)).ok h.nxt := by
    unfold Heap.ok; rw [hgetn]; simp only []; rw [Heap.row_of hgetn]; rfl
  -- its value
  rcases q3 with ⟨S, rfl, q3⟩ | ⟨_, q3⟩
  · simp only [VR] at q3
    obtain ⟨B, N, C, e1, rfl, hC, _, _⟩ := q3
    have hro := q2.hr.ok h.nxt B N e1 hokn
    rw [hgetn] at hro
    have hro : RowOk ρ1 ⟨ty, cs.length, .leaf, cs, none⟩ B N w' := hro
    obtain ⟨L0, l1, l2, l3⟩ := RowOk.reads hro cs.length 0 (by simp)
    rw [read_whole ty cs cs.length rfl] at l1
    have hFB : ρ1.F B = [] := q2.hr.F_row e1 hokn (fun r => by rw [hgetn]; exact fun q => by cases q)
    have hBge : w.heap.size ≤ B := by
      rcases q2.newb h.nxt B N e1 (p.fr.1 _ (Nat.le_refl _)) with r | ⟨j, M, _, r⟩
      · exact r
      · exact absurd r (bare_no _ j)
    have g1 : ∀ b, b ≠ B → (fun b => if b = B then L0 else ρ1.F b) b = ρ1.F b := fun b q => if_neg q
    have g2 : (fun b => if b = B then L0 else ρ1.F b) B = L0 := if_pos rfl
    have f1 : ∀ (b j : Nat) (x : Value), (ρ1.F b)[j]? = some x → ((fun b => if b = B then L0 else ρ1.F b) b)[j]? = some x := fun b j x q => by
      by_cases hb : b = B
      · subst hb; rw [hFB] at q; simp at q
      · rw [g1 b hb]; exact q
    have f0 : ∀ (b j : Nat) (x : Value), (ρ.F b)[j]? = some x → ((fun b => if b = B then L0 else ρ1.F b) b)[j]? = some x := fun b j x q => f1 b j x (q2.sub.F b j x q)
    have f3 : FzW (fun b => if b = B then L0 else ρ1.F b) w' := fun b j x q => by
      by_cases hb : b = B
      · subst hb; rw [g2] at q
        have := l3 j x q; rwa [Nat.zero_add] at this
      · rw [g1 b hb] at q; exact q2.hr.fz b j x q
    have hsub : Sub ρ ⟨ρ.m, fun b => if b = B then L0 else ρ1.F b, ρ.V⟩ := ⟨fun _ _ e => e, f0, fun _ _ _ e => e⟩
    have hpi := p.frz ⟨q2.same, hblk⟩ f0 (fun b hb => (g1 b (by omega)).trans (hFo b hb)) f3
    rw [q1]
    refine h5 (.rsl len z cs) ⟨e0, h, m⟩ _ w' _ ⟨e0.set und d (.rsl len z cs), by rw [hd]; exact setD_some hs, nx.run _ (he.set d _)⟩ (h1.mono hsub) hpi (h3.mono hsub) (h4.mono hsub) ?_
    simp only [VR]
    refine ⟨hlen, .inr ⟨B, 0, C, L0, rfl, hC, ?_, fun j x q => ?_⟩⟩
    · exact VRs.mono (ρ := ρ1.d) (σ := (⟨ρ.m, fun b => if b = B then L0 else ρ1.F b, ρ.V⟩ : Map).d) ⟨(fun _ _ e => by cases e), f1, (fun _ _ _ e => by cases e)⟩ cs (dats_ok cs hdt l1)
    · show ((fun b => if b = B then L0 else ρ1.F b) B)[0 + j]? = some x
      rw [g2, Nat.zero_add]; exact q
  · simp only [VR] at q3
    obtain ⟨B, N, C, e1, e2, _⟩ := q3
    cases e2⟩

omit E in
theorem Hop.box {t : Nat} {x : Operand} {v r : AV} {h' : Heap} (ho : o.op = .box t x) (hx : evL L x = some v) (hb : oBox h t v = some (r, h')) : Hop X L h o r h' := fun e' he => by
  rw [ho]; simp only [opA]; rw [he.ev hx, hb]; rfl
omit E in
theorem Hop.eqD {t u : Nat} {x y : Operand} {a b : AV} {r : Bool} (ho : o.op = .binOp .eql t x y u) (hx : evL L x = some a) (hy : evL L y = some b) (hn : (match a with | .int _ _ => false | .str _ => false | .nilifc => false | _ => true) = true) (hr : eqv X.c 6 t a b = some r) : Hop X L h o (.bool r) h := fun e' he => by
  rw [ho]; simp only [opA]; rw [he.ev hx, he.ev hy]
  cases a <;> first | (cases hn; done) | (simp only [oBinX, oBin, hr, val])
omit E in
theorem Hop.neD {t u : Nat} {x y : Operand} {a b : AV} {r : Bool} (ho : o.op = .binOp .neq t x y u) (hx : evL L x = some a) (hy : evL L y = some b) (hn : (match a with | .int _ _ => false | .str _ => false | .nilifc => false | _ => true) = true) (hr : eqv X.c 6 t a b = some r) : Hop X L h o (.bool (!r)) h := fun e' he => by
  rw [ho]; simp only [opA]; rw [he.ev hx, he.ev hy]
  cases a <;> first | (cases hn; done) | (simp only [oBinX, oBin, hr, val])
omit E in
theorem strEq_sA (a b : List UInt8) : strEq (a.map UInt8.toNat) (b.map UInt8.toNat) = bd (a = b) := by
  rw [strEq_eq, ← bd_dec]
  have h1 : ∀ l : List UInt8, (l.map UInt8.toNat).map UInt8.ofNat = l := fun l => by
    rw [List.map_map]
    have : (UInt8.ofNat ∘ UInt8.toNat) = id := by funext x; simp
    rw [this, List.map_id]
  rw [h1, h1]
  by_cases h : a = b <;> simp [h]
omit E in
theorem Hop.eqS {t u : Nat} {x y : Operand} {a b : List UInt8} (ho : o.op = .binOp .eql t x y u) (hx : evL L x = some (sA a)) (hy : evL L y = some (sA b)) : Hop X L h o (.bool (bd (a = b))) h := fun e' he => by
  rw [ho]; simp only [opA]; rw [he.ev hx, he.ev hy]
  simp only [sA, oBinX, oBin, strOp, strEq_sA, val]
omit E in
theorem Hop.neS {t u : Nat} {x y : Operand} {a b : List UInt8} (ho : o.op = .binOp .neq t x y u) (hx : evL L x = some (sA a)) (hy : evL L y = some (sA b)) : Hop X L h o (.bool (!bd (a = b))) h := fun e' he => by
  rw [ho]; simp only [opA]; rw [he.ev hx, he.ev hy]
  simp only [sA, oBinX, oBin, strOp, strEq_sA, val]

/-! ## values that are made -/
def partsL (L : List (Nat × AV)) : List (Nat × Operand) → Option (List (Nat × AV))
  | [] => some []
  | (i, x) :: r => (match evL L x with | some v => (match partsL L r with | some vs => some ((i, v) :: vs) | none => none) | none => none)
omit E in
theorem partsL_ok {e : T AV} (he : Has e L) : ∀ {l : List (Nat × Operand)} {vs : List (Nat × AV)}, partsL L l = some vs → l.map (fun p => (p.1, ev e p.2)) = vs
  | [], vs, q => by cases q; rfl
  | (i, x) :: r, vs, q => by
    unfold partsL at q
    split at q
    · rename_i v hv
      split at q
      · rename_i us hu
        cases q
        simp only [List.map_cons]
        rw [he.ev hv, partsL_ok he hu]
      · cases q
    · cases q
def plOf (tb : List (Nat × TE)) : List (Nat × Nat) → Option (List (Nat × Nat))
  | [] => some []
  | (off, t) :: r => (match lkT tb t with | some e => (match plOf tb r with | some ps => some ((off, e.s) :: ps) | none => none) | none => none)
theorem plOf_ok : ∀ {fs : List Field} {pl : List (Nat × Nat)}, plOf tb (fs.map fun f => (f.offset, f.type)) = some pl → placesA X.c fs = some pl
  | [], pl, q => by cases q; rfl
  | f :: fs, pl, q => by
    simp only [List.map_cons] at q
    unfold plOf at q
    split at q
    · rename_i e he
      split at q
      · rename_i ps hps
        cases q
        have h1 := plOf_ok hps
        show (match X.c.size f.type with | some s => (match placesA X.c fs with | some r => some ((f.offset, s) :: r) | none => none) | none => none) = _
        rw [(E.t _ e he).size, h1]
      · cases q
    · cases q
theorem Hop.build {t : Nat} {ps : Array (Nat × Operand)} {vals : List (Nat × AV)} {e : TE} {fl pl : List (Nat × Nat)} {z cs : List AV} (ho : o.op = .build t ps) (hps : partsL L ps.toList = some vals) (ht : lkT tb t = some e) (hk : e.k = .struct fl) (hz : e.z = .agg z) (hp : plOf tb fl = some pl) (hf : fillA (nth1 pl) vals z = some cs) :
    Hop X L h o (.agg cs) h := fun e' he => by
  obtain ⟨fs, h1, h2⟩ := (E.t t e ht).struct hk
  have h3 := (E.t t e ht).z
  rw [← h2] at hp
  have h4 := plOf_ok E hp
  have h5 : nth pl = nth1 pl := by funext i; rw [nth_eq, nth1_eq]
  rw [ho]; simp only [opA, parts]
  rw [partsL_ok he hps]
  simp only [oBuild, h3, hz, h1, h4, h5, hf, val]
theorem Hop.bslice {t el len : Nat} {ps : Array (Nat × Operand)} {vals : List (Nat × AV)} {e ee : TE} {cs zc : List AV} (ho : o.op = .buildSlice t len ps) (hps : partsL L ps.toList = some vals) (ht : lkT tb t = some e) (hk : e.k = .slice el) (hel : lkT tb el = some ee) (hl0 : Nat.beq len 0 = false)
    (hzc : (match ee.z with | .bad => none | v => some v.cells) = some zc) (hsz : Nat.beq ee.s zc.length = true) (h0 : Nat.beq (len * ee.s) 0 = false) (h6 : Nat.ble (len * ee.s) 1000000 = true) (hf : fillA (fun i => some (i * ee.s, ee.s)) vals (reps len zc) = some cs) : Hop X L h o (.sl h.nxt 0 len (some len) ee.s) (newRow h el cs.length .leaf cs) := fun e' he => by
  have h1 := (E.t t e ht).sl hk
  have h2 := (E.t el ee hel).size
  have h3 : X.c.zcells el = some zc := by
    unfold Ctx.zcells
    rw [(E.t el ee hel).z]
    cases hv : ee.z <;> rw [hv] at hzc <;> first | (cases hzc; done) | exact hzc
  rw [ho]; simp only [opA, parts]
  rw [partsL_ok he hps]
  simp only [oBuildSlice, h1, h2, hl0, h3, hsz, h0, h6, hf, valH]
/-- a store into an array of one's own -/
theorem Hop.storeO {t : Nat} {x y : Operand} {id n off ty z : Nat} {v : AV} {l : List AV} {e : TE} (ho : o.op = .store t x y) (hx : evL L x = some (.optr id n off)) (hy : evL L y = some v) (ht : lkT tb t = some e) (hl : Nat.beq e.s v.cells.length = true) (hg : h.get id = .arr ty z n l) (h1 : ones v.cells = true) (h2 : datsB v.cells = true) (hb : off + v.cells.length ≤ l.length) :
    Hop X L h o und (h.put id (.arr ty z n (l.take off ++ v.cells ++ l.drop (off + v.cells.length)))) := fun e' he => by
  rw [ho]; simp only [opA]; rw [he.ev hx, he.ev hy]
  simp only [oStore, (E.t t e ht).size, hl, wOwn, hg, Nat.beq_refl, h1, h2, Nat.ble_eq_true_of_le hb, unit]
end
end Go.Px
end
/- PxTj -/
section
set_option linter.unusedVariables false
set_option linter.unusedSimpArgs false
namespace Go.Px

/-- each slot once -/
def onceB : List (Nat × AV) → Bool
  | [] => true
  | (t, _) :: r => (match r.all fun p => !Nat.beq p.1 t with | true => onceB r | false => false)
theorem once_lk : ∀ {L : List (Nat × AV)}, onceB L = true → ∀ p ∈ L, lkO L p.1 = some p.2
  | [], _, p, h => by cases h
  | (t, v) :: r, h, p, hp => by
    simp only [onceB] at h
    split at h
    · rename_i hr
      rw [List.all_eq_true] at hr
      unfold lkO
      rcases List.mem_cons.1 hp with rfl | hp
      · simp only [Nat.beq_refl]
      · have := hr p hp
        rw [beqF (nb this)]
        exact once_lk h p hp
    · cases h
theorem lk_mem : ∀ {L : List (Nat × AV)} {t : Nat} {v : AV}, lkO L t = some v → (t, v) ∈ L
  | [], _, _, h => by cases h
  | (s, u) :: r, t, v, h => by
    unfold lkO at h
    split at h
    · rename_i hs; cases h; rw [beqT hs]; exact List.mem_cons_self
    · exact List.mem_cons_of_mem _ (lk_mem h)
/-- what a caller holds: its slots, its marks, its round -/
def rdA (rd : Option Nat) : List AV := match rd with | some l => [.ptr l 0] | none => []
def held (L : List (Nat × AV)) (m : List Nat) (rd : Option Nat) : List AV := L.map (·.2) ++ (m.map (fun d => AV.ptr d 0) ++ rdA rd)
theorem held_in {X : Cx} {ρ : Map} {L : List (Nat × AV)} {m : List Nat} {rd ro : Option Nat} {e : T AV} {tm : Array Value} {sz : Nat} {D : List Deferred} (h1 : RoX X ρ rd ro) (er : ER ρ e tm sz) (he : Has e L) (ho : onceB L = true) (h4 : MRX X ρ m D) :
    ∃ gx, VRs ρ (held L m rd) gx ∧ ∀ σ, VRs σ (held L m rd) gx → RoX X σ rd ro ∧ MRX X σ m D ∧ ∀ t v, lkO L t = some v → VR σ v (tm.getD t undef) := by
  -- slots
  have s1 : VRs ρ (L.map (·.2)) (L.map fun p => tm.getD p.1 undef) := VRs.map _ _ L fun p hp => by
    have := er.2 p.1
    rwa [he p.1 p.2 (once_lk ho p hp)] at this
  have s2 : ∀ σ, VRs σ (L.map (·.2)) (L.map fun p => tm.getD p.1 undef) → ∀ t v, lkO L t = some v → VR σ v (tm.getD t undef) := fun σ q t v hl => by
    obtain ⟨i, hi⟩ := List.getElem?_of_mem (lk_mem hl)
    exact (VRs.iff.1 q).2 i v _ (by rw [List.getElem?_map, hi]; rfl) (by rw [List.getElem?_map, hi]; rfl)
  -- marks
  obtain ⟨D1, h4, hD⟩ := h4
  have m1 : ∃ mx, VRs ρ (m.map fun d => AV.ptr d 0) mx ∧ ∀ σ, VRs σ (m.map fun d => AV.ptr d 0) mx → MR σ m D1 := by
    clear s1 s2 hD
    induction m generalizing D1 with
    | nil => exact ⟨[], by simp [VRs], fun σ _ => h4⟩
    | cons d m ih =>
      obtain ⟨B, N, r, q1, q2, rfl⟩ := h4
      obtain ⟨mx, i1, i2⟩ := ih _ q2
      refine ⟨.pointer (some ⟨B, 0, none⟩) :: mx, ?_, fun σ q => ?_⟩
      · simp only [List.map_cons, VRs, VR]; exact ⟨_, _, ⟨B, N, q1, rfl⟩, i1, rfl⟩
      · simp only [List.map_cons, VRs, VR] at q
        obtain ⟨x, y, ⟨B', N', q3, q4⟩, q5, q6⟩ := q
        cases q6
        cases q4
        exact ⟨B, N', r, q3, i2 σ q5, rfl⟩
  obtain ⟨mx, m2, m3⟩ := m1
  have r1 : ∃ rx, VRs ρ (rdA rd) rx ∧ ∀ σ, VRs σ (rdA rd) rx → RoX X σ rd ro := by
    cases rd with
    | none => exact ⟨[], by simp [rdA, VRs], fun σ _ => h1⟩
    | some l =>
      obtain ⟨B, N, q1, q2⟩ := h1
      refine ⟨[.pointer (some ⟨B, 0, none⟩)], by simp only [rdA, VRs, VR]; exact ⟨_, _, ⟨B, N, q1, rfl⟩, rfl, rfl⟩, fun σ q => ?_⟩
      simp only [rdA, VRs, VR] at q
      obtain ⟨x, y, ⟨B', N', q3, q4⟩, q5, q6⟩ := q
      cases q6
      cases q4
      exact ⟨B, N', q3, q2⟩
  obtain ⟨rx, r2, r3⟩ := r1
  refine ⟨(L.map fun p => tm.getD p.1 undef) ++ (mx ++ rx), s1.append (m2.append r2), fun σ q => ?_⟩
  have split : ∀ {a b : List AV} {A B : List Value}, a.length = A.length → VRs σ (a ++ b) (A ++ B) → VRs σ a A ∧ VRs σ b B := fun {a b A B} hl q => by
    obtain ⟨q1, q2⟩ := VRs.iff.1 q
    constructor
    · refine VRs.iff.2 ⟨hl, fun i x y hx hy => q2 i x y ?_ ?_⟩
      · rw [List.getElem?_append_left (List.getElem?_eq_some_iff.1 hx).1]; exact hx
      · rw [List.getElem?_append_left (List.getElem?_eq_some_iff.1 hy).1]; exact hy
    · refine VRs.iff.2 ⟨by simp only [List.length_append] at q1; omega, fun i x y hx hy => q2 (a.length + i) x y ?_ ?_⟩
      · rw [List.getElem?_append_right (by omega), show a.length + i - a.length = i by omega]; exact hx
      · rw [List.getElem?_append_right (by omega), show a.length + i - A.length = i by omega]; exact hy
  obtain ⟨q1, q2⟩ := split (by simp) q
  obtain ⟨q3, q4⟩ := split m2.length q2
  exact ⟨r3 σ q4, ⟨D1, m3 σ q3, hD⟩, s2 σ q1⟩

theorem VRs.split {σ : Map} {a b : List AV} {A B : List Value} (hl : a.length = A.length) (q : VRs σ (a ++ b) (A ++ B)) : VRs σ a A ∧ VRs σ b B := by
  obtain ⟨q1, q2⟩ := VRs.iff.1 q
  constructor
  · refine VRs.iff.2 ⟨hl, fun i x y hx hy => q2 i x y ?_ ?_⟩
    · rw [List.getElem?_append_left (List.getElem?_eq_some_iff.1 hx).1]; exact hx
    · rw [List.getElem?_append_left (List.getElem?_eq_some_iff.1 hy).1]; exact hy
  · refine VRs.iff.2 ⟨by simp only [List.length_append] at q1; omega, fun i x y hx hy => q2 (a.length + i) x y ?_ ?_⟩
    · rw [List.getElem?_append_right (by omega), show a.length + i - a.length = i by omega]; exact hx
    · rw [List.getElem?_append_right (by omega), show a.length + i - A.length = i by omega]; exact hy
theorem PI.more {X : Cx} {ρ : Map} {h : Heap} {w : World} (p : PI X ρ h w) {gv : List AV} {gx : List Value} (q : VRs ρ gv gx) : PI ⟨X.c, X.w0, X.F0, X.opn, X.g, none, [], gv ++ X.gv, gx ++ X.gx⟩ ρ h w :=
  { p with keep := q.append p.keep }
theorem PI.less {X : Cx} {ρ : Map} {h : Heap} {w : World} {gv : List AV} {gx : List Value} (p : PI ⟨X.c, X.w0, X.F0, X.opn, X.g, none, [], gv ++ X.gv, gx ++ X.gx⟩ ρ h w) (hl : gv.length = gx.length) : PI X ρ h w ∧ VRs ρ gv gx :=
  ⟨{ p with keep := (VRs.split hl p.keep).2 }, (VRs.split hl p.keep).1⟩

/-- a callee has come to its end -/
def FinI (c : Ctx) (res : List ResultVar) (K : AV → Heap → Prop) : Post := fun x s => (x = .normal ∨ x = .ret) ∧ ∃ h' vs, leave s.h s.m = some h' ∧ resA c h' s.e res = some vs ∧ K (one vs) h'

section
variable {X : Cx} {tb : List (Nat × TE)} (E : Env X.c tb) {sz : Nat} {rd : Option Nat} {all : Array Oper} {o : Oper} {rest : List Oper} {k : List It} {L : List (Nat × AV)} {h : Heap} {m : List Nat} {Q : Post}
include E
/-- a body gone through for a caller that holds something -/
theorem callee {g : FuncId} {fn : Func} {body : Code} (hf : X.c.P.funcs[g]? = some fn) (hb : fn.body = some body) {args : List AV} (hlen : args.length ≤ fn.ntmps) {gv : List AV} {K : AV → Heap → Prop}
    (H : ∀ gx, Go ⟨X.c, X.w0, X.F0, X.opn, X.g, none, [], gv ++ X.gv, gx ++ X.gx⟩ fn.ntmps none [.code body] (argsL args 0) h [] (FinI X.c fn.results.toList K))
    {ρ : Map} {w : World} (p : PI X ρ h w) {A : List Value} (hA : VRs ρ args A) {gx : List Value} (hg : VRs ρ gv gx) {R : Value → World → Prop} (hR : ∀ v h' z w' ρ', K v h' → PI X ρ' h' w' → VRs ρ' gv gx → VR ρ' v z → R z w') :
    (callFunc g A.toArray).run X.c.P w = .ok (.enter g A.toArray) w ∧ CallsIn Fence.wide 0 X.c.P g A.toArray w (EndR R) := by
  have hnm : fn.name ≠ "runtime.NumGoroutine" := by simpa using E.k.names g fn hf
  refine ⟨by simp [callFunc, hf, hnm, hb, Sem.run], callsIn_of_wp_marks hf hb trivial ?_⟩
  have hrun := (H gx).run (T.put und args (env0 und fn.ntmps) 0) (argsL_has args _ 0)
  have ht : Tri ⟨X.c, X.w0, X.F0, X.opn, X.g, none, [], gv ++ X.gv, gx ++ X.gx⟩ fn.ntmps none body ⟨T.put und args (env0 und fn.ntmps) 0, h, []⟩ (FinI X.c fn.results.toList K) := hrun
  refine ht none ρ w _ _ rfl (p.more hg) (args_er hA hlen) ⟨[], rfl, rfl⟩ fun x s' a' w' ρ' ⟨hx, h', vs, q1, q2, q3⟩ g1 g2 g3 g4 => ?_
  have hfin : LeavesInM Fence.wide 0 X.c.P fn a'.tmps (EndR R) a'.defers .returning w' := by
    refine leave_ok g2.hr g2.wf (g4.nil rfl) q1 fun w2 gg => ?_
    have g5 := g2.good gg (ArrKeep.leave q1)
    obtain ⟨z, z1, z2⟩ := results_ok E.k g5.hr g3 q2
    obtain ⟨g6, g7⟩ := g5.less hg.length
    exact ⟨z, z1, hR _ _ z w2 ρ' q3 g6 g7 z2⟩
  rcases hx with rfl | rfl
  · exact hfin
  · exact hfin

/-- A CALL OF A FUNCTION VALUE, in place. -/
theorem Ops.inl {d : Nat} {cl : Call} {f : Operand} {g : FuncId} {fn : Func} {body : Code} {first cap vs : List AV} (hd : o.dst = some d) (hs : Nat.ble (d + 1) sz = true) (hw : Want all L o true) (ho : o.op = .call cl) (hc : cl.callee = .value f) (hfv : evL L f = some (.fn (.func g) first cap))
    (hv : evsL L cl.args.toList = some vs) (hf : X.c.P.funcs[g]? = some fn) (hb : fn.body = some body) (hlen : Nat.ble (first ++ vs ++ cap).length fn.ntmps = true) (hon : onceB L = true)
    (H : ∀ gx, Go ⟨X.c, X.w0, X.F0, X.opn, X.g, none, [], held L m rd ++ X.gv, gx ++ X.gx⟩ fn.ntmps none [.code body] (argsL (first ++ vs ++ cap) 0) h [] (FinI X.c fn.results.toList fun v h' => Ops X sz rd all rest k ((d, v) :: L) h' m Q)) : Ops X sz rd all (o :: rest) k L h m Q := ⟨fun e0 he => by
  refine TriOps.cons (hw e0 he) (K := fun s' => RunK X sz rd k Q .normal s') ?_
  intro ro ρ w a next Q' h1 p h3 h4 h5
  refine ⟨fun _ _ => trivial, ?_⟩
  rw [show (wideR ro).round = ro from rfl, Oper.semAt_eq ro a.eval o (by rw [ho]; intro d q; cases q)]
  have hfv' := ev_ok h3 f
  rw [he.ev hfv] at hfv'
  simp only [VR, FR] at hfv'
  obtain ⟨f', F, C, e1, e2, e3, e4⟩ := hfv'
  subst e1
  have hargs := evs_ok h3 cl.args.toList
  rw [he.evs hv] at hargs
  have hA := VRs.append (VRs.append e2 hargs) e3
  obtain ⟨gx, g1, g2⟩ := held_in h1 h3 he hon h4
  obtain ⟨q1, q2⟩ := callee E hf hb (bleT hlen) H p hA g1 (R := fun z w' => next (a.put o.dst z) w') (fun v h' z w' ρ' hK hp hgv hz => by
    obtain ⟨r1, r2, r3⟩ := g2 ρ' hgv
    obtain ⟨e', he', er'⟩ := known_env (σ := ρ') (L := L) (tm := a.tmps) (sz := sz) h3.1 r3
    exact h5 v ⟨e', h', m⟩ z w' ρ' ⟨e'.set und d v, by rw [hd]; exact setD_some hs, hK.run _ (he'.set d v)⟩ r1 hp er' r2 hz)
  have hrun : (execOp a.eval o).run X.c.P w = .ok (.enter g (F ++ cl.args.toList.map a.eval ++ C).toArray) w := by
    rw [← q1]
    simp only [execOp, ho, resolve, hc, e4, Deferred.ofValue, Sem.run_bind, Sem.run_pure, Result.andThen_ok, invoke]
    congr 2
    apply Array.ext'; simp
  rw [hrun]
  exact uponIn_of_next (R := fun z w' => next (a.put o.dst z) w') (nx := .enter g _) q2 fun z w' r => r⟩
omit E in
theorem Go.retI {X' : Cx} {sz' : Nat} {k' : List It} {L' : List (Nat × AV)} {c : Ctx} {res : List ResultVar} {vs : List AV} {K : AV → Heap → Prop} (hr : resL L' res = some vs) (n : K (one vs) h) : Go X' sz' none (.code .ret :: k') L' h [] (FinI c res K) :=
  Go.ret fun e he => ⟨.inr rfl, h, vs, rfl, resL_ok he hr, n⟩
omit E in
theorem Go.endI {X' : Cx} {sz' : Nat} {L' : List (Nat × AV)} {c : Ctx} {res : List ResultVar} {vs : List AV} {K : AV → Heap → Prop} (hr : resL L' res = some vs) (n : K (one vs) h) : Go X' sz' none [] L' h [] (FinI c res K) :=
  Go.nil fun e he => ⟨.inl rfl, h, vs, rfl, resL_ok he hr, n⟩
end
end Go.Px
end
/- PxTk -/
section
set_option linter.unusedVariables false
set_option linter.unusedSimpArgs false
namespace Go.Px

/-- an activation's slots, as far as they are known -/
noncomputable def envLs (L : List (Nat × AV)) (sz : Nat) : List AV := (List.range sz).map fun t => (lkO L t).getD .bad
theorem envLs_er {ρ : Map} {L : List (Nat × AV)} {e : T AV} {tm : Array Value} {sz : Nat} (er : ER ρ e tm sz) (he : Has e L) : ER ρ (T.put und (envLs L sz) .leaf 0) tm sz := by
  refine ⟨er.1, fun t => ?_⟩
  rw [get_put]
  simp only [Nat.zero_le, if_true, Nat.sub_zero, get_leaf]
  by_cases ht : t < sz
  · unfold envLs
    rw [List.getElem?_map, List.getElem?_range ht]
    simp only [Option.map_some, Option.getD_some]
    cases hl : lkO L t with
    | none => simp [VR]
    | some v =>
      have := er.2 t
      rw [he t v hl] at this
      exact this
  · rw [List.getElem?_eq_none (by simp [envLs]; omega)]
    have : tm.getD t undef = undef := by rw [Array.getD_eq_getD_getElem?, Array.getElem?_eq_none (by rw [er.1]; omega)]; rfl
    rw [this]; exact und_ok ρ
/-- the loop's block, laid -/
noncomputable def loopH (h : Heap) (L : List (Nat × AV)) (sz : Nat) (ps : List Tmp) (assign body : Code) : Heap :=
  (h.new (.dfr true)).new (.loop ⟨.ready, none, 0, T.put und (envLs L sz) .leaf 0, sz, ps, assign, body, h.nxt⟩)
/-- a parameter's slots, set -/
def setL : List Tmp → List AV → List (Nat × AV) → List (Nat × AV)
  | p :: ps, a :: avs, L => setL ps avs ((p, a) :: L)
  | _, _, L => L
theorem setPs_has : ∀ {ps : List Tmp} {avs : List AV} {e e' : T AV} {sz : Nat} {L : List (Nat × AV)}, setPs e ps avs sz = some e' → Has e L → Has e' (setL ps avs L)
  | [], [], e, e', sz, L, q, h => by
    have q' : some e = some e' := q
    cases q'; exact h
  | [], a :: avs, e, e', sz, L, q, h => by
    have q' : (none : Option (T AV)) = some e' := q
    cases q'
  | p :: ps, [], e, e', sz, L, q, h => by
    have q' : (none : Option (T AV)) = some e' := q
    cases q'
  | p :: ps, a :: avs, e, e', sz, L, q, h => by
    have q' : (match Nat.ble (p + 1) sz with | true => setPs (e.set und p a) ps avs sz | false => none) = some e' := q
    split at q'
    · exact setPs_has (L := (p, a) :: L) q' (h.set p a)
    · cases q'
theorem setPs_some : ∀ {ps : List Tmp} {avs : List AV} {sz : Nat} (e : T AV), Nat.beq ps.length avs.length = true → (ps.all fun p => Nat.ble (p + 1) sz) = true → ∃ e', setPs e ps avs sz = some e'
  | [], [], sz, e, _, _ => ⟨e, rfl⟩
  | [], a :: avs, sz, e, h, _ => by cases h
  | p :: ps, [], sz, e, h, _ => by cases h
  | p :: ps, a :: avs, sz, e, h, k => by
    simp only [List.all_cons, Bool.and_eq_true] at k
    obtain ⟨e', q⟩ := setPs_some (ps := ps) (avs := avs) (e.set und p a) h k.2
    refine ⟨e', ?_⟩
    show (match Nat.ble (p + 1) sz with | true => setPs (e.set und p a) ps avs sz | false => none) = some e'
    rw [k.1]; exact q

section
variable {X : Cx} {tb : List (Nat × TE)} (E : Env X.c tb) {sz : Nat} {all : Array Oper} {o : Oper} {rest : List Oper} {k : List It} {L : List (Nat × AV)} {h : Heap} {m : List Nat} {Q : Post}
include E

/-- behind the iterator's end -/
def AfterR (X : Cx) (sz : Nat) (rd : Option Nat) (k : List It) (L : List (Nat × AV)) (l : Nat) (m : List Nat) (Q : Post) (h : Heap) : Prop :=
  ∃ r, h.get l = .loop r ∧ r.state ≠ .busy ∧ ∀ e, Has e L → RunK X sz rd k Q (match r.pending with | none => .normal | some x => x) ⟨e, h.put l (.loop { r with state := .exhausted }), m⟩
/-- A RANGE OVER A FUNCTION. -/
theorem Go.range {f : Operand} {ps : Array Tmp} {assign body bodyG : Code} {g : FuncId} {fn : Func} {first cap : List AV} (hfv : evL L f = some (.fn (.func g) first cap)) (hf : X.c.P.funcs[g]? = some fn) (hb : fn.body = some bodyG)
    (hlen : Nat.ble (first ++ [AV.fn (.yield (h.nxt + 1)) [] []] ++ cap).length fn.ntmps = true) (hon : onceB L = true)
    (H : ∀ gx, Go ⟨X.c, X.w0, X.F0, X.opn, X.g, none, [], (held L (h.nxt :: m) none ++ [AV.ptr (h.nxt + 1) 0]) ++ X.gv, gx ++ X.gx⟩ fn.ntmps none [.code bodyG] (argsL (first ++ [AV.fn (.yield (h.nxt + 1)) [] []] ++ cap) 0) (loopH h L sz ps.toList assign body) []
      (FinI X.c fn.results.toList fun _ h' => AfterR X sz none k L (h.nxt + 1) (h.nxt :: m) Q h')) (hro : X.ro = none := by rfl) : Go X sz none (.code (.rangeFunc f ps assign body) :: k) L h m Q := ⟨fun e0 he => by
  intro ro ρ w a Q' h1 p h3 h4 h5
  refine wpIn_rangeFunc fun fn' _ => ?_
  have hE := envLs_er h3 he
  have hel : enterLoop h 0 (T.put und (envLs L sz) .leaf 0) sz ps.toList assign body none = some (h.nxt + 1, [h.nxt], loopH h L sz ps.toList assign body) := rfl
  obtain ⟨B, N, mark, w1, ρ1, q1, g1, hl1, hm1⟩ := enterLoop_ok (c := X.c) (P := X.c.P) (fn' := fn') p.hr p.wf p.fr hE (rd := none) (show RoOk ρ none ro from (show ro = X.ro from h1).trans hro) hel
  have p1 : PI X ρ1 (loopH h L sz ps.toList assign body) w1 := p.good g1 ((ArrKeep.new rfl).trans (ArrKeep.new rfl))
  have hm2 : MRX X ρ1 (h.nxt :: m) (mark ++ a.defers) := MRX.push (m := [h.nxt]) hm1 (h4.mono g1.sub)
  obtain ⟨gx, b1, b2⟩ := held_in (L := L) (h1.mono g1.sub) (h3.mono g1.sub) he hon hm2
  have b3 : VRs ρ1 (held L (h.nxt :: m) none ++ [AV.ptr (h.nxt + 1) 0]) (gx ++ [.pointer (some ⟨B, 0, none⟩)]) := b1.append (by simp only [VRs, VR]; exact ⟨_, _, ⟨B, N, hl1, rfl⟩, rfl, rfl⟩)
  have hfv' := VR.mono g1.sub _ (ev_ok h3 f)
  rw [he.ev hfv] at hfv'
  simp only [VR, FR] at hfv'
  obtain ⟨f', F, C, e1, e2, e3, e4⟩ := hfv'
  subst e1
  have hy : VRs ρ1 [AV.fn (.yield (h.nxt + 1)) [] []] [Value.func (.yield B) #[] #[]] := by
    simp only [VRs, VR, FR]
    exact ⟨_, _, ⟨_, [], [], ⟨B, N, hl1, rfl⟩, rfl, rfl, rfl⟩, rfl, rfl⟩
  have hA := VRs.append (VRs.append e2 hy) e3
  obtain ⟨c1, c2⟩ := callee E hf hb (bleT hlen) H p1 hA b3 (R := fun z w2 => ∃ ρ2 h2, AfterR X sz none k L (h.nxt + 1) (h.nxt :: m) Q h2 ∧ PI X ρ2 h2 w2 ∧ VRs ρ2 (held L (h.nxt :: m) none ++ [AV.ptr (h.nxt + 1) 0]) (gx ++ [.pointer (some ⟨B, 0, none⟩)])) (fun v h' z w' ρ' hK hp hgv hz => ⟨ρ', h', hK, hp, hgv⟩)
  have harr : (F.toArray ++ #[Value.func (.yield B) #[] #[]] ++ C.toArray) = (F ++ [Value.func (.yield B) #[] #[]] ++ C).toArray := by apply Array.ext'; simp
  refine ⟨B, mark, w1, { target := .fn (.func g) C.toArray, args := F.toArray ++ #[Value.func (.yield B) #[] #[]] }, w1, g, F.toArray ++ #[Value.func (.yield B) #[] #[]] ++ C.toArray, w1, q1, ?_, fun _ _ => trivial, ?_, fun q => by simp [wideR, Fence.wide] at q, ?_⟩
  · simp only [resolve, e4, Deferred.ofValue, Sem.run_pure]
    simp [Act.eval]
  · simp only [invoke]
    have hcf : (callFunc g (F.toArray ++ #[Value.func (.yield B) #[] #[]] ++ C.toArray)).run X.c.P w1 = .ok (.enter g (F ++ [Value.func (.yield B) #[] #[]] ++ C).toArray) w1 := by rw [harr]; exact c1
    rw [harr] at hcf ⊢
    exact hcf
  · rw [harr]
    refine CallsIn.mono (callsIn_ro c2) fun e w' r => ?_
    cases e with
    | panicked ch => exact r.elim
    | outgrown => exact r.elim
    | returned z =>
      obtain ⟨ρ2, h2, ⟨r, hg, hnb, hrun⟩, hp, hgv⟩ := r
      obtain ⟨v1, v2⟩ := VRs.split b1.length hgv
      simp only [VRs, VR] at v2
      obtain ⟨x, y, ⟨B', N', v3, v4⟩, _, v5⟩ := v2
      cases v5
      cases v4
      obtain ⟨r1, r2, r3⟩ := b2 ρ2 v1
      obtain ⟨fn0, tm, D, M, t1, t2, t3⟩ := ALoop.get hp.hr v3 hg
      have hlt := hp.hr.lt _ B N' v3
      have g3 := Good.putBlock hp.hr hp.wf v3 (.loop r) (.loop { r with state := .exhausted })
        (.loop { state := .exhausted, pending := pendOf r.pending, fn := fn0, tmps := tm, params := r.params.toArray, assign := r.assign, body := r.body, defers := D }) hg rfl (by simp) rfl
        (by simp only [ABR]; exact ⟨fn0, tm, D, M, World.putObj_heap_same hlt, t2, t3⟩)
      have hp3 := hp.good g3 (ArrKeep.put rfl)
      refine ⟨pendOf r.pending, _, run_endLoop t1 hnb, ?_⟩
      obtain ⟨e', he', er'⟩ := known_env (σ := ρ2) (L := L) (tm := a.tmps) (sz := sz) h3.1 r3
      have hrun' := hrun e' he'
      have fin := fun (x : Ex) (hx : (match r.pending with | none => Ex.normal | some x => x) = x) => h5 x ⟨e', h2.put (h.nxt + 1) (.loop { r with state := .exhausted }), h.nxt :: m⟩ { a with defers := mark ++ a.defers } _ ρ2 (hx ▸ hrun') r1 hp3 er' r2
      cases hpd : r.pending with
      | none =>
        have := fin .normal (by rw [hpd])
        simp only [hpd, pendOf] at this ⊢
        exact this
      | some x =>
        cases x with
        | normal =>
          have := fin .normal (by rw [hpd])
          simp only [hpd, pendOf, exCode] at this ⊢
          exact this
        | exit id =>
          have := fin (.exit id) (by rw [hpd])
          simp only [hpd, pendOf, exCode] at this ⊢
          exact wpIn_exit this
        | ret =>
          have := fin .ret (by rw [hpd])
          simp only [hpd, pendOf, exCode] at this ⊢
          exact wpIn_ret this⟩

/-- behind a round -/
def AfterB (X : Cx) (sz : Nat) (rd : Option Nat) (all : Array Oper) (rest : List Oper) (k : List It) (L : List (Nat × AV)) (d l : Nat) (m : List Nat) (Q : Post) : Post := fun x s =>
  ∃ r, s.h.get l = .loop r ∧ (match x with
    | .normal => Ops X sz rd all rest k ((d, .bool true) :: L) (s.h.put l (.loop { r with state := .ready, pending := none })) m Q
    | x => Ops X sz rd all rest k ((d, .bool false) :: L) (s.h.put l (.loop { r with state := .done, pending := some x })) m Q)
/-- behind the parameters' assigning -/
def AfterA (X : Cx) (sz l : Nat) (body : Code) (Q : Post) : Post := fun x s => x = .normal ∧ ∃ r, s.h.get l = .loop r ∧ r.state = .ready ∧ RunK X sz (some l) [.code body] Q .normal ⟨s.e, s.h.put l (.loop { r with state := .busy }), s.m⟩
omit E in
theorem Go.body {X' : Cx} {sz' l : Nat} {L' : List (Nat × AV)} {body : Code} {r : ALoop} (hl : h.get l = .loop r) (hs : r.state = .ready) (n : Go X' sz' (some l) [.code body] L' (h.put l (.loop { r with state := .busy })) m Q) : Go X' sz' (some l) [] L' h m (AfterA X' sz' l body Q) :=
  Go.nil fun e he => ⟨rfl, r, hl, hs, n.run e he⟩
omit E in
theorem Go.roundN {X' X : Cx} {sz' sz l d : Nat} {rd : Option Nat} {L' : List (Nat × AV)} {m' : List Nat} {r : ALoop} (hl : h.get l = .loop r) (n : Ops X sz rd all rest k ((d, .bool true) :: L) (h.put l (.loop { r with state := .ready, pending := none })) m Q) : Go X' sz' (some l) [] L' h m' (AfterB X sz rd all rest k L d l m Q) :=
  Go.nil fun e he => ⟨r, hl, n⟩
omit E in
theorem Go.roundX {X' X : Cx} {sz' sz l d id : Nat} {rd : Option Nat} {L' : List (Nat × AV)} {m' : List Nat} {r : ALoop} {k' : List It} (hx : xit id k' = none) (hl : h.get l = .loop r) (n : Ops X sz rd all rest k ((d, .bool false) :: L) (h.put l (.loop { r with state := .done, pending := some (.exit id) })) m Q) : Go X' sz' (some l) (.code (.exit id) :: k') L' h m' (AfterB X sz rd all rest k L d l m Q) := ⟨fun e he => Tri.exit (by
  have key : ∀ {k' : List It}, xit id k' = none → RunK X' sz' (some l) k' (AfterB X sz rd all rest k L d l m Q) (.exit id) ⟨e, h, m'⟩ := by
    intro k'
    induction k' with
    | nil => intro _; exact ⟨r, hl, n⟩
    | cons x k' ih =>
      intro q
      cases x with
      | code c => exact ih q
      | lp c => exact ih q
      | blk i =>
        unfold xit at q
        rw [show RunK X' sz' (some l) (.blk i :: k') (AfterB X sz rd all rest k L d l m Q) (.exit id) ⟨e, h, m'⟩ = (match Nat.beq id i with | true => RunK X' sz' (some l) k' (AfterB X sz rd all rest k L d l m Q) .normal ⟨e, h, m'⟩ | false => RunK X' sz' (some l) k' (AfterB X sz rd all rest k L d l m Q) (.exit id) ⟨e, h, m'⟩) from rfl]
        cases hi : Nat.beq id i with
        | true => rw [hi] at q; cases q
        | false => rw [hi] at q; exact ih q
  exact key hx)⟩
omit E in
theorem Go.roundR {X' X : Cx} {sz' sz l d : Nat} {rd : Option Nat} {L' : List (Nat × AV)} {m' : List Nat} {r : ALoop} {k' : List It} (hl : h.get l = .loop r) (n : Ops X sz rd all rest k ((d, .bool false) :: L) (h.put l (.loop { r with state := .done, pending := some .ret })) m Q) : Go X' sz' (some l) (.code .ret :: k') L' h m' (AfterB X sz rd all rest k L d l m Q) :=
  Go.ret fun e he => ⟨r, hl, n⟩

omit E in
/-- A ROUND: the iterator hands on what it has. -/
theorem Ops.round {rd : Option Nat} {d l : Nat} {cl : Call} {f : Operand} {vs lst : List AV} {r : ALoop} (hd : o.dst = some d) (hs : Nat.ble (d + 1) sz = true) (hw : Want all L o true) (ho : o.op = .call cl) (hc : cl.callee = .value f) (hfv : evL L f = some (.fn (.yield l) [] [])) (hv : evsL L cl.args.toList = some vs)
    (hl : h.get l = .loop r) (hrs : r.state = .ready) (hre : r.e = T.put und lst .leaf 0) (hps : Nat.beq r.params.length vs.length = true) (hps2 : (r.params.all fun p => Nat.ble (p + 1) r.sz) = true) (hon : onceB L = true)
    (H : ∀ gx, Go ⟨X.c, X.w0, X.F0, X.opn, X.g, none, [], (held L m rd ++ [AV.ptr l 0]) ++ X.gv, gx ++ X.gx⟩ r.sz (some l) [.code r.assign] (setL r.params vs (argsL lst 0)) h [] (AfterA ⟨X.c, X.w0, X.F0, X.opn, X.g, none, [], (held L m rd ++ [AV.ptr l 0]) ++ X.gv, gx ++ X.gx⟩ r.sz l r.body (AfterB X sz rd all rest k L d l m Q))) : Ops X sz rd all (o :: rest) k L h m Q := ⟨fun e0 he => by
  refine TriOps.cons (hw e0 he) (K := fun s' => RunK X sz rd k Q .normal s') ?_
  intro ro ρ w a next Q' h1 p h3 h4 h5
  refine ⟨fun _ _ => trivial, ?_⟩
  rw [show (wideR ro).round = ro from rfl, Oper.semAt_eq ro a.eval o (by rw [ho]; intro d q; cases q)]
  have hfv' := ev_ok h3 f
  rw [he.ev hfv] at hfv'
  simp only [VR, VRs, FR] at hfv'
  obtain ⟨f', F, C, ⟨B, N, hB, rfl⟩, rfl, rfl, e4⟩ := hfv'
  have hargs := evs_ok h3 cl.args.toList
  rw [he.evs hv] at hargs
  obtain ⟨gx0, b1, b2⟩ := held_in h1 h3 he hon h4
  have b3 : VRs ρ (held L m rd ++ [AV.ptr l 0]) (gx0 ++ [.pointer (some ⟨B, 0, none⟩)]) := b1.append (by simp only [VRs, VR]; exact ⟨_, _, ⟨B, N, hB, rfl⟩, rfl, rfl⟩)
  obtain ⟨fn0, tm, D, M, p1, p2, p3⟩ := ALoop.get p.hr hB hl
  obtain ⟨e, hpe⟩ := setPs_some (sz := r.sz) r.e hps hps2
  obtain ⟨hlen, her⟩ := setPs_ok hpe hargs p2
  have hhas : Has e (setL r.params vs (argsL lst 0)) := setPs_has hpe (by rw [hre]; exact argsL_has lst .leaf 0)
  have hy := run_yield (P := X.c.P) (args := (cl.args.toList.map a.eval).toArray) p1 (by simpa using hlen)
  have hrun : (execOp a.eval o).run X.c.P w = (Instr.yield B (cl.args.toList.map a.eval).toArray).run X.c.P w := by
    simp only [execOp, ho, resolve, hc, e4, Deferred.ofValue, Sem.run_bind, Sem.run_pure, Result.andThen_ok, invoke]
    congr 2
    apply Array.ext'; simp
  rw [hrun, hy]
  refine uponIn_of_next (R := fun z w' => next (a.put o.dst z) w') ?_ fun z w' r => r
  refine roundIn_of_wpIn trivial ?_
  have hz : (r.params.toArray.zip (cl.args.toList.map a.eval).toArray).foldl (fun tmps (p : Tmp × Value) => tmps.setIfInBounds p.1 p.2) tm = (r.params.zip (cl.args.toList.map a.eval)).foldl (fun tmps (p : Tmp × Value) => tmps.setIfInBounds p.1 p.2) tm := by
    simp
  have hA := (H (gx0 ++ [.pointer (some ⟨B, 0, none⟩)])).run e hhas
  have htA : Tri ⟨X.c, X.w0, X.F0, X.opn, X.g, none, [], (held L m rd ++ [AV.ptr l 0]) ++ X.gv, (gx0 ++ [.pointer (some ⟨B, 0, none⟩)]) ++ X.gx⟩ r.sz (some l) r.assign ⟨e, h, []⟩ (AfterA ⟨X.c, X.w0, X.F0, X.opn, X.g, none, [], (held L m rd ++ [AV.ptr l 0]) ++ X.gv, (gx0 ++ [.pointer (some ⟨B, 0, none⟩)]) ++ X.gx⟩ r.sz l r.body (AfterB X sz rd all rest k L d l m Q)) := hA
  refine htA (some B) ρ w _ _ ⟨B, N, hB, rfl⟩ (p.more b3) (by rw [hz]; exact her) ⟨[], rfl, rfl⟩ fun x s' a1 w1 ρ1 ⟨hx, r1, hg1, hst, hrunB⟩ g1 g2 g3 g4 => ?_
  subst hx
  obtain ⟨B1, N1, hB1, hB1'⟩ := g1
  cases hB1'
  obtain ⟨fn1, tm1, D1, M1, q1, q2, q3⟩ := ALoop.get g2.hr hB1 hg1
  have g5 := Good.putBlock g2.hr g2.wf hB1 (.loop r1) (.loop { r1 with state := .busy })
    (.loop { state := .busy, pending := pendOf r1.pending, fn := fn1, tmps := tm1, params := r1.params.toArray, assign := r1.assign, body := r1.body, defers := D1 }) hg1 rfl (by simp) rfl
    (by simp only [ABR]; exact ⟨fn1, tm1, D1, M1, World.putObj_heap_same (g2.hr.lt l _ N1 hB1), q2, q3⟩)
  have g6 := g2.good g5 (ArrKeep.put rfl)
  refine ⟨_, run_beginRound q1 hst, ?_⟩
  have htB : Tri ⟨X.c, X.w0, X.F0, X.opn, X.g, none, [], (held L m rd ++ [AV.ptr l 0]) ++ X.gv, (gx0 ++ [.pointer (some ⟨B, 0, none⟩)]) ++ X.gx⟩ r.sz (some l) r.body ⟨s'.e, s'.h.put l (.loop { r1 with state := .busy }), s'.m⟩ (AfterB X sz rd all rest k L d l m Q) := hrunB
  refine htB (some B) ρ1 _ a1 _ ⟨B, N1, hB1, rfl⟩ g6 g3 g4 fun x s2 a2 w2 ρ2 ⟨r2, hg2, hK⟩ k1 k2 k3 k4 => ?_
  obtain ⟨B2, N2, hB2, hB2'⟩ := k1
  cases hB2'
  obtain ⟨fn2, tm2, D2, M2, t1, t2, t3⟩ := ALoop.get k2.hr hB2 hg2
  have hlt := k2.hr.lt l _ N2 hB2
  have g7 := fun (st : LoopState) (pd : Option Ex) => Good.putBlock k2.hr k2.wf hB2 (.loop r2) (.loop { r2 with state := st, pending := pd })
    (.loop { state := st, pending := pendOf pd, fn := fn2, tmps := tm2, params := r2.params.toArray, assign := r2.assign, body := r2.body, defers := D2 }) hg2 rfl (by simp) rfl
    (by simp only [ABR]; exact ⟨fn2, tm2, D2, M2, World.putObj_heap_same hlt, t2, t3⟩)
  have fin := fun (st : LoopState) (pd : Option Ex) (b : Bool) (hops : Ops X sz rd all rest k ((d, .bool b) :: L) (s2.h.put l (.loop { r2 with state := st, pending := pd })) m Q) => show next (a.put o.dst (.bool b)) (w2.putObj B (.loop { state := st, pending := pendOf pd, fn := fn2, tmps := tm2, params := r2.params.toArray, assign := r2.assign, body := r2.body, defers := D2 })) from by
    have k5 := k2.good (g7 st pd) (ArrKeep.put rfl)
    obtain ⟨k6, k7⟩ := k5.less b3.length
    obtain ⟨v1, v2⟩ := VRs.split b1.length k7
    obtain ⟨u1, u2, u3⟩ := b2 ρ2 v1
    obtain ⟨e', he', er'⟩ := known_env (σ := ρ2) (L := L) (tm := a.tmps) (sz := sz) h3.1 u3
    exact h5 (.bool b) ⟨e', _, m⟩ (.bool b) _ ρ2 ⟨e'.set und d (.bool b), by rw [hd]; exact setD_some hs, hops.run _ (he'.set d _)⟩ u1 k6 er' u2 (by simp only [VR])
  cases x with
  | normal => exact ⟨_, _, run_endRound none t1, fin .ready none true hK⟩
  | exit id => exact ⟨_, _, run_endRound (some (.exit id)) t1, fin .done (some (.exit id)) false hK⟩
  | ret => exact ⟨_, _, run_endRound (some .ret) t1, fin .done (some .ret) false hK⟩⟩
end
end Go.Px
end
/- PxTl -/
section
set_option linter.unusedVariables false
set_option linter.unusedSimpArgs false
namespace Go.Px

/-- one slot's value, said more weakly -/
theorem Chg.weak {X : Cx} {sz : Nat} {rd : Option Nat} {L : List (Nat × AV)} {h : Heap} {m : List Nat} (t : Nat) {u v : AV} (hl : lkO L t = some u) (H : ∀ ρ x, VR ρ u x → VR ρ v x) : Chg X sz rd L h ((t, v) :: L) h m := fun ro ρ w e a h1 p h3 he h4 =>
  ⟨ρ, e.set und t v, h1, p, ⟨h3.1, fun s => by
    rw [get_set]
    by_cases hst : s = t
    · subst hst
      rw [if_pos rfl]
      have := h3.2 s
      rw [he s _ hl] at this
      exact H ρ _ this
    · rw [if_neg hst]; exact h3.2 s⟩, he.set t v, h4⟩
theorem weak_nil (z : Nat) : ∀ ρ x, VR ρ .nilsl x → VR ρ (.rsl 0 z []) x := fun ρ x q => by
  simp only [VR] at q
  subst q
  simp [VR]
theorem weak_csl (id off z : Nat) : ∀ ρ x, VR ρ (.sl id off 0 (some 0) z) x → VR ρ .csl x := fun ρ x q => by
  simp only [VR] at q ⊢
  obtain ⟨B, N, C, _, rfl, _, h, _⟩ := q
  rw [h 0 rfl]
  exact .inr ⟨_, rfl⟩
theorem weak_csl0 (z : Nat) : ∀ ρ x, VR ρ .csl x → VR ρ (.rsl 0 z []) x := fun ρ x q => by
  simp only [VR] at q
  rcases q with rfl | ⟨a, rfl⟩ <;> simp [VR]

section
variable {X : Cx} {tb : List (Nat × TE)} (E : Env X.c tb) {sz : Nat} {rd : Option Nat} {all : Array Oper} {o : Oper} {rest : List Oper} {k : List It} {L : List (Nat × AV)} {h : Heap} {m : List Nat} {Q : Post}
include E
/-- new data, that nobody writes from now on; by an operation that would do the same with an empty memory -/
theorem Ops.dataB {d len z : Nat} {cap : Option Nat} {cs : List AV} {ty : TypeId} (hd : o.dst = some d) (hs : Nat.ble (d + 1) sz = true) (hw : Want all L o true) (hop : Hop X L (bare h.nxt) o (.sl h.nxt 0 len cap z) (newRow (bare h.nxt) ty cs.length .leaf cs)) (hlen : cs.length = len * z) (hdt : datsB cs = true)
    (nx : Ops X sz rd all rest k ((d, .rsl len z cs) :: L) h m Q) : Ops X sz rd all (o :: rest) k L h m Q := ⟨fun e0 he => by
  refine TriOps.cons (hw e0 he) (K := fun s' => RunK X sz rd k Q .normal s') ?_
  intro ro ρ w a next Q' h1 p h3 h4 h5
  refine ⟨fun _ _ => trivial, ?_⟩
  have hopA : opA X.c e0 (bare h.nxt) o.op = some (.v (.sl h.nxt 0 len cap z) ((bare h.nxt).new (.row ⟨ty, cs.length, .leaf, cs, none⟩))) := hop e0 he
  rw [show (wideR ro).round = ro from rfl, Oper.semAt_eq ro a.eval o (opA_defer hopA)]
  have hbr : HR ρ (bare h.nxt) w := bare_hr h.nxt p.hr.lt p.hr.fz
  obtain ⟨nx', w', ρ1, q1, q2, q3⟩ := opA_ok E.k hbr (bare_wf _) (fun i a b => p.fr.1 i a) h3 hopA
  have hblk : ∀ B, B < w.heap.size → w'.heap[B]? = w.heap[B]? := fun B hB => q2.frame B hB (fun i N _ => bare_no _ i)
  have hFo : ∀ B, B < w.heap.size → ρ1.F B = ρ.F B := fun B hB => q2.fold B hB (fun i N _ => bare_no _ i)
  have hgetn : ((bare h.nxt).new (.row ⟨ty, cs.length, .leaf, cs, none⟩)).get h.nxt = .row ⟨ty, cs.length, .leaf, cs, none⟩ := by
    have := Heap.get_new (bare h.nxt) h.nxt (.row ⟨ty, cs.length, .leaf, cs, none⟩)
    rw [this]; exact if_pos rfl
  have hokn : ((bare h.nxt).new (.row ⟨ty, cs.length, .leaf, cs, none⟩)).ok h.nxt := by
    unfold Heap.ok; rw [hgetn]; simp only []; rw [Heap.row_of hgetn]; rfl
  -- its value
  rcases q3 with ⟨S, rfl, q3⟩ | ⟨_, q3⟩
  · simp only [VR] at q3
    obtain ⟨B, N, C, e1, rfl, hC, _, _⟩ := q3
    have hro := q2.hr.ok h.nxt B N e1 hokn
    rw [hgetn] at hro
    have hro : RowOk ρ1 ⟨ty, cs.length, .leaf, cs, none⟩ B N w' := hro
    obtain ⟨L0, l1, l2, l3⟩ := RowOk.reads hro cs.length 0 (by simp)
    rw [read_whole ty cs cs.length rfl] at l1
    have hFB : ρ1.F B = [] := q2.hr.F_row e1 hokn (fun r => by rw [hgetn]; exact fun q => by cases q)
    have hBge : w.heap.size ≤ B := by
      rcases q2.newb h.nxt B N e1 (p.fr.1 _ (Nat.le_refl _)) with r | ⟨j, M, _, r⟩
      · exact r
      · exact absurd r (bare_no _ j)
    have g1 : ∀ b, b ≠ B → (fun b => if b = B then L0 else ρ1.F b) b = ρ1.F b := fun b q => if_neg q
    have g2 : (fun b => if b = B then L0 else ρ1.F b) B = L0 := if_pos rfl
    have f1 : ∀ (b j : Nat) (x : Value), (ρ1.F b)[j]? = some x → ((fun b => if b = B then L0 else ρ1.F b) b)[j]? = some x := fun b j x q => by
      by_cases hb : b = B
      · subst hb; rw [hFB] at q; simp at q
      · rw [g1 b hb]; exact q
    have f0 : ∀ (b j : Nat) (x : Value), (ρ.F b)[j]? = some x → ((fun b => if b = B then L0 else ρ1.F b) b)[j]? = some x := fun b j x q => f1 b j x (q2.sub.F b j x q)
    have f3 : FzW (fun b => if b = B then L0 else ρ1.F b) w' := fun b j x q => by
      by_cases hb : b = B
      · subst hb; rw [g2] at q
        have := l3 j x q; rwa [Nat.zero_add] at this
      · rw [g1 b hb] at q; exact q2.hr.fz b j x q
    have hsub : Sub ρ ⟨ρ.m, fun b => if b = B then L0 else ρ1.F b, ρ.V⟩ := ⟨fun _ _ e => e, f0, fun _ _ _ e => e⟩
    have hpi := p.frz ⟨q2.same, hblk⟩ f0 (fun b hb => (g1 b (by omega)).trans (hFo b hb)) f3
    rw [q1]
    refine h5 (.rsl len z cs) ⟨e0, h, m⟩ _ w' _ ⟨e0.set und d (.rsl len z cs), by rw [hd]; exact setD_some hs, nx.run _ (he.set d _)⟩ (h1.mono hsub) hpi (h3.mono hsub) (h4.mono hsub) ?_
    simp only [VR]
    refine ⟨hlen, .inr ⟨B, 0, C, L0, rfl, hC, ?_, fun j x q => ?_⟩⟩
    · exact VRs.mono (ρ := ρ1.d) (σ := (⟨ρ.m, fun b => if b = B then L0 else ρ1.F b, ρ.V⟩ : Map).d) ⟨(fun _ _ e => by cases e), f1, (fun _ _ _ e => by cases e)⟩ cs (dats_ok cs hdt l1)
    · show ((fun b => if b = B then L0 else ρ1.F b) B)[0 + j]? = some x
      rw [g2, Nat.zero_add]; exact q
  · simp only [VR] at q3
    obtain ⟨B, N, C, e1, e2, _⟩ := q3
    cases e2⟩

omit E in
theorem dats_flat {α : Type} {enc : α → List AV} (he : ∀ a, datsB (enc a) = true) : ∀ l : List α, datsB (l.flatMap enc) = true
  | [] => rfl
  | a :: l => by
    have happ : ∀ x y : List AV, datsB x = true → datsB y = true → datsB (x ++ y) = true := by
      intro x y hx hy
      induction x with
      | nil => exact hy
      | cons v x ih =>
        have hx' : (match datB v with | true => datsB x | false => false) = true := hx
        show (match datB v with | true => datsB (x ++ y) | false => false) = true
        split at hx'
        · exact ih hx'
        · cases hx'
    rw [List.flatMap_cons]
    exact happ _ _ (he a) (dats_flat he l)
/-- a text's bytes -/
def encU (c : UInt8) : List AV := [.int .u8 (c.toNat : Int)]
omit E in
theorem encU_map : ∀ b : List UInt8, ((b.map UInt8.toNat).map fun n => AV.int .u8 (.ofNat (n % 256))) = b.flatMap encU
  | [] => rfl
  | c :: b => by
    have h : c.toNat % 256 = c.toNat := Nat.mod_eq_of_lt c.toNat_lt
    rw [List.flatMap_cons, ← encU_map b]
    simp only [List.map_cons, encU, h]
    rfl
omit E in
theorem TOk.it {c : Ctx} {t : Nat} {e : TE} {kk : IntKind} (h : TOk c t e) (k : e.k = .int kk) : c.under t = some (.int kk) := by
  obtain ⟨d, h1, h2⟩ := h.kd
  rw [k] at h2
  cases d <;> simp only [tkOf] at h2 <;> first | (cases h2; done) | (cases h2; exact h1)
theorem Ops.bytes {d s t el : Nat} {x : Operand} {b : List UInt8} {es e ee : TE} (hd : o.dst = some d) (hs : Nat.ble (d + 1) sz = true) (hw : Want all L o true) (ho : o.op = .convert s t x) (hx : evL L x = some (sA b)) (hst : lkT tb s = some es) (hks : es.k = .str) (ht : lkT tb t = some e) (hk : e.k = .slice el) (hel : lkT tb el = some ee) (hkel : ee.k = .int .u8)
    (nx : Ops X sz rd all rest k ((d, dsl 1 encU b) :: L) h m Q) : Ops X sz rd all (o :: rest) k L h m Q :=
  Ops.dataB E hd hs hw (len := b.length) (z := 1) (cap := none) (cs := b.flatMap encU) (ty := el) (fun e' he => by
    have h1 := (E.t s es hst).st hks
    have h2 := (E.t t e ht).sl hk
    have h3 := (E.t el ee hel).it hkel
    rw [ho]; simp only [opA]; rw [he.ev hx]
    simp only [sA, oConvert, h1, h2, h3, valH]
    rw [encU_map, flat_len (z := 1) (fun _ => rfl), List.length_map, Nat.mul_one]
    rfl) (flat_len (z := 1) (enc := encU) (fun _ => rfl) b) (dats_flat (fun _ => rfl) b) nx
/-- data appended to nothing: a copy of one's own, that nobody writes -/
theorem Ops.clone {d : Nat} {cl : Call} {x y : Operand} {t t1 el q z : Nat} {xv : AV} {cs : List AV} {e e1 ee : TE} (hd : o.dst = some d) (hs : Nat.ble (d + 1) sz = true) (hw : Want all L o true) (ho : o.op = .call cl) (hc : cl.callee = .builtin .append) (ha : cl.args.toList = [x, y])
    (hts0 : nth1 cl.argTypes.toList 0 = some t) (hts1 : nth1 cl.argTypes.toList 1 = some t1) (hx : evL L x = some xv) (hxv : (match xv with | .csl => true | .nilsl => true | _ => false) = true) (hy : evL L y = some (.rsl q z cs)) (ht : lkT tb t = some e) (hk : e.k = .slice el) (hel : lkT tb el = some ee) (hz : Nat.beq ee.s z = true) (hz0 : Nat.beq z 0 = false) (hb : Nat.ble ee.b 1000 = true)
    (ht1 : lkT tb t1 = some e1) (hk1 : (match e1.k with | .slice _ => true | .str => true | _ => false) = true) (hzz : (match ee.z with | .bad => false | v => Nat.beq v.cells.length ee.s) = true) (hdt : datsB cs = true) (hlen : cs.length = q * z) (hq : q ≠ 0) (hsm : q ≤ 1000000)
    (nx : Ops X sz rd all rest k ((d, .rsl q z cs) :: L) h m Q) : Ops X sz rd all (o :: rest) k L h m Q :=
  Ops.dataB E hd hs hw (len := q) (z := z) (cap := none) (cs := cs) (ty := el) (fun e' he => by
    have hz := beqT hz
    obtain ⟨ie, i1, i2, i3⟩ := (E.t el ee hel).si
    have hnb : ee.z ≠ .bad := fun q => by rw [q] at hzz; cases hzz
    have hzl : ee.z.cells.length = ee.s := by
      cases hv : ee.z <;> rw [hv] at hzz <;> first | (cases hzz; done) | exact beqT hzz
    have hzc : X.c.zcells el = some ee.z.cells := by
      unfold Ctx.zcells
      rw [(E.t el ee hel).z]
      cases hv : ee.z <;> first | exact absurd hv hnb | rfl
    have hu := (E.t t e ht).sl hk
    obtain ⟨d1, u1, u2⟩ := (E.t t1 e1 ht1).kd
    have hu1 := u1
    have hni : ∀ kk, d1 ≠ .int kk := fun kk qq => by
      subst qq
      rw [← u2] at hk1
      cases hk1
    rw [nth1_eq] at hts0 hts1
    obtain ⟨q', rfl⟩ : ∃ q', q = q' + 1 := ⟨q - 1, by omega⟩
    have happ : oAppend X.c (bare h.nxt) t xv (.rsl (q' + 1) z cs) = some (.sl h.nxt 0 (q' + 1) none z, newRow (bare h.nxt) el cs.length .leaf cs) := by
      have hbz : Nat.beq ie.size ee.z.cells.length = true := by rw [i2, hzl]; exact Nat.beq_refl _
      have hb0 : Nat.beq ie.size 0 = false := by rw [i2, hz]; exact hz0
      have hbb : Nat.ble ie.bytes 1000 = true := by rw [i3]; exact hb
      have hcz : Nat.beq ie.size z = true := by rw [i2, hz]; exact Nat.beq_refl _
      have hsc : srcCells (bare h.nxt) (.rsl (q' + 1) z cs) ie.size = some cs := by
        unfold srcCells
        simp only [hcz]
      have hgn : growNew (bare h.nxt) el ie.size (q' + 1) cs = some (.sl h.nxt 0 (q' + 1) none z, newRow (bare h.nxt) el cs.length .leaf cs) := by
        unfold growNew
        rw [Nat.ble_eq_true_of_le hsm]
        simp only []
        rw [i2, hz, hlen]
        rfl
      unfold oAppend
      simp only [hu, i1, hzc, hbz, hb0, hbb, srcLen, hsc]
      unfold appCells
      cases xv <;> first | (cases hxv; done) | exact hgn
    rw [ho]; simp only [opA, oCall, hc]
    rw [ha]
    simp only [List.map_cons, List.map_nil, he.ev hx, he.ev hy, oBuiltin, nth_eq, hts0, hts1, hu1]
    cases d1 <;> first | exact absurd rfl (hni _) | (simp only [happ])) hlen hdt nx
end

/-- TWO TEXTS COMPARED, by what stands below the program. -/
theorem KOk.cmp {c : Ctx} {f : FuncId} {fn : Func} (hf : c.P.funcs[f]? = some fn) (h1 : (fn.name == "runtime.NumGoroutine") = false) (hb : fn.body.isNone = true) (hn : Extern.findNext fn = none) (he : Extern.find fn = some Extern.BytealgCompare.compare) (a b : List UInt8) : KOk c f [sA a, sA b] (.int .i64 (Lib.compareBytes a b)) := fun F w A hF hA => by
  simp only [sA, VRs, VR] at hA
  obtain ⟨_, _, rfl, ⟨_, _, rfl, rfl, rfl⟩, rfl⟩ := hA
  have hbs : ∀ l : List UInt8, (bs (l.map UInt8.toNat)).data.toList = l := fun l => by
    simp only [bs]
    rw [List.map_map]
    have : (UInt8.ofNat ∘ UInt8.toNat) = id := by funext x; simp
    rw [this, List.map_id]
  refine ⟨_, w, by rw [run_callFunc_extern hf h1 hb hn he, Lib.run_compareString, hbs, hbs]; rfl, ?_⟩
  exact ⟨ExtW.refl w, F, fun _ _ _ e => e, fun _ _ => rfl, hF, by simp only [VR]⟩
end Go.Px
end
/- PxTm -/
section
set_option linter.unusedVariables false
set_option linter.unusedSimpArgs false
namespace Go.Px

/-- the same memory -/
theorem PI.same {X : Cx} {ρ : Map} {h h' : Heap} {w : World} (p : PI X ρ h w) (hg : ∀ i, h'.get i = h.get i) (hn : h'.nxt = h.nxt) (ht : ∀ q, h'.tip q = h.tip q) : PI X ρ h' w := by
  have ho : ∀ j, h'.ok j ↔ h.ok j := fun j => Heap.ok_same (hg j) (fun _ q _ _ => by rw [ht q])
  refine ⟨⟨p.hr.lt, fun i B N e q => by rw [hg i]; exact p.hr.ok i B N e ((ho i).1 q), fun i j B N M hij e1 e2 k1 k2 => ?_, fun i r q => p.hr.gl i r (by rw [← hg i]; exact q), p.hr.fz, fun i B N e q => by rw [hg i]; exact p.hr.sep i B N e ((ho i).1 q), fun i t z n l q => p.hr.av i t z n l (by rw [← hg i]; exact q)⟩,
    ⟨fun i hi => by rw [hg i]; exact p.wf.fresh i (by omega), fun i r q a b => by rw [hn]; exact p.wf.root i r q (by rw [← hg i]; exact a) b, fun i r q t a b c => by rw [hg t]; exact p.wf.tip i r q t (by rw [← hg i]; exact a) b (by rw [← ht q]; exact c), fun q hq => by rw [ht q]; exact p.wf.tipr q (by omega)⟩,
    ⟨fun i hi => p.fr.1 i (by omega), fun i r q => by rw [hg i]; exact p.fr.2 i r q⟩, fun i hi n => p.vf i (by omega) n, fun i t z n l q => p.vu i t z n l (by rw [← hg i]; exact q), p.ext, p.mine, p.sub, p.old, p.keep, p.gh.go (fun t z n l q => ⟨_, _, _, by rw [← hg 0]; exact q⟩) (Same.refl w) (fun _ _ _ => rfl) (fun i B N e q => .inr ⟨i, N, e, (ho i).1 q⟩) (fun _ _ _ => rfl) (fun B N e => .inl ⟨N, e⟩) (fun _ _ => rfl) (fun _ _ _ e => e)⟩
  obtain ⟨r, s, q, a, b, c⟩ := p.hr.inj i j B N M hij e1 e2 ((ho i).1 k1) ((ho j).1 k2)
  exact ⟨r, s, q, by rw [hg i]; exact a, by rw [hg j]; exact b, c⟩

section
variable {X : Cx} {tb : List (Nat × TE)} (E : Env X.c tb) {sz : Nat} {rd : Option Nat} {all : Array Oper} {o : Oper} {rest : List Oper} {k : List It} {L : List (Nat × AV)} {h : Heap} {m : List Nat} {Q : Post}
include E
/-- NOTHING APPENDED to an array of one's own -/
theorem Ops.append0 {d : Nat} {cl : Call} {x y : Operand} {t t1 el id n z q : Nat} {l cs : List AV} {e e1 ee : TE} (hd : o.dst = some d) (hs : Nat.ble (d + 1) sz = true) (hw : Want all L o true) (ho : o.op = .call cl) (hc : cl.callee = .builtin .append) (ha : cl.args.toList = [x, y])
    (hts0 : nth1 cl.argTypes.toList 0 = some t) (hts1 : nth1 cl.argTypes.toList 1 = some t1) (hx : evL L x = some (.own id n z)) (hy : evL L y = some (.rsl q z cs)) (ht : lkT tb t = some e) (hk : e.k = .slice el) (hel : lkT tb el = some ee) (hz : Nat.beq ee.s z = true) 
    (ht1 : lkT tb t1 = some e1) (hk1 : (match e1.k with | .slice _ => true | .str => true | _ => false) = true) (hg : h.get id = .arr el z n l)
    (hq : q = 0) (nx : Ops X sz rd all rest k ((d, .own id (n + q) z) :: L) (h.put id (.arr el z (n + q) (l ++ cs))) m Q) : Ops X sz rd all (o :: rest) k L h m Q := ⟨fun e0 he => by
  refine TriOps.cons (hw e0 he) (K := fun s' => RunK X sz rd k Q .normal s') ?_
  intro ro ρ w a next Q' h1 p h3 h4 h5
  refine ⟨fun _ _ => trivial, ?_⟩
  rw [show (wideR ro).round = ro from rfl, Oper.semAt_eq ro a.eval o (by rw [ho]; intro d q; cases q)]
  have hz := beqT hz
  have hS : VR ρ (.own id n z) (a.eval x) := by rw [← he.ev hx]; exact ev_ok h3 x
  have hY : VR ρ (.rsl q z cs) (a.eval y) := by rw [← he.ev hy]; exact ev_ok h3 y
  subst hq
  have hcs : cs = [] := by
    simp only [VR] at hY
    exact List.length_eq_zero_iff.1 (by rw [hY.1]; omega)
  subst hcs
  obtain ⟨ie, i1, i2, i3⟩ := (E.t el ee hel).si
  have hsz : ie.size = z := i2.trans hz
  obtain ⟨s1, news, s2, s3, s4⟩ := src_ok (P := X.c.P) (h := h) (z := z) (m := 0) (cs := []) p.hr hY rfl (by simp [srcCells])
  have hnn : news = [] := List.length_eq_zero_iff.1 (by rw [s3]; omega)
  subst hnn
  have hu := under_eq E.k ((E.t t e ht).sl hk)
  obtain ⟨d1, u1, u2⟩ := (E.t t1 e1 ht1).kd
  have hu1 := under_eq E.k u1
  have hni : ∀ kk, d1 ≠ .int kk := fun kk qq => by
    subst qq
    rw [← u2] at hk1
    cases hk1
  rw [nth1_eq] at hts0 hts1
  have hS' := hS
  simp only [VR] at hS'
  have key : (Builtin.append_ cl.argTypes o.type #[a.eval x, a.eval y]).run X.c.P w = .ok (a.eval x) w := by
    have hf : (Builtin.firstCells ie.size 0 (a.eval y)).run X.c.P w = .ok ([] : List Value).toArray w := by
      have := s4 w rfl 0 (Nat.le_refl _)
      rw [hsz]; simpa using this
    obtain ⟨hv, ⟨hn0, he0⟩ | ⟨B, C, he0, hC⟩⟩ := hS'
    · rw [he0]
      have := append_room (P := X.c.P) w cl.argTypes o.type t t1 el d1 ie (by simpa using hts0) (by simpa using hts1) hu1 hni hu (E.k.tys _ _ i1) none 0 0 0 (a.eval y) [] [] (s1 w) hf (Nat.le_refl _) (w' := w) rfl
      simpa using this
    · rw [he0]
      have := append_room (P := X.c.P) w cl.argTypes o.type t t1 el d1 ie (by simpa using hts0) (by simpa using hts1) hu1 hni hu (E.k.tys _ _ i1) (some ⟨B, 0, none⟩) n C 0 (a.eval y) [] [] (s1 w) hf (by omega) (w' := w) (by simp [storeCells])
      simpa using this
  have hrun : (execOp a.eval o).run X.c.P w = .ok (.value (a.eval x)) w := by
    obtain ⟨CS, hCS⟩ : ∃ CS, (execOp a.eval o).run X.c.P w = (builtin .append cl.argTypes o.type CS (cl.args.map a.eval)).run X.c.P w :=
      ⟨_, by simp only [execOp, ho, resolve, hc, Sem.run_bind, Sem.run_pure, Result.andThen_ok, invoke]; rfl⟩
    have hargs : cl.args.map a.eval = #[a.eval x, a.eval y] := by apply Array.ext'; simp [ha]
    rw [hCS, hargs]
    simp [builtin, key]
  rw [hrun]
  rw [List.append_nil, Nat.add_zero] at nx
  have hpi : PI X ρ (h.put id (.arr el z n l)) w := p.same (fun i => by
    rw [Heap.get_put]
    by_cases hi : i = id
    · subst hi; rw [if_pos rfl, hg]
    · rw [if_neg hi]) rfl (fun q => rfl)
  exact h5 (.own id n z) ⟨e0, h.put id (.arr el z n l), m⟩ (a.eval x) w ρ ⟨e0.set und d (.own id n z), by rw [hd]; exact setD_some hs, nx.run _ (he.set d _)⟩ h1 hpi h3 h4 hS⟩

/-- APPENDED, be it nothing -/
theorem Ops.appendE {d : Nat} {cl : Call} {x y : Operand} {t t1 el id n z q : Nat} {l cs : List AV} {e e1 ee : TE} (hd : o.dst = some d) (hs : Nat.ble (d + 1) sz = true) (hw : Want all L o true) (ho : o.op = .call cl) (hc : cl.callee = .builtin .append) (ha : cl.args.toList = [x, y])
    (hts0 : nth1 cl.argTypes.toList 0 = some t) (hts1 : nth1 cl.argTypes.toList 1 = some t1) (hx : evL L x = some (.own id n z)) (hy : evL L y = some (.rsl q z cs)) (ht : lkT tb t = some e) (hk : e.k = .slice el) (hel : lkT tb el = some ee) (hz : Nat.beq ee.s z = true) (hz0 : Nat.beq z 0 = false) (hb : Nat.ble ee.b 1000 = true)
    (ht1 : lkT tb t1 = some e1) (hk1 : (match e1.k with | .slice _ => true | .str => true | _ => false) = true) (hg : h.get id = .arr el z n l) (hi : HInd id h) (hL : indL id L = true) (hm : (m.all fun i => !Nat.beq i id) = true) (hrd : rdNot id rd = true) (hG : indsB id X.gv = true)
    (hzz : (match ee.z with | .bad => false | v => Nat.beq v.cells.length ee.s) = true) (hones : ones cs = true) (hsm : n + q ≤ 1000000) (nx : Ops X sz rd all rest k ((d, .own id (n + q) z) :: L) (h.put id (.arr el z (n + q) (l ++ cs))) m Q) : Ops X sz rd all (o :: rest) k L h m Q := by
  by_cases hq : q = 0
  · exact Ops.append0 E hd hs hw ho hc ha hts0 hts1 hx hy ht hk hel hz ht1 hk1 hg hq nx
  · exact Ops.append E hd hs hw ho hc ha hts0 hts1 hx hy ht hk hel hz hz0 hb ht1 hk1 hg hi hL hm hrd hG hzz hones hq hsm nx
end

/-- no slot but t holds it -/
def indLx (k t : Nat) : List (Nat × AV) → Bool
  | [] => true
  | (s, v) :: r => (match (match Nat.beq s t with | true => true | false => indB k v) with | true => indLx k t r | false => false)
theorem indLx_at {k t : Nat} : ∀ {L : List (Nat × AV)}, indLx k t L = true → ∀ s v, s ≠ t → lkO L s = some v → indB k v = true
  | (s', u) :: r, h, s, v, hs, q => by
    have h' : (match (match Nat.beq s' t with | true => true | false => indB k u) with | true => indLx k t r | false => false) = true := h
    split at h'
    · rename_i h1
      unfold lkO at q
      split at q
      · rename_i h2
        cases q
        have h2 := beqT h2
        subst h2
        rw [beqF hs] at h1
        exact h1
      · exact indLx_at h' s v hs q
    · cases h'
/-- A NEW ROW, that nobody writes from now on -/
theorem Chg.frzR {X : Cx} {sz : Nat} {rd : Option Nat} {L : List (Nat × AV)} {h : Heap} {m : List Nat} (t : Nat) {id n z : Nat} {cap : Option Nat} {ty : TypeId} {cs : List AV} (hl : lkO L t = some (.sl id 0 n cap z)) (hg0 : h.get id = .row ⟨ty, cs.length, .leaf, cs, none⟩) (hlen : cs.length = n * z) (hdt : datsB cs = true) (hi : HInd id h) (hL : indLx id t L = true)
    (hm : (m.all fun i => !Nat.beq i id) = true) (hrd : rdNot id rd = true) (hG : indsB id X.gv = true := by rfl) : Chg X sz rd L h ((t, .rsl n z cs) :: L) (h.put id .none) m := fun ro ρ w e a h1 p h3 he h4 => by
  have hok0 : h.ok id := by unfold Heap.ok; rw [hg0]; simp only []; rw [Heap.row_of hg0]; rfl
  have key : ∃ (F : Nat → List Value), (∀ (b j : Nat) (x : Value), (ρ.F b)[j]? = some x → (F b)[j]? = some x) ∧ (∀ b, (∀ M, ρ id ≠ some (b, M)) → F b = ρ.F b) ∧ FzW F w ∧ ∀ S, VR ρ (.sl id 0 n cap z) S → VR ⟨fun _ => none, F, fun _ _ => none⟩ (.rsl n z cs) S := by
    have hv := h3.2 t
    rw [he t _ hl] at hv
    simp only [VR] at hv
    obtain ⟨B, N, C, e1, e2, e3, _, _⟩ := hv
    have hro := p.hr.ok id B N e1 hok0
    rw [hg0] at hro
    have hro : RowOk ρ ⟨ty, cs.length, .leaf, cs, none⟩ B N w := hro
    obtain ⟨L0, l1, l2, l3⟩ := RowOk.reads hro cs.length 0 (by simp)
    rw [read_whole ty cs cs.length rfl] at l1
    have hFB : ρ.F B = [] := p.hr.F_row e1 hok0 (fun r => by rw [hg0]; exact fun q => by cases q)
    have g1 : ∀ b, b ≠ B → (fun b => if b = B then L0 else ρ.F b) b = ρ.F b := fun b q => if_neg q
    have g2 : (fun b => if b = B then L0 else ρ.F b) B = L0 := if_pos rfl
    have f1 : ∀ (b j : Nat) (x : Value), (ρ.F b)[j]? = some x → ((fun b => if b = B then L0 else ρ.F b) b)[j]? = some x := fun b j x q => by
      by_cases hb : b = B
      · subst hb; rw [hFB] at q; simp at q
      · rw [g1 b hb]; exact q
    refine ⟨fun b => if b = B then L0 else ρ.F b, f1, fun b q => g1 b (fun e => q N (e ▸ e1)), fun b j x q => ?_, fun S hS => ?_⟩
    · by_cases hb : b = B
      · subst hb; rw [g2] at q
        have := l3 j x q; rwa [Nat.zero_add] at this
      · rw [g1 b hb] at q; exact p.hr.fz b j x q
    · simp only [VR] at hS
      obtain ⟨B', N', C', e1', rfl, hC', _, _⟩ := hS
      rw [e1] at e1'
      cases e1'
      simp only [VR]
      refine ⟨hlen, .inr ⟨B, 0, C', L0, rfl, hC', ?_, fun j x q => ?_⟩⟩
      · exact VRs.mono (ρ := ρ.d) (σ := (⟨fun _ => none, fun b => if b = B then L0 else ρ.F b, fun _ _ => none⟩ : Map).d) ⟨(fun _ _ e => by cases e), f1, (fun _ _ _ e => by cases e)⟩ cs (dats_ok cs hdt l1)
      · show ((fun b => if b = B then L0 else ρ.F b) B)[0 + j]? = some x
        rw [g2, Nat.zero_add]; exact q
  obtain ⟨F, f1, f2, f3, f4⟩ := key
  let ρ' : Map := ⟨fun i => if i = id then none else ρ i, F, ρ.V⟩
  have m1 : ρ' id = none := if_pos rfl
  have m2 : ∀ i, i ≠ id → ρ' i = ρ i := fun i q => if_neg q
  have sx : SubX id ρ ρ' := ⟨fun i p' q e => by rw [m2 i q]; exact e, f1, fun _ _ _ e => e⟩
  have hg : ∀ j, j ≠ id → (h.put id .none).get j = h.get j := fun j q => by rw [Heap.get_put, if_neg q]
  have hn : (h.put id .none).get id = .none := by rw [Heap.get_put, if_pos rfl]
  have ho : ∀ j, j ≠ id → ((h.put id .none).ok j ↔ h.ok j) := fun j q => Heap.ok_same (hg j q) (fun _ _ _ _ => rfl)
  have hne : ∀ i B N, ρ' i = some (B, N) → i ≠ id ∧ ρ i = some (B, N) := fun i B N e => by
    by_cases q : i = id
    · subst q; rw [m1] at e; cases e
    · rw [m2 i q] at e; exact ⟨q, e⟩
  have hpi : PI X ρ' (h.put id .none) w := by
    refine ⟨⟨fun i B N e => p.hr.lt i B N (hne i B N e).2, fun i B N e q => ?_, fun i j B N M hij e1 e2 k1 k2 => ?_, fun i r q => ?_, f3, fun i B N e q => ?_, fun i t' z' n' l' q => ?_⟩, ⟨fun i hi' => ?_, fun i r q a b => ?_, fun i r q t' a b c => ?_, p.wf.tipr⟩, ⟨fun i hi => ?_, fun i r q => ?_⟩, p.vf, fun i t' z' n' l' q m' hm' => ?_, p.ext, fun i B N e => p.mine i B N (hne i B N e).2, fun b j x e => f1 b j x (p.sub b j x e), fun b hb => ?_, inds_ok sx _ hG p.keep, p.gh.go (fun t' z' n' l' q => ?_) (Same.refl w) (fun _ _ _ => rfl) (fun i B N e q => ?_) (fun b hb hno => f2 b fun M ee => hno id M ee hok0) (fun B N e => ?_) (fun _ _ => rfl) f1⟩
    · obtain ⟨hi', e'⟩ := hne i B N e
      rw [hg i hi']; exact (p.hr.ok i B N e' ((ho i hi').1 q)).ind sx (hi.at_ p.wf hi')
    · obtain ⟨hi', e1'⟩ := hne i B N e1
      obtain ⟨hj', e2'⟩ := hne j B M e2
      obtain ⟨r, s, q, a, b, c⟩ := p.hr.inj i j B N M hij e1' e2' ((ho i hi').1 k1) ((ho j hj').1 k2)
      exact ⟨r, s, q, by rw [hg i hi']; exact a, by rw [hg j hj']; exact b, c⟩
    · by_cases hi' : i = id
      · subst hi'; rw [hn] at q; cases q
      · rw [hg i hi'] at q
        obtain ⟨N, hN⟩ := p.hr.gl i r q
        exact ⟨N, by rw [m2 i hi']; exact hN⟩
    · obtain ⟨hi', e'⟩ := hne i B N e
      rw [hg i hi']
      have q' := (ho i hi').1 q
      show F B = [] ∨ _
      rw [f2 B (fun M ee => ?_)]
      · exact p.hr.sep i B N e' q'
      · obtain ⟨r, s, q'', x, y, z', _⟩ := p.hr.inj id i B M N (Ne.symm hi') ee e' hok0 q'
        rw [hg0] at x; cases x; cases z'
    · by_cases hi' : i = id
      · subst hi'; rw [hn] at q; cases q
      · rw [hg i hi'] at q
        obtain ⟨a1, ⟨a, b⟩ | ⟨a, B2, N2, C2, e1, e2⟩⟩ := p.hr.av i t' z' n' l' q
        · exact ⟨a1, .inl ⟨a, b⟩⟩
        · exact ⟨a1, .inr ⟨a, B2, N2, C2, by rw [m2 i hi']; exact e1, e2⟩⟩
    · have hi2 : h.nxt ≤ i := hi'
      by_cases hii : i = id
      · subst hii; exact hn
      · rw [hg i hii]; exact p.wf.fresh i hi2
    · by_cases hii : i = id
      · subst hii; rw [hn] at a; cases a
      · rw [hg i hii] at a; exact p.wf.root i r q a b
    · by_cases hii : i = id
      · subst hii; rw [hn] at a; cases a
      · rw [hg i hii] at a
        obtain ⟨s, x, y, z'⟩ := p.wf.tip i r q t' a b c
        exact ⟨s, by rw [hg t' (fun e => by subst e; rw [hg0] at x; cases x; cases y)]; exact x, y, z'⟩
    · by_cases hi' : i = id
      · subst hi'; exact m1
      · rw [m2 i hi']; exact p.fr.1 i hi
    · have := p.fr.2 i r q
      rw [hg i (fun k => by subst k; rw [hg0] at this; cases this)]; exact this
    · by_cases hi' : i = id
      · subst hi'; rw [hn] at q; cases q
      · rw [hg i hi'] at q; exact p.vu i t' z' n' l' q m' hm'
    · show F b = _
      rw [f2 b (fun M ee => p.mine id b M ee hb)]; exact p.old b hb
    · by_cases hi' : 0 = id
      · subst hi'; rw [hn] at q; cases q
      · rw [hg 0 hi'] at q; exact ⟨_, _, _, q⟩
    · obtain ⟨hi', e'⟩ := hne i B N e
      exact .inr ⟨i, N, e', (ho i hi').1 q⟩
    · by_cases hi' : 1 = id
      · subst hi'; exact .inr hok0
      · exact .inl ⟨N, by rw [m2 1 hi']; exact e⟩
  obtain ⟨e', he', er'⟩ := known_env (σ := ρ') (L := (t, .rsl n z cs) :: L) (tm := a.tmps) (sz := sz) h3.1 (fun s v q => by
    unfold lkO at q
    split at q
    · rename_i hs
      have hs := beqT hs
      cases q
      subst hs
      have := h3.2 s
      rw [he s _ hl] at this
      exact VR.mono (ρ := ⟨fun _ => none, F, fun _ _ => none⟩) ⟨(fun _ _ e => by cases e), fun _ _ _ e => e, (fun _ _ _ e => by cases e)⟩ _ (f4 _ this)
    · rename_i hs
      have := h3.2 s
      rw [he s _ q] at this
      exact ind_ok sx v (indLx_at hL s v (beqN hs) q) this)
  refine ⟨ρ', e', ?_, hpi, er', he', ?_⟩
  · cases rd with
    | none => exact h1
    | some r =>
      obtain ⟨B, N, q1, q2⟩ := h1
      exact ⟨B, N, by rw [m2 r (nb (show (!Nat.beq r id) = true from hrd))]; exact q1, q2⟩
  · have hmr : ∀ {m : List Nat} {D : List Deferred}, (m.all fun i => !Nat.beq i id) = true → MR ρ m D → MR ρ' m D := by
      intro m
      induction m with
      | nil => intro D _ q; exact q
      | cons d m ih =>
        intro D hh q
        simp only [List.all_cons, Bool.and_eq_true] at hh
        obtain ⟨B, N, r, q1, q2, q3⟩ := q
        exact ⟨B, N, r, by rw [m2 d (nb hh.1)]; exact q1, ih hh.2 q2, q3⟩
    obtain ⟨D1, h5, h6⟩ := h4
    exact ⟨D1, hmr hm h5, h6⟩

/-! ## places in one's own arrays -/
theorem flat_get {α : Type} {z : Nat} {enc : α → List AV} (he : ∀ a, (enc a).length = z) (d : α) {l : List α} {i f : Nat} (hi : i < l.length) (hf : f < z) : (l.flatMap enc)[i * z + f]? = (enc (l.getD i d))[f]? := by
  rw [← flat_at he d l i hi, List.getElem?_take, if_pos hf, List.getElem?_drop]
theorem flat_split {α : Type} {z : Nat} {enc : α → List AV} (he : ∀ a, (enc a).length = z) : ∀ {l : List α} {i f : Nat} {b : α} {v : AV}, i < l.length → f < z → enc b = (enc (l.getD i b)).set f v → (l.flatMap enc).set (i * z + f) v = (l.set i b).flatMap enc
  | [], i, f, b, v, hi, _, _ => by simp at hi
  | a :: l, 0, f, b, v, hi, hf, hb => by
    simp only [List.flatMap_cons, Nat.zero_mul, Nat.zero_add, List.set_cons_zero]
    rw [List.set_append_left _ _ (by rw [he]; exact hf)]
    rw [hb]; rfl
  | a :: l, i + 1, f, b, v, hi, hf, hb => by
    simp only [List.flatMap_cons, List.set_cons_succ]
    rw [show (i + 1) * z + f = (enc a).length + (i * z + f) by rw [he, Nat.succ_mul]; omega, List.set_append_right _ _ (Nat.le_add_right _ _), Nat.add_sub_cancel_left]
    rw [flat_split he (l := l) (i := i) (f := f) (b := b) (v := v) (by simpa using hi) hf (by simpa using hb)]
theorem set_cut (l : List AV) (i : Nat) (v : AV) (hi : i < l.length) : l.take i ++ [v] ++ l.drop (i + 1) = l.set i v := by
  rw [List.set_eq_take_append_cons_drop, if_pos hi, List.append_assoc]; rfl

section
variable {X : Cx} {tb : List (Nat × TE)} (E : Env X.c tb) {L : List (Nat × AV)} {h : Heap} {o : Oper}
include E
/-- what stands in an array of one's own -/
theorem Hop.ldF {α : Type} [Inhabited α] {t : Nat} {x : Operand} {id n i f off ty z : Nat} {enc : α → List AV} {l : List α} {v : AV} {e : TE} (ho : o.op = .load t x) (hx : evL L x = some (.optr id n off)) (hoff : off = i * z + f) (ht : lkT tb t = some e) (ha : e.k.isAgg = false) (hg : h.get id = .arr ty z n (l.flatMap enc)) (henc : ∀ a, (enc a).length = z) (hf : Nat.ble (f + 1) z = true) (hv : nth1 (enc (l.getD i default)) f = some v) (hi : i < l.length) : Hop X L h o v h :=
  Hop.ldO E ho hx ht ha hg (by rw [hoff, flat_get henc default hi (bleT hf), ← nth1_eq]; exact hv)
/-- a place written -/
theorem Hop.stF {α : Type} [Inhabited α] {t : Nat} {x y : Operand} {id n i f off ty z : Nat} {enc : α → List AV} {l : List α} {v : AV} {e : TE} (b : α) (ho : o.op = .store t x y) (hx : evL L x = some (.optr id n off)) (hy : evL L y = some v) (hoff : off = i * z + f) (ht : lkT tb t = some e) (hl : Nat.beq e.s 1 = true) (hg : h.get id = .arr ty z n (l.flatMap enc)) (henc : ∀ a, (enc a).length = z) (hc : v.cells = [v]) (h1 : ones [v] = true) (h2 : datsB [v] = true)
    (hf : Nat.ble (f + 1) z = true) (hb : enc b = (enc (l.getD i b)).set f v) (hi : i < l.length) : Hop X L h o und (h.put id (.arr ty z n ((l.set i b).flatMap enc))) := by
  have hfl : (l.flatMap enc).length = l.length * z := flat_len henc l
  have hlt : i * z + f < (l.flatMap enc).length := by
    have h3 : f < z := bleT hf
    have h4 : (i + 1) * z ≤ l.length * z := Nat.mul_le_mul_right z hi
    rw [Nat.succ_mul] at h4
    omega
  have := Hop.storeO E (off := off) ho hx hy ht (by rw [hc]; exact hl) hg (by rw [hc]; exact h1) (by rw [hc]; exact h2) (by rw [hc, hoff]; exact hlt)
  rw [hc, hoff] at this
  rw [← flat_split henc hi (bleT hf) hb, ← set_cut _ _ _ hlt]
  exact this
end

/-! ## halves -/
section
variable {X : Cx} {tb : List (Nat × TE)} (E : Env X.c tb) {L : List (Nat × AV)} {h : Heap} {o : Oper}
theorem Hop.quo {x y : Operand} {t u : Nat} {a b : Int} (ho : o.op = .binOp .quo t x y u) (hx : evL L x = some (.int .i64 a)) (hy : evL L y = some (.int .i64 b)) (hb : ieq b 0 = false) (hr : 0 ≤ a ∧ a < 9223372036854775808 ∧ 0 ≤ a / b ∧ a / b < 9223372036854775808) : Hop X L h o (.int .i64 (a / b)) h :=
  opA_bin ho hx hy ⟨by simp, by simp⟩ (by simp only [intOp, hb]; rw [Int.tdiv_eq_ediv_of_nonneg hr.1, wr_i64 ⟨by omega, hr.2.2.2⟩])
theorem Hop.rem {x y : Operand} {t u : Nat} {a b : Int} (ho : o.op = .binOp .rem t x y u) (hx : evL L x = some (.int .i64 a)) (hy : evL L y = some (.int .i64 b)) (hb : ieq b 0 = false) (hr : 0 ≤ a) : Hop X L h o (.int .i64 (a % b)) h :=
  opA_bin ho hx hy ⟨by simp, by simp⟩ (by simp only [intOp, hb]; rw [Int.tmod_eq_emod_of_nonneg hr])
theorem wr_u64 {n : Int} (h : 0 ≤ n ∧ n < 18446744073709551616) : wr .u64 n = n := by
  cases n with
  | ofNat a =>
    have h2 := h.2
    rw [Int.ofNat_eq_natCast] at h2
    have h1 : um .u64 (Int.ofNat a) = a := by show a % 18446744073709551616 = a; omega
    show Int.ofNat (um .u64 (Int.ofNat a)) = _
    rw [h1]
  | negSucc a => have := h.1; omega
include E in
theorem Hop.conv {s t : Nat} {x : Operand} {k1 k2 : IntKind} {a : Int} {es e : TE} (ho : o.op = .convert s t x) (hx : evL L x = some (.int k1 a)) (hs : lkT tb s = some es) (ht : lkT tb t = some e) (hk : e.k = .int k2) (hr : wr k2 a = a) : Hop X L h o (.int k2 a) h := fun e' he => by
  obtain ⟨d, h1, _⟩ := (E.t s es hs).kd
  have h2 := (E.t t e ht).it hk
  rw [ho]; simp only [opA]; rw [he.ev hx]
  simp only [oConvert, h1, h2, hr, valH]
theorem Hop.half {x y : Operand} {t u : Nat} {kk kj : IntKind} {a : Int} (ho : o.op = .binOp .shr t x y u) (hx : evL L x = some (.int kk a)) (hy : evL L y = some (.int kj 1)) (hr : 0 ≤ a) : Hop X L h o (.int kk (a / 2)) h := fun e he => by
  rw [ho]; simp only [opA]; rw [he.ev hx, he.ev hy]
  have hs : shiftOp .shr kk a 1 = some (.int kk (a / 2)) := by
    cases a with
    | negSucc m => omega
    | ofNat m =>
      have hm : Min.min 1 (bitw kk) = 1 := by cases kk <;> rfl
      show some (AV.int kk (.ofNat (Nat.shiftRight m (Min.min 1 (bitw kk))))) = _
      rw [hm]
      have : Nat.shiftRight m 1 = m / 2 := by simp [Nat.shiftRight]
      rw [this]; rfl
  have : oBinX X.c .shr t (constB x y) (.int kk a) (.int kj 1) = shiftOp .shr kk a 1 := by
    unfold oBinX oBin
    simp only []
  rw [this, hs]; rfl
end
section
variable {X : Cx} {tb : List (Nat × TE)} (E : Env X.c tb) {sz : Nat} {rd : Option Nat} {all : Array Oper} {o : Oper} {rest : List Oper} {k : List It} {L : List (Nat × AV)} {h : Heap} {m : List Nat} {Q : Post}
include E
/-- APPENDED to nil, be it nothing: an array of one's own -/
theorem Ops.appendN {d tx : Nat} {cl : Call} {y : Operand} {t t1 el z q : Nat} {cs : List AV} {e e1 ee : TE} (hd : o.dst = some d) (hs : Nat.ble (d + 1) sz = true) (hw : ∀ v, Want all ((tx, v) :: L) o true) (ho : o.op = .call cl) (hc : cl.callee = .builtin .append) (ha : cl.args.toList = [.tmp tx, y])
    (hts0 : nth1 cl.argTypes.toList 0 = some t) (hts1 : nth1 cl.argTypes.toList 1 = some t1) (hx : lkO L tx = some .nilsl) (hy : ∀ v, evL ((tx, v) :: L) y = some (.rsl q z cs)) (ht : lkT tb t = some e) (hk : e.k = .slice el) (hel : lkT tb el = some ee) (hz : Nat.beq ee.s z = true) (hz0 : Nat.beq z 0 = false) (hb : Nat.ble ee.b 1000 = true)
    (ht1 : lkT tb t1 = some e1) (hk1 : (match e1.k with | .slice _ => true | .str => true | _ => false) = true) (hi : HInd h.nxt (h.new (.arr el z 0 []))) (hL : indL h.nxt L = true) (hm : (m.all fun i => !Nat.beq i h.nxt) = true) (hrd : rdNot h.nxt rd = true) (hG : indsB h.nxt X.gv = true)
    (hzz : (match ee.z with | .bad => false | v => Nat.beq v.cells.length ee.s) = true) (hones : ones cs = true) (hsm : q ≤ 1000000) (nx : Ops X sz rd all rest k ((d, .own h.nxt q z) :: (tx, .own h.nxt 0 z) :: L) ((h.new (.arr el z 0 [])).put h.nxt (.arr el z q cs)) m Q) (hgz : X.g = none ∨ Nat.ble 1 h.nxt = true := by first | exact .inl rfl | exact .inr rfl) : Ops X sz rd all (o :: rest) k L h m Q := by
  refine Ops.change (Chg.tok tx el z hx hgz) (Ops.appendE E (id := h.nxt) (n := 0) (l := []) (q := q) hd hs (hw _) ho hc ha hts0 hts1 (by simp [evL, lkO]) (hy _) ht hk hel hz hz0 hb ht1 hk1 (by rw [Heap.get_new, if_pos rfl]) hi hL hm hrd hG hzz hones (by omega) ?_)
  rw [Nat.zero_add, List.nil_append]
  exact nx
theorem Go.drawS2 (hm : X.c.P.follows .mixedOrders = true) (tb : List (Ent X.c)) (p : Nat) (ord : List Nat) {id : Nat} (hord : ord = List.range p) (hc : chkOrdS X.c all.toList p = true) (n : Dr X sz rd tb all ord [] L h (some h) m (SufQ X sz rd all p k Q)) : Go X sz rd (.code (.region id all true) :: k) L h m Q := by
  subst hord
  exact Go.drawS E hm tb p hc n
end
end Go.Px
end
/- PxTn -/
section
set_option linter.unusedVariables false
set_option linter.unusedSimpArgs false
namespace Go.Px

noncomputable def newAt (n : Nat) (h : Heap) (b : AB) : Heap := ⟨n + 1, h.blk.set .none n b, h.tips, n :: h.log⟩
theorem new_at {n : Nat} {h : Heap} (hn : h.nxt = n) (b : AB) : h.new b = newAt n h b := by subst hn; rfl
noncomputable def rowAt (n : Nat) (h : Heap) (t : TypeId) (k : Nat) (cs : List AV) : Heap := newAt n h (.row ⟨t, k, .leaf, cs, none⟩)
theorem row_at {n : Nat} {h : Heap} (hn : h.nxt = n) (t : TypeId) (k : Nat) (cs : List AV) : newRow h t k .leaf cs = rowAt n h t k cs := new_at hn _
/-- a value's cells, in a box -/
def boxC (v : AV) : Option (List AV) := match v with | .agg l => some l | .bad => none | v => some [v]

section
variable {X : Cx} {tb : List (Nat × TE)} (E : Env X.c tb) {sz : Nat} {rd : Option Nat} {all : Array Oper} {o : Oper} {rest : List Oper} {k : List It} {L : List (Nat × AV)} {h : Heap} {m : List Nat} {Q : Post}

theorem oBox_C {h : Heap} {t : Nat} {v : AV} {cs : List AV} (hb : boxC v = some cs) : oBox h t v = some (.ptr h.nxt 0, newRow h t cs.length .leaf cs) := by
  cases v <;> first | (cases hb; rfl) | cases hb
theorem Hop.boxC {t : Nat} {x : Operand} {v : AV} {cs : List AV} (ho : o.op = .box t x) (hx : evL L x = some v) (hb : Px.boxC v = some cs) : Hop X L h o (.ptr h.nxt 0) (newRow h t cs.length .leaf cs) := Hop.box ho hx (oBox_C hb)
include E
/-- A BOX that nobody writes -/
theorem Ops.boxR {d t : Nat} {x : Operand} {v : AV} {cs : List AV} (hd : o.dst = some d) (hs : Nat.ble (d + 1) sz = true) (hw : Want all L o true) (ho : o.op = .box t x) (hx : evL L x = some v) (hb : Px.boxC v = some cs) (hdt : datsB cs = true)
    (nx : Ops X sz rd all rest k ((d, .rptr cs) :: L) h m Q) : Ops X sz rd all (o :: rest) k L h m Q := ⟨fun e0 he => by
  refine TriOps.cons (hw e0 he) (K := fun s' => RunK X sz rd k Q .normal s') ?_
  intro ro ρ w a next Q' h1 p h3 h4 h5
  refine ⟨fun _ _ => trivial, ?_⟩
  have hopA : opA X.c e0 (bare h.nxt) o.op = some (.v (.ptr h.nxt 0) ((bare h.nxt).new (.row ⟨t, cs.length, .leaf, cs, none⟩))) := Hop.boxC (X := X) (h := bare h.nxt) ho hx hb e0 he
  rw [show (wideR ro).round = ro from rfl, Oper.semAt_eq ro a.eval o (opA_defer hopA)]
  have hbr : HR ρ (bare h.nxt) w := bare_hr h.nxt p.hr.lt p.hr.fz
  obtain ⟨nx', w', ρ1, q1, q2, q3⟩ := opA_ok E.k hbr (bare_wf _) (fun i a b => p.fr.1 i a) h3 hopA
  have hblk : ∀ B, B < w.heap.size → w'.heap[B]? = w.heap[B]? := fun B hB => q2.frame B hB (fun i N _ => bare_no _ i)
  have hFo : ∀ B, B < w.heap.size → ρ1.F B = ρ.F B := fun B hB => q2.fold B hB (fun i N _ => bare_no _ i)
  have hgetn : ((bare h.nxt).new (.row ⟨t, cs.length, .leaf, cs, none⟩)).get h.nxt = .row ⟨t, cs.length, .leaf, cs, none⟩ := by
    have := Heap.get_new (bare h.nxt) h.nxt (.row ⟨t, cs.length, .leaf, cs, none⟩)
    rw [this]; exact if_pos rfl
  have hokn : ((bare h.nxt).new (.row ⟨t, cs.length, .leaf, cs, none⟩)).ok h.nxt := by
    unfold Heap.ok; rw [hgetn]; simp only []; rw [Heap.row_of hgetn]; rfl
  -- its value
  rcases q3 with ⟨S, rfl, q3⟩ | ⟨_, q3⟩
  · simp only [VR] at q3
    obtain ⟨B, N, e1, rfl⟩ := q3
    have hro := q2.hr.ok h.nxt B N e1 hokn
    rw [hgetn] at hro
    have hro : RowOk ρ1 ⟨t, cs.length, .leaf, cs, none⟩ B N w' := hro
    obtain ⟨L0, l1, l2, l3⟩ := RowOk.reads hro cs.length 0 (by simp)
    rw [read_whole t cs cs.length rfl] at l1
    have hFB : ρ1.F B = [] := q2.hr.F_row e1 hokn (fun r => by rw [hgetn]; exact fun q => by cases q)
    have hBge : w.heap.size ≤ B := by
      rcases q2.newb h.nxt B N e1 (p.fr.1 _ (Nat.le_refl _)) with r | ⟨j, M, _, r⟩
      · exact r
      · exact absurd r (bare_no _ j)
    have g1 : ∀ b, b ≠ B → (fun b => if b = B then L0 else ρ1.F b) b = ρ1.F b := fun b q => if_neg q
    have g2 : (fun b => if b = B then L0 else ρ1.F b) B = L0 := if_pos rfl
    have f1 : ∀ (b j : Nat) (x : Value), (ρ1.F b)[j]? = some x → ((fun b => if b = B then L0 else ρ1.F b) b)[j]? = some x := fun b j x q => by
      by_cases hb : b = B
      · subst hb; rw [hFB] at q; simp at q
      · rw [g1 b hb]; exact q
    have f0 : ∀ (b j : Nat) (x : Value), (ρ.F b)[j]? = some x → ((fun b => if b = B then L0 else ρ1.F b) b)[j]? = some x := fun b j x q => f1 b j x (q2.sub.F b j x q)
    have f3 : FzW (fun b => if b = B then L0 else ρ1.F b) w' := fun b j x q => by
      by_cases hb : b = B
      · subst hb; rw [g2] at q
        have := l3 j x q; rwa [Nat.zero_add] at this
      · rw [g1 b hb] at q; exact q2.hr.fz b j x q
    have hsub : Sub ρ ⟨ρ.m, fun b => if b = B then L0 else ρ1.F b, ρ.V⟩ := ⟨fun _ _ e => e, f0, fun _ _ _ e => e⟩
    have hpi := p.frz ⟨q2.same, hblk⟩ f0 (fun b hb => (g1 b (by omega)).trans (hFo b hb)) f3
    rw [q1]
    refine h5 (.rptr cs) ⟨e0, h, m⟩ _ w' _ ⟨e0.set und d (.rptr cs), by rw [hd]; exact setD_some hs, nx.run _ (he.set d _)⟩ (h1.mono hsub) hpi (h3.mono hsub) (h4.mono hsub) ?_
    simp only [VR]
    refine ⟨B, 0, L0, rfl, ?_, fun j x q => ?_⟩
    · exact VRs.mono (ρ := ρ1.d) (σ := (⟨ρ.m, fun b => if b = B then L0 else ρ1.F b, ρ.V⟩ : Map).d) ⟨(fun _ _ e => by cases e), f1, (fun _ _ _ e => by cases e)⟩ cs (dats_ok cs hdt l1)
    · show ((fun b => if b = B then L0 else ρ1.F b) B)[0 + j]? = some x
      rw [g2, Nat.zero_add]; exact q
  · simp only [VR] at q3
    obtain ⟨B, N, e1, e2⟩ := q3
    cases e2⟩

/-! ## numbers written out -/
theorem Ops.rowAt (n : Nat) {d ty N : Nat} {cs : List AV} (hd : o.dst = some d) (hs : Nat.ble (d + 1) sz = true) (hw : Want all L o true) (hn : h.nxt = n) (hop : Hop X L h o (.ptr h.nxt 0) (newRow h ty N .leaf cs)) (nx : Ops X sz rd all rest k ((d, .ptr n 0) :: L) (Px.rowAt n h ty N cs) m Q) : Ops X sz rd all (o :: rest) k L h m Q := by
  rw [hn, row_at hn] at hop
  exact Ops.mem E hd hs hw hop (by rw [← row_at hn]; exact ArrKeep.new rfl) nx
theorem Ops.appendNAt (n : Nat) {d tx : Nat} {cl : Call} {y : Operand} {t t1 el z q : Nat} {cs : List AV} {e e1 ee : TE} (hd : o.dst = some d) (hs : Nat.ble (d + 1) sz = true) (hn : h.nxt = n) (hw : ∀ v, Want all ((tx, v) :: L) o true) (ho : o.op = .call cl) (hc : cl.callee = .builtin .append) (ha : cl.args.toList = [.tmp tx, y])
    (hts0 : nth1 cl.argTypes.toList 0 = some t) (hts1 : nth1 cl.argTypes.toList 1 = some t1) (hx : lkO L tx = some .nilsl) (hy : ∀ v, evL ((tx, v) :: L) y = some (.rsl q z cs)) (ht : lkT tb t = some e) (hk : e.k = .slice el) (hel : lkT tb el = some ee) (hz : Nat.beq ee.s z = true) (hz0 : Nat.beq z 0 = false) (hb : Nat.ble ee.b 1000 = true)
    (ht1 : lkT tb t1 = some e1) (hk1 : (match e1.k with | .slice _ => true | .str => true | _ => false) = true) (hi : HInd n (newAt n h (.arr el z 0 []))) (hL : indL n L = true) (hm : (m.all fun i => !Nat.beq i n) = true) (hrd : rdNot n rd = true) (hG : indsB n X.gv = true)
    (hzz : (match ee.z with | .bad => false | v => Nat.beq v.cells.length ee.s) = true) (hones : ones cs = true) (hsm : q ≤ 1000000) (nx : Ops X sz rd all rest k ((d, .own n q z) :: (tx, .own n 0 z) :: L) ((newAt n h (.arr el z 0 [])).put n (.arr el z q cs)) m Q) (hgz : X.g = none ∨ Nat.ble 1 n = true := by first | exact .inl rfl | exact .inr rfl) : Ops X sz rd all (o :: rest) k L h m Q := by
  subst hn
  exact Ops.appendN E hd hs hw ho hc ha hts0 hts1 hx hy ht hk hel hz hz0 hb ht1 hk1 hi hL hm hrd hG hzz hones hsm nx hgz
omit E in
theorem Dr.rowAt {tb : List (Ent X.c)} {ord : List Nat} {hb : Option Heap} {i : Nat} (n : Nat) {d ty N : Nat} {cs : List AV} (ho : nth1 all.toList i = some o) (hc : cls X.c o.op = .alloc) (hd : o.dst = some d) (hs : Nat.ble (d + 1) sz = true) (hw : Want all L o true) (hn : h.nxt = n) (hop : Hop X L h o (.ptr h.nxt 0) (newRow h ty N .leaf cs)) (nx : Dr X sz rd tb all ord k ((d, .ptr n 0) :: L) (Px.rowAt n h ty N cs) hb m Q) : Dr X sz rd tb all (i :: ord) k L h hb m Q := by
  rw [hn, row_at hn] at hop
  exact Dr.alloc ho hc hd hs hw hop (by rw [← row_at hn]; exact ArrKeep.new rfl) nx
omit E in
theorem Dr.slAt {tb : List (Ent X.c)} {ord : List Nat} {hb : Option Heap} {i : Nat} (n : Nat) {d ty len z : Nat} {cap : Option Nat} {cs : List AV} (ho : nth1 all.toList i = some o) (hc : cls X.c o.op = .alloc) (hd : o.dst = some d) (hs : Nat.ble (d + 1) sz = true) (hw : Want all L o true) (hn : h.nxt = n) (hop : Hop X L h o (.sl h.nxt 0 len cap z) (newRow h ty cs.length .leaf cs)) (nx : Dr X sz rd tb all ord k ((d, .sl n 0 len cap z) :: L) (Px.rowAt n h ty cs.length cs) hb m Q) : Dr X sz rd tb all (i :: ord) k L h hb m Q := by
  rw [hn, row_at hn] at hop
  exact Dr.alloc ho hc hd hs hw hop (by rw [← row_at hn]; exact ArrKeep.new rfl) nx
end
section
variable {X : Cx} {sz : Nat} {rd : Option Nat} {k : List It} {L : List (Nat × AV)} {h : Heap} {m : List Nat} {Q : Post}
/-- both ways of a condition: the slot is known behind it -/
theorem Go.condPt {t : Nat} {c d : Code} {p : Prop} (hb : lkO L t = some (.bool (bd p))) (g1 : p → Go X sz rd (.code c :: k) ((t, .bool true) :: L) h m Q) (g2 : ¬ p → Go X sz rd (.code d :: k) ((t, .bool false) :: L) h m Q) : Go X sz rd (.code (.cond (.tmp t) c d) :: k) L h m Q := ⟨fun e he => by
  have hk : ∀ {b : Bool}, bd p = b → Has e ((t, .bool b) :: L) := fun {b} hb' s u q => by
    unfold lkO at q
    split at q
    · rename_i ht; cases q; have ht := beqT ht; subst ht; rw [← hb']; exact he s _ hb
    · exact he s u q
  have he' : evL L (.tmp t) = some (.bool (bd p)) := hb
  exact Tri.cond (he.ev he') (fun q => (g1 (bd_iff.1 q)).run e (hk q)) (fun q => (g2 (bd_not.1 q)).run e (hk q))⟩
theorem Go.condNt {t : Nat} {c d : Code} {p : Prop} (hb : lkO L t = some (.bool (!bd p))) (g1 : ¬ p → Go X sz rd (.code c :: k) ((t, .bool true) :: L) h m Q) (g2 : p → Go X sz rd (.code d :: k) ((t, .bool false) :: L) h m Q) : Go X sz rd (.code (.cond (.tmp t) c d) :: k) L h m Q := by
  have e : (!bd p) = bd (¬ p) := by by_cases h : p <;> simp [bd, h]
  rw [e] at hb
  exact Go.condPt hb g1 fun q => g2 (Classical.not_not.1 q)
end
/-! ## what is left at the end -/
theorem out_t {p : Prop} (h : p) : one [AV.bool true] = .bool (bd p) := by rw [bd_of h]; rfl
theorem out_f {p : Prop} (h : ¬ p) : one [AV.bool false] = .bool (bd p) := by rw [bd_no h]; rfl
theorem out_e {p q : Prop} (h : p ↔ q) : one [AV.bool (bd p)] = .bool (bd q) := by rw [propext h]; rfl
theorem out_n {p q : Prop} (h : ¬ p ↔ q) : one [AV.bool (!bd p)] = .bool (bd q) := by
  have e : (!bd p) = bd (¬ p) := by by_cases h : p <;> simp [bd, h]
  rw [e, propext h]; rfl
end Go.Px
end
/- PxTo -/
section
set_option linter.unusedVariables false
namespace Go.Px
section
variable {X : Cx} {sz : Nat} {rd : Option Nat} {all : Array Oper} {rest : List Oper} {k : List It} {L : List (Nat × AV)} {h : Heap} {m : List Nat} {Q : Post}
theorem Ops.gT {d : Nat} {p : Prop} (hg : gslot all rest = some d) (hb : lkO L d = some (.bool (bd p))) (hp : p) (n1 : Ops X sz rd all rest k ((d, .bool true) :: L) h m Q) : Ops X sz rd all rest k L h m Q := Ops.gP hg hb (fun _ => n1) fun q => absurd hp q
theorem Ops.gF {d : Nat} {p : Prop} (hg : gslot all rest = some d) (hb : lkO L d = some (.bool (bd p))) (hp : ¬ p) (n1 : Ops X sz rd all rest k ((d, .bool false) :: L) h m Q) : Ops X sz rd all rest k L h m Q := Ops.gP hg hb (fun q => absurd q hp) fun _ => n1
theorem Go.condTt {t : Nat} {c d : Code} {p : Prop} (hb : lkO L t = some (.bool (bd p))) (hp : p) (g1 : Go X sz rd (.code c :: k) ((t, .bool true) :: L) h m Q) : Go X sz rd (.code (.cond (.tmp t) c d) :: k) L h m Q := Go.condPt hb (fun _ => g1) fun q => absurd hp q
theorem Go.condFt {t : Nat} {c d : Code} {p : Prop} (hb : lkO L t = some (.bool (bd p))) (hp : ¬ p) (g1 : Go X sz rd (.code d :: k) ((t, .bool false) :: L) h m Q) : Go X sz rd (.code (.cond (.tmp t) c d) :: k) L h m Q := Go.condPt hb (fun q => absurd q hp) fun _ => g1
end
end Go.Px
end
/- PxTp -/
section
set_option linter.unusedVariables false
namespace Go.Px
section
variable {X : Cx} {tb : List (Nat × TE)} {sz : Nat} {rd : Option Nat} {all : Array Oper} {o : Oper} {rest : List Oper} {k : List It} {L : List (Nat × AV)} {h : Heap} {m : List Nat} {Q : Post}
theorem Hop.notN {t : Nat} {x : Operand} {p : Prop} (ho : o.op = .unOp .not t x) (hx : evL L x = some (.bool (!bd p))) : Hop X L h o (.bool (bd p)) h := by
  have := Hop.not (X := X) (L := L) (h := h) ho hx
  rwa [Bool.not_not] at this
theorem Chg.eq (t : Nat) {u v : AV} (hl : lkO L t = some u) (e : u = v) : Chg X sz rd L h ((t, v) :: L) h m := Chg.weak t hl fun _ _ q => e ▸ q
/-- A MOVE of an own array that nobody writes from now on -/
theorem Ops.frzMv (E : Env X.c tb) (d : Nat) {v : AV} {id ty z n : Nat} {l : List AV} (e0 : AV.rsl n z l = v) (hd : o.dst = some d) (hs : Nat.ble (d + 1) sz = true) (hw : Want all L o true) (hop : Hop X L h o (.own id n z) h) (hg0 : h.get id = .arr ty z n l) (hi : HInd id h) (hL : indL id L = true)
    (hm : (m.all fun i => !Nat.beq i id) = true) (hrd : rdNot id rd = true) (hG : indsB id X.gv = true) (nx : Ops X sz rd all rest k ((d, v) :: (d, .own id n z) :: L) (h.put id .none) m Q) : Ops X sz rd all (o :: rest) k L h m Q := by
  subst e0
  refine Ops.val E hd hs hw hop (Ops.change (Chg.frz d (by unfold lkO; rw [Nat.beq_refl]) hg0 hi (by simp only [indL, indB]; exact hL) hm (fun q => ?_) hG) nx)
  subst q
  simp [rdNot, Nat.beq_refl] at hrd
end
end Go.Px
end
/- PxTq -/
section
set_option linter.unusedVariables false
namespace Go.Px
section
variable {X : Cx} {tb : List (Nat × TE)} {sz : Nat} {rd : Option Nat} {all : Array Oper} {o : Oper} {rest : List Oper} {k : List It} {L : List (Nat × AV)} {h : Heap} {m : List Nat} {Q : Post}
theorem PI.cell {ρ : Map} {w : World} {id : Nat} {r r' : Row} (p : PI X ρ h w) (hg0 : h.get id = .row r) (h1 : r'.t = r.t) (h2 : r'.n = r.n) (h3 : r.root = none) (h4 : r'.root = none) (H : ∀ j v, j < r.n → VR ρ (r.get j) v → VR ρ (r'.get j) v) : PI X ρ (h.put id (.row r')) w := by
  have hg : ∀ j, j ≠ id → (h.put id (.row r')).get j = h.get j := fun j q => by rw [Heap.get_put, if_neg q]
  have hn : (h.put id (.row r')).get id = .row r' := by rw [Heap.get_put, if_pos rfl]
  have hokn : h.ok id := by unfold Heap.ok; rw [hg0]; simp only []; rw [Heap.row_of hg0, h3]; rfl
  have ho : ∀ j, (h.put id (.row r')).ok j → h.ok j := fun j q => by
    by_cases hj : j = id
    · subst hj; exact hokn
    · exact (Heap.ok_same (hg j hj) (fun _ _ _ _ => rfl)).1 q
  have hk1 : ∀ j, ¬ Kin h id j := fun j hk => by
    obtain ⟨a, b, q, a1, a2, a3, a4⟩ := hk
    rw [hg0] at a1; cases a1; rw [h3] at a3; cases a3
  have hk2 : ∀ j, ¬ Kin h j id := fun j hk => by
    obtain ⟨a, b, q, a1, a2, a3, a4⟩ := hk
    rw [hg0] at a2; cases a2; rw [h3] at a4; cases a4
  refine ⟨⟨p.hr.lt, fun i B N e q => ?_, fun i j B N M hij e1 e2 k1 k2 => ?_, fun i s q => ?_, p.hr.fz, fun i B N e q => ?_, fun i t z n l q => ?_⟩,
    ⟨fun i hi => ?_, fun i s q a b => ?_, fun i s q t a b c => ?_, fun q hq => p.wf.tipr q hq⟩, ⟨fun i hi => p.fr.1 i hi, fun i s q => ?_⟩, fun i hi n => p.vf i hi n, fun i t z n l q => ?_, p.ext, p.mine, p.sub, p.old, p.keep, p.gh.go (fun t z n l q => ?_) (Same.refl w) (fun _ _ _ => rfl) (fun i B N e q => .inr ⟨i, N, e, ho i q⟩) (fun _ _ _ => rfl) (fun B N e => .inl ⟨N, e⟩) (fun _ _ => rfl) (fun _ _ _ e => e)⟩
  · by_cases hi : i = id
    · subst hi
      rw [hn]
      have := p.hr.ok i B N e hokn
      rw [hg0] at this
      have this : RowOk ρ r B N w := this
      obtain ⟨q1, q2, q3, q4⟩ := this
      refine ⟨by rw [h1]; exact q1, by rw [h2]; exact q2, q3, fun j hj => ?_⟩
      rw [h2] at hj
      obtain ⟨v, v1, v2⟩ := q4 j hj
      exact ⟨v, v1, H j v hj v2⟩
    · rw [hg i hi]; exact p.hr.ok i B N e (ho i q)
  · have kk := p.hr.inj i j B N M hij e1 e2 (ho i k1) (ho j k2)
    by_cases hi : i = id
    · subst hi; exact absurd kk (hk1 j)
    · by_cases hj : j = id
      · subst hj; exact absurd kk (hk2 i)
      · obtain ⟨r, s, q, a, b, c⟩ := kk
        exact ⟨r, s, q, by rw [hg i hi]; exact a, by rw [hg j hj]; exact b, c⟩
  · by_cases hi : i = id
    · subst hi; rw [hn] at q; cases q
    · rw [hg i hi] at q; exact p.hr.gl i s q
  · by_cases hi : i = id
    · subst hi
      rcases p.hr.sep i B N e hokn with a | ⟨s, a⟩
      · exact .inl a
      · rw [hg0] at a; cases a
    · rw [hg i hi]; exact p.hr.sep i B N e (ho i q)
  · by_cases hi : i = id
    · subst hi; rw [hn] at q; cases q
    · rw [hg i hi] at q; exact p.hr.av i t z n l q
  · by_cases hi' : i = id
    · subst hi'
      have : h.get i = .none := p.wf.fresh i hi
      rw [hg0] at this; cases this
    · rw [hg i hi']; exact p.wf.fresh i hi
  · by_cases hi : i = id
    · subst hi; rw [hn] at a; cases a; rw [h4] at b; cases b
    · rw [hg i hi] at a; exact p.wf.root i s q a b
  · by_cases hi : i = id
    · subst hi; rw [hn] at a; cases a; rw [h4] at b; cases b
    · rw [hg i hi] at a
      obtain ⟨u, u1, u2, u3⟩ := p.wf.tip i s q t a b c
      by_cases ht : t = id
      · subst ht; rw [hg0] at u1; cases u1; rw [h3] at u2; cases u2
      · exact ⟨u, by rw [hg t ht]; exact u1, u2, u3⟩
  · by_cases hi : i = id
    · subst hi
      have := p.fr.2 i s q
      rw [hg0] at this; cases this
    · rw [hg i hi]; exact p.fr.2 i s q
  · by_cases hi : i = id
    · subst hi; rw [hn] at q; cases q
    · rw [hg i hi] at q; exact p.vu i t z n l q
  · by_cases hi : 0 = id
    · subst hi; rw [hn] at q; cases q
    · rw [hg 0 hi] at q; exact ⟨_, _, _, q⟩
theorem Chg.cell (id : Nat) {r r' : Row} (hg0 : h.get id = .row r) (h1 : r'.t = r.t) (h2 : r'.n = r.n) (h3 : r.root = none) (h4 : r'.root = none) (H : ∀ ρ w, PI X ρ h w → ∀ j v, j < r.n → VR ρ (r.get j) v → VR ρ (r'.get j) v) : Chg X sz rd L h L (h.put id (.row r')) m := fun ro ρ w e a g1 p g3 he g4 =>
  ⟨ρ, e, g1, p.cell hg0 h1 h2 h3 h4 (H ρ w p), g3, he, g4⟩
theorem row1 (t : TypeId) (v : AV) : Row.get ⟨t, 1, .leaf, [v], none⟩ 0 = v := by
  unfold Row.get
  rw [show (T.leaf : T (Option AV)).get none 0 = none from get_leaf none 0]
  simp only [Nat.zero_mod]
  rfl
/-- a nil slice in a box, as an array of one's own in which nothing stands -/
theorem Chg.cellOwn (id k : Nat) {t ty : TypeId} {z : Nat} (hg : h.get id = .row ⟨t, 1, .leaf, [.nilsl], none⟩) (hk : h.get k = .arr ty z 0 []) : Chg X sz rd L h L (h.put id (.row ⟨t, 1, .leaf, [.own k 0 z], none⟩)) m :=
  Chg.cell id hg rfl rfl rfl rfl fun ρ w p j v hj q => by
    have hj : j = 0 := by simpa using hj
    subst hj
    have hn : Row.n ⟨t, 1, .leaf, [AV.nilsl], none⟩ = 1 := rfl
    rw [row1] at q ⊢
    simp only [VR] at q ⊢
    obtain ⟨_, h⟩ := p.hr.av k ty z 0 [] hk
    rcases h with ⟨_, h⟩ | ⟨h, _⟩
    · rw [q]; exact ⟨h, .inl (by simp)⟩
    · exact absurd rfl h
theorem Ops.weakAt (E : Env X.c tb) (d : Nat) {u v : AV} (hd : o.dst = some d) (hs : Nat.ble (d + 1) sz = true) (hw : Want all L o true) (hop : Hop X L h o u h) (H : ∀ ρ x, VR ρ u x → VR ρ v x) (nx : Ops X sz rd all rest k ((d, v) :: (d, u) :: L) h m Q) : Ops X sz rd all (o :: rest) k L h m Q :=
  Ops.val E hd hs hw hop (Ops.change (Chg.weak d (by unfold lkO; rw [Nat.beq_refl]) H) nx)
end
/-- a heap of so many blocks, the number written out -/
noncomputable def hq (N : Nat) (bs : List AB) : Heap := ⟨N, T.put .none bs .leaf 0, .leaf, []⟩
theorem row_at_i {t : TypeId} {cs : List AV} {j : Nat} (hj : j < cs.length) : Row.get ⟨t, cs.length, .leaf, cs, none⟩ j = cs.getD j .bad := by
  unfold Row.get
  rw [show (T.leaf : T (Option AV)).get none j = none from get_leaf none j]
  simp only [Nat.mod_eq_of_lt hj, nth_eq, List.getD_eq_getElem?_getD, List.getElem?_eq_getElem hj]
  rfl
theorem lows_at {n : Nat} : ∀ {cs : List AV} {j : Nat}, lowsB n cs = true → j < cs.length → lowB n (cs.getD j .bad) = true
  | [], _, _, h => by simp at h
  | c :: cs, j, h, hj => by
    simp only [lowsB] at h
    split at h
    · rename_i hc
      cases j with
      | zero => exact hc
      | succ j => exact lows_at (cs := cs) h (by simpa using hj)
    · cases h
theorem inds_at {n : Nat} : ∀ {cs : List AV} {j : Nat}, indsB n cs = true → j < cs.length → indB n (cs.getD j .bad) = true
  | [], _, _, h => by simp at h
  | c :: cs, j, h, hj => by
    simp only [indsB] at h
    split at h
    · rename_i hc
      cases j with
      | zero => exact hc
      | succ j => exact inds_at (cs := cs) h (by simpa using hj)
    · cases h
theorem low_row {n N : Nat} {t : TypeId} {cs : List AV} (hN : cs.length = N) (h : lowsB n cs = true) : ABLow n (.row ⟨t, N, .leaf, cs, none⟩) := by
  subst hN
  refine ⟨rfl, ?_⟩
  rw [List.all_eq_true]
  intro j hj
  have hj : j < cs.length := by simpa using hj
  rw [row_at_i hj]; exact lows_at h hj
theorem ind_row {n N : Nat} {t : TypeId} {cs : List AV} (hN : cs.length = N) (h : indsB n cs = true) : ABInd n (.row ⟨t, N, .leaf, cs, none⟩) := by
  subst hN
  show ((List.range cs.length).all fun j => indB n (Row.get ⟨t, cs.length, .leaf, cs, none⟩ j)) = true
  rw [List.all_eq_true]
  intro j hj
  have hj : j < cs.length := by simpa using hj
  rw [row_at_i hj]; exact inds_at h hj
end Go.Px
end
/- PxTr -/
section
set_option linter.unusedVariables false
namespace Go.Px
section
variable {X : Cx} {tb : List (Nat × TE)} (E : Env X.c tb) {sz : Nat} {rd : Option Nat} {all : Array Oper} {o : Oper} {rest : List Oper} {k : List It} {L : List (Nat × AV)} {h : Heap} {m : List Nat} {Q : Post}
include E
theorem Go.rangeAt (n : Nat) {f : Operand} {ps : Array Tmp} {assign body bodyG : Code} {g : FuncId} {fn : Func} {first cap : List AV} (hn : h.nxt = n) (hfv : evL L f = some (.fn (.func g) first cap)) (hf : X.c.P.funcs[g]? = some fn) (hb : fn.body = some bodyG)
    (hlen : Nat.ble (first ++ [AV.fn (.yield (n + 1)) [] []] ++ cap).length fn.ntmps = true) (hon : onceB L = true)
    (H : ∀ gx R, R = (⟨.ready, none, 0, T.put und (envLs L sz) .leaf 0, sz, ps.toList, assign, body, n⟩ : ALoop) → Go ⟨X.c, X.w0, X.F0, X.opn, X.g, none, [], (held L (n :: m) none ++ [AV.ptr (n + 1) 0]) ++ X.gv, gx ++ X.gx⟩ fn.ntmps none [.code bodyG] (argsL (first ++ [AV.fn (.yield (n + 1)) [] []] ++ cap) 0) (newAt (n + 1) (newAt n h (.dfr true)) (.loop R)) []
      (FinI X.c fn.results.toList fun _ h' => AfterR X sz none k L (n + 1) (n :: m) Q h')) (hro : X.ro = none := by rfl) : Go X sz none (.code (.rangeFunc f ps assign body) :: k) L h m Q := by
  subst hn
  exact Go.range E hfv hf hb hlen hon (fun gx => H gx _ rfl) hro
omit E
theorem Go.toQ {L' : List (Nat × AV)} {c : Code} {bs : List AB} {N : Nat} (g : Go X sz rd (.lp c :: k) L' (hq N bs) m Q) (hN : bs.length = N) (hg : ∀ i r, X.c.g0.get i ≠ .gl r) (hs : SubL L L') (hlow : lowL N L' = true) (hn : Nat.ble N h.nxt = true) (hb : getsP h bs 0) (hbl : lowsP N bs)
    (hm : (m.all fun i => Nat.ble (i + 1) N) = true) (hrd : rdLow N rd = true) (hG : lowsB N X.gv = true := by rfl) (hz : X.g = none ∨ Nat.ble 2 N = true := by first | exact .inl rfl | exact .inr rfl) : Go X sz rd (.lp c :: k) L h m Q := by
  subst hN
  exact Go.toC g hg hs hlow hn hb hbl hm hrd hG hz
theorem Go.toHQ {L' : List (Nat × AV)} {c : Code} {bs : List AB} {N : Nat} (g : Go X sz rd (.code c :: k) L' (hq N bs) m Q) (hN : bs.length = N) (hg : ∀ i r, X.c.g0.get i ≠ .gl r) (hs : SubL L L') (hlow : lowL N L' = true) (hn : Nat.ble N h.nxt = true) (hb : getsP h bs 0) (hbl : lowsP N bs)
    (hm : (m.all fun i => Nat.ble (i + 1) N) = true) (hrd : rdLow N rd = true) (hG : lowsB N X.gv = true := by rfl) (hz : X.g = none ∨ Nat.ble 2 N = true := by first | exact .inl rfl | exact .inr rfl) : Go X sz rd (.code c :: k) L h m Q := by
  subst hN
  exact Go.toH g hg hs hlow hn hb hbl hm hrd hG hz
theorem Chg.tokAt (n t : Nat) (ty z : Nat) (hn : h.nxt = n) (hl : lkO L t = some .nilsl) (hz : X.g = none ∨ Nat.ble 1 n = true := by first | exact .inl rfl | exact .inr rfl) : Chg X sz rd L h ((t, .own n 0 z) :: L) (newAt n h (.arr ty z 0 [])) m := by
  subst hn
  exact Chg.tok t ty z hl hz
/-- behind a range that ran to its end -/
theorem Go.afterN {l : Nat} {r : ALoop} (hl : h.get l = .loop r) (hp : r.pending = none) (hs : r.state = .ready ∨ r.state = .done) (n : Go X sz none k L (h.put l (.loop { r with state := .exhausted })) m Q) : AfterR X sz none k L l m Q h := by
  obtain ⟨st, pe, a1, a2, a3, a4, a5, a6, a7⟩ := r
  have hp : pe = none := hp
  subst hp
  refine ⟨_, hl, fun q => ?_, fun e he => n.run e he⟩
  rcases hs with hs | hs <;> rw [hs] at q <;> cases q
/-- behind a range that was left -/
theorem Go.afterX {l id : Nat} {r : ALoop} {k' : List It} (hl : h.get l = .loop r) (hp : r.pending = some (.exit id)) (hs : r.state = .ready ∨ r.state = .done) (hx : xit id k = some k') (n : Go X sz none k' L (h.put l (.loop { r with state := .exhausted })) m Q) : AfterR X sz none k L l m Q h := by
  obtain ⟨st, pe, a1, a2, a3, a4, a5, a6, a7⟩ := r
  have hp : pe = some (.exit id) := hp
  subst hp
  refine ⟨_, hl, fun q => ?_, fun e he => xit_run hx (n.run e he)⟩
  rcases hs with hs | hs <;> rw [hs] at q <;> cases q
theorem Go.retFm {c : Ctx} {res : List ResultVar} {vs : List AV} {v : AV} {h' : Heap} (hl : leave h m = some h') (hr : resL L res = some vs) (hv : one vs = v) (hd : datB v = true) : Go X sz rd (.code .ret :: k) L h m (Fin c res v) :=
  Go.ret fun e he => ⟨.inr rfl, h', vs, hl, resL_ok he hr, hv, hd⟩
theorem Go.endFm {c : Ctx} {res : List ResultVar} {vs : List AV} {v : AV} {h' : Heap} (hl : leave h m = some h') (hr : resL L res = some vs) (hv : one vs = v) (hd : datB v = true) : Go X sz rd [] L h m (Fin c res v) :=
  Go.nil fun e he => ⟨.inl rfl, h', vs, hl, resL_ok he hr, hv, hd⟩
end
end Go.Px
end
/- PxTs -/
section
set_option linter.unusedVariables false
namespace Go.Px
section
variable {X : Cx} {tb : List (Nat × TE)} (E : Env X.c tb) {sz : Nat} {rd : Option Nat} {all : Array Oper} {o : Oper} {rest : List Oper} {k : List It} {L : List (Nat × AV)} {h : Heap} {m : List Nat} {Q : Post}
include E
theorem Hop.build0 {t el : Nat} {e ee : TE} (ho : o.op = .buildSlice t 0 #[]) (ht : lkT tb t = some e) (hk : e.k = .slice el) (hel : lkT tb el = some ee) : Hop X L h o (.sl h.nxt 0 0 (some 0) ee.s) (newRow h el 0 .leaf []) := fun e' he => by
  have h1 := (E.t t e ht).sl hk
  have h2 := (E.t el ee hel).size
  rw [ho]; simp only [opA, parts]
  simp only [oBuildSlice, h1, h2, List.map_nil, valH]
theorem Ops.csl0 (n : Nat) {d t el : Nat} {e ee : TE} (hd : o.dst = some d) (hs : Nat.ble (d + 1) sz = true) (hw : Want all L o true) (hn : h.nxt = n) (ho : o.op = .buildSlice t 0 #[]) (ht : lkT tb t = some e) (hk : e.k = .slice el) (hel : lkT tb el = some ee) (nx : Ops X sz rd all rest k ((d, .csl) :: (d, .sl n 0 0 (some 0) ee.s) :: L) (Px.rowAt n h el 0 []) m Q) : Ops X sz rd all (o :: rest) k L h m Q := by
  have hop := Hop.build0 E (X := X) (L := L) (h := h) ho ht hk hel
  rw [hn, row_at hn] at hop
  exact Ops.mem E hd hs hw hop (by rw [← row_at hn]; exact ArrKeep.new rfl) (Ops.change (Chg.weak d (by unfold lkO; rw [Nat.beq_refl]) (weak_csl n 0 ee.s)) nx)
end
end Go.Px
end
/- PxTt -/
section
set_option linter.unusedVariables false
namespace Go.Px
open Go.Deep Go.ChangeShapes Go.WideShapes
/-- a world's blocks, as they are -/
def held0 (W : World) (B : Nat) : List Value := match W.heap[B]? with
  | some (.cells c _ _) => c.toList
  | _ => []
theorem held0_at {W : World} {B j : Nat} {x : Value} : (held0 W B)[j]? = some x ↔ W.cell? ⟨B, j, none⟩ = some x := by
  unfold held0 World.cell?
  split
  · rename_i c t f e
    simp [e]
  · rename_i e
    constructor
    · intro h; simp at h
    · intro h
      split at h
      · rename_i c t f e2; exact absurd e2 (e c t f)
      · cases h
theorem held0_fz (W : World) : FzW (held0 W) W := fun B j x h => held0_at.1 h
theorem read_slice {H : Type} {enc : TypeId × Value → H} {P : Program} {W : World} {α : Type} [Inhabited α] {en : α → List AV} {z : Nat} (hz : 0 < z) (hen : ∀ a, (en a).length = z) {t e : TypeId} (ht : P.underlying t = some (.slice e)) (hc : P.cellsOf e = z) {Q : α → DataW H → Prop}
    (hel : ∀ n cs y, DataW.trod enc P W 0 (fun _ => true) true n e cs = some y → ∃ x, VRs (fzm (held0 W)) (en x) cs ∧ Q x y.1)
    {n : Nat} {v : Value} {y : DataW H × List MemPlace} (h : DataW.trod enc P W 0 (fun _ => true) true n t [v] = some y) :
    ∃ l : List α, VR (fzm (held0 W)) (dsl z en l) v ∧ ((l = [] ∧ y.1 = .nil) ∨ ∃ els sp, y.1 = .slice els sp ∧ els.length = l.length ∧ ∀ i, i < l.length → ∃ d ∈ els, Q (l.getD i default) d) := by
  rcases open_slice ht h with ⟨hv, rfl⟩ | ⟨a, len, cap, m, k, D, Pl, hv, hb, hl, hm, hmm, rfl, hx⟩
  · have hv : v = .slice none 0 0 := by simpa using hv
    subst hv
    exact ⟨[], by simp [dsl, VR], .inl ⟨rfl, rfl⟩⟩
  · have hv : v = .slice (some a) len cap := by simpa using hv
    subst hv
    rw [hc] at hx
    have hlm : len ≤ m := by rw [hmm]; split <;> omega
    obtain ⟨f, hf⟩ := choose_lt (α := α) (n := len) (p := fun i x => ∃ cs, W.cells? 0 (a.add (i * z)) z = some cs ∧ VRs (fzm (held0 W)) (en x) cs ∧ Q x (D i)) (fun i hi => by
      obtain ⟨cs', h1, h2⟩ := hx i (by omega)
      obtain ⟨x, x1, x2⟩ := hel _ _ _ h2
      exact ⟨x, cs', h1, x1, x2⟩)
    have hlen : ((List.range len).map f).length = len := by simp
    refine ⟨(List.range len).map f, ?_, .inr ⟨_, _, rfl, by simp, fun i hi => ?_⟩⟩
    · unfold dsl
      rw [hlen]
      simp only [VR]
      refine ⟨by rw [flat_len hen, hlen], ?_⟩
      by_cases h0 : len = 0
      · exact .inl ⟨h0, .inr ⟨a, cap, by rw [h0]⟩⟩
      · right
        obtain ⟨B, o, spot⟩ := a
        have hspot : spot = none := by
          obtain ⟨cs, c1, c2, _⟩ := hf 0 (by omega)
          obtain ⟨_, q2, q3⟩ := World.cells?_some c1
          have q4 := q3 0 hz
          rw [List.getElem?_eq_getElem (by omega)] at q4
          simpa [Addr.add] using World.cell?_spot q4
        subst hspot
        refine ⟨B, o, cap, ((held0 W B).drop o).take (len * z), rfl, hl, ?_, fun j x hj => ?_⟩
        · have key : ∀ k, k ≤ len → VRs (fzm (held0 W)) (((List.range k).map f).flatMap en) (((held0 W B).drop o).take (k * z)) := by
            intro k
            induction k with
            | zero => intro _; simp [VRs]
            | succ k ih =>
              intro hk
              have h1 := ih (by omega)
              obtain ⟨cs, c1, c2, _⟩ := hf k (by omega)
              obtain ⟨_, q2, q3⟩ := World.cells?_some c1
              have e : ((held0 W B).drop o).take ((k + 1) * z) = ((held0 W B).drop o).take (k * z) ++ cs := by
                rw [Nat.succ_mul, List.take_add]
                congr 1
                apply List.ext_getElem?
                intro r
                rw [List.drop_drop, List.getElem?_take]
                by_cases hr : r < z
                · rw [if_pos hr, List.getElem?_drop]
                  have q4 := q3 r hr
                  rw [List.getElem?_eq_getElem (show r < cs.length by omega)] at q4 ⊢
                  rw [add_plain, add_plain] at q4
                  have := held0_at.2 q4
                  rw [← this]
                · rw [if_neg hr, List.getElem?_eq_none (by omega)]
              rw [List.range_succ, List.map_append, List.flatMap_append, e]
              refine h1.append ?_
              simpa using c2
          exact key len (Nat.le_refl _)
        · rw [List.getElem?_take] at hj
          split at hj
          · rw [List.getElem?_drop] at hj
            exact hj
          · cases hj
    · have hi' : i < len := by omega
      obtain ⟨cs, _, _, q⟩ := hf i hi'
      refine ⟨D i, List.mem_map.2 ⟨i, List.mem_range.2 hi', rfl⟩, ?_⟩
      rw [List.getD_eq_getElem?_getD]
      simpa [hi'] using q
/-- a text that came in -/
theorem read_str (ρ : Map) (s : ByteArray) : VR ρ (sA s.data.toList) (.string s) := by
  unfold sA
  simp only [VR, bs]
  congr 1
  obtain ⟨⟨l⟩⟩ := s
  simp [List.map_map, Function.comp_def]
/-! ## it reads as before -/
theorem trodAll_carry {H : Type} {enc : TypeId × Value → H} {P : Program} {w w' : World} {base : Nat} {sp : Nat → Bool} {hd : Bool} : ∀ {ts : List TypeId} {vs : List Value} {ds : List (DataW H)} {ps : List MemPlace}, DataW.TrodAll enc P w base sp hd ts vs ds ps → (∀ p ∈ ps, w.sameAt w' p) → DataW.TrodAll enc P w' base sp hd ts vs ds ps
  | [], [], [], _, h, _ => h
  | _ :: _, _ :: _, _ :: _, _, ⟨p, q, ⟨n, h1⟩, h2, e⟩, hs => ⟨p, q, ⟨n, DataW.trod_carry n _ _ _ h1 fun x hx => hs x (by rw [e]; exact List.mem_append_left _ hx)⟩, trodAll_carry h2 (fun x hx => hs x (by rw [e]; exact List.mem_append_right _ hx)), e⟩
theorem ext_same {w w' : World} (h : ExtW w w') {p : MemPlace} (hp : p.block < w.heap.size) : w.sameAt w' p := by
  cases p with
  | cell b off =>
    show w'.cell? ⟨b, off, none⟩ = w.cell? ⟨b, off, none⟩
    unfold World.cell?
    rw [h.2 b hp]
  | map b => exact h.2 b hp
theorem ext_kept {w w' : World} (h : ExtW w w') (may : MemPlace → Prop) : w.keptBut w' may := by
  refine ⟨h.1.os, h.1.output, fun i hi => ?_⟩
  rw [h.2 i hi]
  cases w.heap[i]? with
  | none => rfl
  | some b => cases b <;> first | rfl | exact ⟨rfl, rfl, rfl, fun _ _ => rfl⟩ | exact .inr ⟨rfl, rfl⟩
/-- a contract, as a call -/
theorem KOk.calls {c : Ctx} (k : CtxOk c) {f : FuncId} {fn : Func} (hf : c.P.funcs[f]? = some fn) (hb : fn.body.isSome = true) {args : List AV} {v : AV} (hk : KOk c f args v) {W : World} {A : List Value} (hA : VRs (fzm (held0 W)) args A) : Calls c.P f A.toArray W fun e W' => ∃ z, e = .returned z ∧ ExtW W W' ∧ ∃ ρ, VR ρ v z := by
  obtain ⟨nx, w1, q1, q2⟩ := hk (held0 W) W A (held0_fz W) hA
  obtain ⟨bd, hbd⟩ := Option.isSome_iff_exists.1 hb
  have hnm : fn.name ≠ "runtime.NumGoroutine" := by simpa using k.names f fn hf
  have hcall : (callFunc f A.toArray).run c.P W = .ok (.enter f A.toArray) W := by simp [callFunc, hf, hnm, hbd]
  rw [hcall] at q1
  cases q1
  have q3 : CallsIn Fence.wide 0 c.P f A.toArray W (EndR _) := q2
  refine (callsIn_wide.1 q3).mono fun e w' r => ?_
  cases e with
  | returned z =>
    obtain ⟨g, F', _, _, _, hv⟩ := r
    exact ⟨z, rfl, g, fzm F', hv⟩
  | panicked ch => exact r.elim
  | outgrown => exact r.elim
end Go.Px
end
/- PxTu -/
section
set_option linter.unusedVariables false
namespace Go.Px
section
variable {c : Ctx} (k : CtxOk c) (kn : ∀ f, c.kn.get none f = none) {draw : DrawOk} (dc : DrawCalm draw) (dr : DrawSound c draw) {ext : Ext} (hx : ExtOk c ext) {lim : Nat}
include k kn dc dr hx
theorem app_ok : ∀ n, AppOk c (app c draw lim ext n) := by
  intro n
  induction n with
  | zero => intro t args h v h' he; cases he
  | succ n ih =>
    intro t args h v h' he ρ w A hr wf fr hA
    cases t with
    | f f =>
      have he' : (match known c f args with | some v => Ans.ok v h | none => callA c draw (app c draw lim ext n) lim ext f args h) = .ok v h' := he
      have hkn : known c f args = none := by unfold known; rw [kn f]
      rw [hkn] at he'
      exact callA_ok k dc dr hx ih he' hr wf fr hA
    | y l => exact fun B N hl => yieldA_ok k dc dr ih he hr wf fr hA hl
end
/-- does a run answer so -/
def answers (r : Ans) (b : Bool) : Bool := match r with | .ok v _ => (match v with | .bool x => (match x, b with | true, true => true | false, false => true | _, _ => false) | _ => false) | .bad _ => false
theorem answers_ok {r : Ans} {b : Bool} (h : answers r b = true) : ∃ h', r = .ok (.bool b) h' := by
  unfold answers at h
  split at h
  · split at h
    · rename_i x
      cases x <;> cases b <;> first | exact ⟨_, rfl⟩ | cases h
    · cases h
  · cases h
/-- BY A RUN: a contract -/
theorem KOk.run {c : Ctx} (k : CtxOk c) (kn : ∀ f, c.kn.get none f = none) (hm : c.P.follows .mixedOrders = true) (hg0 : ∀ i r, c.g0.get i ≠ .gl r) {ext : Ext} (hx : ExtOk c ext) {f : FuncId} {args : List AV} {v : AV} {lim n : Nat}
    (hrun : ∃ h', app c drawA lim ext n (.f f) args h0 = .ok v h') (hd : datB v = true) : KOk c f args v := by
  obtain ⟨h', hr⟩ := hrun
  intro F w A hF hA
  obtain ⟨nx, w1, q1, q2⟩ := app_ok k kn drawA_calm (drawA_sound k hm) hx n (.f f) args h0 v h' hr (fzm F) w A (empty_hr F w hF) empty_wf ⟨fun _ _ => rfl, fun i r e => absurd e (hg0 i r)⟩ hA
  exact ⟨nx, w1, q1, q2.mono fun z w' ⟨ρ', g, hz⟩ => ⟨⟨g.same, fun b hb => g.frame b hb (fun i N e => by cases e)⟩, ρ'.F, g.sub.F, (fun b hb => g.fold b hb (fun i N e => by cases e)), g.hr.fz, dat_ok v hd hz⟩⟩
end Go.Px
end
/- PxTv -/
section
set_option linter.unusedVariables false
namespace Go.Px
def inL (xs : List Nat) (f : Nat) : Bool := match xs with | [] => false | x :: r => (match Nat.beq x f with | true => true | false => inL r f)
theorem inL_mem : ∀ {xs : List Nat} {f : Nat}, inL xs f = true → f ∈ xs
  | [], _, h => by cases h
  | x :: r, f, h => by
    unfold inL at h
    split at h
    · rename_i q; rw [beqT q]; exact List.mem_cons_self
    · exact List.mem_cons_of_mem _ (inL_mem h)
def extC (xs : List Nat) : Ext := fun _ f _ args h => match inL xs f with
  | false => .bad ["extern"]
  | true => (match args with
    | [a, b] => (match a with
      | .str a => (match b with
        | .str b => .ok (.int .i64 (Lib.compareBytes (a.map UInt8.ofNat) (b.map UInt8.ofNat))) h
        | _ => .bad ["extern"])
      | _ => .bad ["extern"])
    | _ => .bad ["extern"])
theorem extC_ok {c : Ctx} {xs : List Nat} (H : ∀ f ∈ xs, ∃ fn, c.P.funcs[f]? = some fn ∧ (fn.name == "runtime.NumGoroutine") = false ∧ fn.body.isNone = true ∧ Extern.findNext fn = none ∧ Extern.find fn = some Extern.BytealgCompare.compare) : ExtOk c (extC xs) := by
  intro app ha f fn args h v h' he hP hb ρ w A hr wf fr hA
  unfold extC at he
  split at he
  · cases he
  · rename_i hin
    obtain ⟨fn', h0, h1, h2, h3, h4⟩ := H f (inL_mem hin)
    split at he
    · rename_i a b
      split at he
      · rename_i a
        split at he
        · rename_i b
          cases he
          simp only [VRs, VR] at hA
          obtain ⟨_, _, rfl, ⟨_, _, rfl, rfl, rfl⟩, rfl⟩ := hA
          refine ⟨_, w, by rw [run_callFunc_extern h0 h1 h2 h3 h4, Lib.run_compareString]; rfl, ?_⟩
          exact ⟨ρ, Good.refl hr wf, by simp only [VR, bs]⟩
        · cases he
      · cases he
    · cases he
end Go.Px
end
/- FxA -/
section
set_option linter.unusedVariables false
namespace Go.Px.Fx
open Go.Proofs
noncomputable def cF : Ctx := ctxG Try.prog h0
theorem cF_ok : CtxOk cF := ctxG_ok (by kernel_rfl)
def tbF : List (Nat × TE) := [(1, ⟨.func, 1, 8, .nilfn⟩),
  (2, ⟨.int .i64, 1, 8, .int .i64 0⟩),
  (3, ⟨.int .i64, 1, 8, .int .i64 0⟩),
  (4, ⟨.bool, 1, 1, .bool false⟩),
  (5, ⟨.int .u8, 1, 1, .int .u8 0⟩),
  (9, ⟨.str, 1, 16, .str []⟩),
  (23, ⟨.slice 29, 1, 24, .nilsl⟩),
  (24, ⟨.slice 50, 1, 24, .nilsl⟩),
  (25, ⟨.slice 9, 1, 24, .nilsl⟩),
  (29, ⟨.struct [(0, 3), (1, 2), (2, 9)], 3, 32, .agg [.int .i64 0, .int .i64 0, .str []]⟩),
  (31, ⟨.slice 41, 1, 24, .nilsl⟩),
  (41, ⟨.struct [(0, 3), (1, 9), (2, 24), (3, 9), (4, 31)], 5, 88, .agg [.int .i64 0, .str [], .nilsl, .str [], .nilsl]⟩),
  (48, ⟨.slice 4, 1, 24, .nilsl⟩),
  (50, ⟨.struct [(0, 9), (1, 29)], 4, 48, .agg [.str [], .int .i64 0, .int .i64 0, .str []]⟩),
  (65, ⟨.func, 1, 8, .nilfn⟩),
  (66, ⟨.func, 1, 8, .nilfn⟩),
  (69, ⟨.int .u64, 1, 8, .int .u64 0⟩),
  (80, ⟨.func, 1, 8, .nilfn⟩),
  (83, ⟨.slice 3, 1, 24, .nilsl⟩),
  (84, ⟨.func, 1, 8, .nilfn⟩)]
theorem eF : Env cF tbF := ⟨cF_ok, TbP.at_ (tb := tbF) ⟨⟨by kernel_rfl, by kernel_rfl, by kernel_rfl⟩, ⟨by kernel_rfl, by kernel_rfl, by kernel_rfl⟩, ⟨by kernel_rfl, by kernel_rfl, by kernel_rfl⟩, ⟨by kernel_rfl, by kernel_rfl, by kernel_rfl⟩, ⟨by kernel_rfl, by kernel_rfl, by kernel_rfl⟩, ⟨by kernel_rfl, by kernel_rfl, by kernel_rfl⟩, ⟨by kernel_rfl, by kernel_rfl, by kernel_rfl⟩, ⟨by kernel_rfl, by kernel_rfl, by kernel_rfl⟩, ⟨by kernel_rfl, by kernel_rfl, by kernel_rfl⟩, ⟨by kernel_rfl, by kernel_rfl, by kernel_rfl⟩, ⟨by kernel_rfl, by kernel_rfl, by kernel_rfl⟩, ⟨by kernel_rfl, by kernel_rfl, by kernel_rfl⟩, ⟨by kernel_rfl, by kernel_rfl, by kernel_rfl⟩, ⟨by kernel_rfl, by kernel_rfl, by kernel_rfl⟩, ⟨by kernel_rfl, by kernel_rfl, by kernel_rfl⟩, ⟨by kernel_rfl, by kernel_rfl, by kernel_rfl⟩, ⟨by kernel_rfl, by kernel_rfl, by kernel_rfl⟩, ⟨by kernel_rfl, by kernel_rfl, by kernel_rfl⟩, ⟨by kernel_rfl, by kernel_rfl, by kernel_rfl⟩, ⟨by kernel_rfl, by kernel_rfl, by kernel_rfl⟩, trivial⟩, fun i r q => by rw [show cF.g0.get i = .none from h0_get i] at q; cases q⟩
theorem _root_.Go.Px.Go.to {X : Cx} {sz : Nat} {rd : Option Nat} {k : List It} {L M : List (Nat × AV)} {h : Heap} {m : List Nat} {Q : Post} (g : Go X sz rd k M h m Q) (hs : SubL L M) : Go X sz rd k L h m Q := Go.sub hs g
theorem lt_succ_cases {j i : Nat} (h : j < i + 1) : j < i ∨ j = i := by omega
theorem hm : cF.P.follows .mixedOrders = true := by kernel_rfl
/-! ## data -/
structure Va where
  k : Int
  n : Int
  s : List UInt8
instance : Inhabited Va := ⟨⟨0, 0, []⟩⟩
/-- an argument: a variable, or a value -/
structure Ag where
  x : List UInt8
  v : Va
instance : Inhabited Ag := ⟨⟨[], default⟩⟩
def encI (n : Int) : List AV := [.int .i64 n]
def encS (s : List UInt8) : List AV := [sA s]
def encVa (v : Va) : List AV := [.int .i64 v.k, .int .i64 v.n, sA v.s]
def encAg (a : Ag) : List AV := [sA a.x, .int .i64 a.v.k, .int .i64 a.v.n, sA a.v.s]
/-- texts -/
def strsA (l : List (List UInt8)) : AV := dsl 1 encS l
/-- a row -/
def rowA (l : List Va) : AV := dsl 3 encVa l
def argsA (l : List Ag) : AV := dsl 4 encAg l
end Go.Px.Fx
end
/- FxB -/
section
set_option linter.unusedVariables false
set_option linter.unusedSimpArgs false
set_option maxHeartbeats 4000000
namespace Go.Px.Fx
open Go.Proofs
theorem k43 (n : Int) : KOk cF 54 [.int .i64 n] (.bool false) := by
  refine KOk.of cF_ok eF.g Try.func54 rfl (Nat.le_of_ble_eq_true rfl) fun w F => ?_
  repeat' first | refine Go.seq ?_ | refine Go.region rfl ?_ | refine Ops.nil ?_ | refine Ops.val eF rfl rfl (by first | exact Want.no rfl | exact Want.tT rfl rfl rfl rfl | exact Want.fF rfl rfl rfl rfl) (by first | exact Hop.move rfl rfl | exact Hop.assign rfl rfl | exact Hop.neq rfl rfl rfl) ?_ | refine Go.retF rfl ?_ rfl
  all_goals simp [one, ofV, ofV0, ← bd_dec, *]
theorem k50 (n : Int) : KOk cF 53 [.int .i64 n] (.bool false) := by
  refine KOk.of cF_ok eF.g Try.func53 rfl (Nat.le_of_ble_eq_true rfl) fun w F => ?_
  repeat' first | refine Go.seq ?_ | refine Go.region rfl ?_ | refine Ops.nil ?_ | refine Ops.val eF rfl rfl (by first | exact Want.no rfl | exact Want.tT rfl rfl rfl rfl | exact Want.fF rfl rfl rfl rfl) (by first | exact Hop.move rfl rfl | exact Hop.assign rfl rfl | exact Hop.neq rfl rfl rfl) ?_ | refine Go.retF rfl ?_ rfl
  all_goals simp [one, ofV, ofV0, ← bd_dec, *]
/-- how two numbers stand -/
def cmpI (a b : Int) : Int := if a < b then -1 else if b < a then 1 else 0
theorem k35 (a b : Int) : KOk cF 40 [.int .i64 a, .int .i64 b] (.int .i64 (cmpI a b)) := by
  refine KOk.of cF_ok eF.g Try.func40 rfl (Nat.le_of_ble_eq_true rfl) fun w F => ?_
  repeat' first | refine Go.seq ?_ | refine Go.region rfl ?_ | refine Ops.nil ?_ | refine Ops.val eF rfl rfl (by first | exact Want.no rfl | exact Want.tT rfl rfl rfl rfl | exact Want.fF rfl rfl rfl rfl) (by first | exact Hop.move rfl rfl | exact Hop.assign rfl rfl | exact Hop.lss rfl rfl rfl | exact Hop.gtr rfl rfl rfl) ?_ | refine Ops.call eF rfl rfl (by first | exact Want.no rfl | exact Want.tT rfl rfl rfl rfl | exact Want.fF rfl rfl rfl rfl) rfl rfl rfl rfl (k43 _) rfl ?_ | refine Go.condF rfl ?_ | refine Go.condPt rfl (fun _ => ?_) (fun _ => ?_) | refine Go.skip ?_ | refine Go.retF rfl ?_ rfl
  all_goals simp [one, ofV, ofV0, cmpI, *]
theorem k44 (a b : Int) : KOk cF 39 [.int .i64 a, .int .i64 b] (.int .i64 (cmpI a b)) := by
  refine KOk.of cF_ok eF.g Try.func39 rfl (Nat.le_of_ble_eq_true rfl) fun w F => ?_
  repeat' first | refine Go.seq ?_ | refine Go.region rfl ?_ | refine Ops.nil ?_ | refine Ops.val eF rfl rfl (by first | exact Want.no rfl | exact Want.tT rfl rfl rfl rfl | exact Want.fF rfl rfl rfl rfl) (by first | exact Hop.move rfl rfl | exact Hop.assign rfl rfl | exact Hop.lss rfl rfl rfl | exact Hop.gtr rfl rfl rfl) ?_ | refine Ops.call eF rfl rfl (by first | exact Want.no rfl | exact Want.tT rfl rfl rfl rfl | exact Want.fF rfl rfl rfl rfl) rfl rfl rfl rfl (k50 _) rfl ?_ | refine Go.condF rfl ?_ | refine Go.condPt rfl (fun _ => ?_) (fun _ => ?_) | refine Go.skip ?_ | refine Go.retF rfl ?_ rfl
  all_goals simp [one, ofV, ofV0, cmpI, *]


theorem f53 : Extern.find Try.f71 = some Extern.BytealgCompare.compare := by kernel_rfl
theorem k53 (a b : List UInt8) : KOk cF 71 [sA a, sA b] (.int .i64 (Lib.compareBytes a b)) :=
  KOk.cmp (fn := Try.f71) Try.func71 (by kernel_rfl) (by kernel_rfl) (by kernel_rfl) f53 a b
theorem k51 (a b : List UInt8) : KOk cF 55 [sA a, sA b] (.int .i64 (Lib.compareBytes a b)) := by
  refine KOk.of cF_ok eF.g Try.func55 rfl (Nat.le_of_ble_eq_true rfl) fun w F => ?_
  repeat' first | refine Go.seq ?_ | refine Go.region rfl ?_ | refine Ops.nil ?_ | refine Ops.val eF rfl rfl (by first | exact Want.no rfl | exact Want.tT rfl rfl rfl rfl | exact Want.fF rfl rfl rfl rfl) (by first | exact Hop.move rfl rfl | exact Hop.assign rfl rfl) ?_ | refine Ops.call eF rfl rfl (by first | exact Want.no rfl | exact Want.tT rfl rfl rfl rfl | exact Want.fF rfl rfl rfl rfl) rfl rfl rfl rfl (k53 _ _) rfl ?_ | refine Go.retF rfl ?_ rfl
  all_goals rfl
theorem k45 (a b : List UInt8) : KOk cF 41 [sA a, sA b] (.int .i64 (Lib.compareBytes a b)) := by
  refine KOk.of cF_ok eF.g Try.func41 rfl (Nat.le_of_ble_eq_true rfl) fun w F => ?_
  repeat' first | refine Go.seq ?_ | refine Go.region rfl ?_ | refine Ops.nil ?_ | refine Ops.val eF rfl rfl (by first | exact Want.no rfl | exact Want.tT rfl rfl rfl rfl | exact Want.fF rfl rfl rfl rfl) (by first | exact Hop.move rfl rfl | exact Hop.assign rfl rfl) ?_ | refine Ops.call eF rfl rfl (by first | exact Want.no rfl | exact Want.tT rfl rfl rfl rfl | exact Want.fF rfl rfl rfl rfl) rfl rfl rfl rfl (k51 _ _) rfl ?_ | refine Go.retF rfl ?_ rfl
  all_goals rfl
/-- the first that is not 0 -/
def orI : List Int → Int
  | [] => 0
  | x :: l => if x = 0 then orI l else x
theorem orI_at : ∀ {l : List Int} {i : Nat}, i < l.length → (∀ j, j < i → l.getD j default = 0) → l.getD i default ≠ 0 → orI l = l.getD i default
  | [], i, h, _, _ => by simp at h
  | x :: l, 0, _, _, h => by
    have h : x ≠ 0 := by simpa using h
    simp [orI, h]
  | x :: l, i + 1, h1, h2, h3 => by
    have hx : x = 0 := by simpa using h2 0 (by omega)
    have := orI_at (l := l) (i := i) (by simpa using h1) (fun j hj => by simpa using h2 (j + 1) (by omega)) (by simpa using h3)
    simp only [orI, hx, if_pos]
    rw [this]; rfl
theorem orI_0 : ∀ {l : List Int}, (∀ j, j < l.length → l.getD j default = 0) → orI l = 0
  | [], _ => rfl
  | x :: l, h => by
    have hx : x = 0 := by simpa using h 0 (by simp)
    simp only [orI, hx, if_pos]
    exact orI_0 fun j hj => by simpa using h (j + 1) (by simpa using hj)
theorem k34 (l : List Int) (hl : l.length ≤ 2000000) : KOk cF 38 [dsl 1 encI l] (.int .i64 (orI l)) := by
  refine KOk.of cF_ok eF.g Try.func38 rfl (Nat.le_of_ble_eq_true rfl) fun w F => ?_
  repeat' first | refine Go.seq ?_ | refine Go.region rfl ?_ | refine Ops.nil ?_ | refine Ops.val eF rfl rfl (by first | exact Want.no rfl | exact Want.tT rfl rfl rfl rfl | exact Want.fF rfl rfl rfl rfl) (by first | exact Hop.move rfl rfl | exact Hop.assign rfl rfl | exact Hop.lenD eF rfl rfl rfl rfl rfl rfl rfl) ?_ | refine Go.block ?_
  refine Go.loop (fun i : Nat => [(8, .int .i64 i), (7, .int .i64 l.length), (6, dsl 1 encI l), (3, .int .i64 0)]) (fun _ => hS) (fun i => i ≤ l.length ∧ ∀ j, j < i → l.getD j default = 0) (fun i => l.length - i) 0 ⟨by omega, fun j hj => by omega⟩ ⟨rfl, rfl, rfl, rfl, trivial⟩ rfl (fun i hP ih => ?_)
  obtain ⟨hi, hn⟩ := hP
  repeat' first | refine Go.seq ?_ | refine Go.region rfl ?_ | refine Ops.nil ?_ | refine Ops.val eF rfl rfl (by first | exact Want.no rfl | exact Want.tT rfl rfl rfl rfl | exact Want.fF rfl rfl rfl rfl) (by first | exact Hop.move rfl rfl | exact Hop.assign rfl rfl | exact Hop.lss rfl rfl rfl | exact Hop.neq rfl rfl rfl | exact Hop.add rfl rfl rfl (by omega) | exact Hop.idx eF rfl rfl rfl rfl rfl rfl rfl (fun _ => rfl) (by omega) | exact Hop.ldR eF rfl rfl rfl rfl rfl) ?_ | refine Go.condPt rfl (fun _ => ?_) (fun _ => ?_) | refine Go.condNt rfl (fun _ => ?_) (fun _ => ?_) | refine Go.block ?_ | refine Go.unblk ?_ | refine Go.skip ?_ | refine Go.exit rfl ?_ | refine Go.retF rfl ?_ rfl
  all_goals try simp only [Int.toNat_natCast] at *
  · rw [orI_at (i := i) (by omega) hn (by assumption)]; rfl
  · refine Go.to (ih (i + 1) ⟨by omega, fun j hj => ?_⟩ (by omega)) ⟨rfl, rfl, rfl, rfl, trivial⟩
    rcases lt_succ_cases hj with h | rfl
    · exact hn j h
    · assumption
  · rw [orI_0 (fun j hj => hn j (by omega))]; rfl
/-- a byte, as a number -/
def byt (s : List UInt8) (i : Nat) : Int := ((s.getD i 0).toNat : Int)
/-- how two values stand -/
noncomputable def cmpVa (a b : Va) : Int := orI [cmpI a.k b.k, cmpI a.n b.n, Lib.compareBytes a.s b.s]
theorem cmpB_at : ∀ {a b : List UInt8} {i : Nat}, i < a.length → i < b.length → (∀ j, j < i → a.getD j 0 = b.getD j 0) →
    Lib.compareBytes a b = if a.getD i 0 < b.getD i 0 then -1 else if b.getD i 0 < a.getD i 0 then 1 else Lib.compareBytes (a.drop (i + 1)) (b.drop (i + 1))
  | [], _, _, h, _, _ => by simp at h
  | _ :: _, [], _, _, h, _ => by simp at h
  | x :: a, y :: b, 0, _, _, _ => by simp [Lib.compareBytes]
  | x :: a, y :: b, i + 1, h1, h2, h3 => by
    have hx : x = y := by simpa using h3 0 (by omega)
    subst hx
    have := cmpB_at (a := a) (b := b) (i := i) (by simpa using h1) (by simpa using h2) (fun j hj => by simpa using h3 (j + 1) (by omega))
    simp only [Lib.compareBytes, List.getD_cons_succ, List.drop_succ_cons]
    rw [if_neg (by simp [UInt8.lt_irrefl]), if_neg (by simp [UInt8.lt_irrefl]), this]
theorem cmpB_end : ∀ {a b : List UInt8}, (∀ j, j < a.length → j < b.length → a.getD j 0 = b.getD j 0) → Lib.compareBytes a b = if a.length < b.length then -1 else if b.length < a.length then 1 else 0
  | [], [], _ => by simp [Lib.compareBytes]
  | [], _ :: _, _ => by simp [Lib.compareBytes]
  | _ :: _, [], _ => by simp [Lib.compareBytes]
  | x :: a, y :: b, h => by
    have hx : x = y := by simpa using h 0 (by simp) (by simp)
    subst hx
    have := cmpB_end (a := a) (b := b) (fun j h1 h2 => by simpa using h (j + 1) (by simpa using h1) (by simpa using h2))
    simp only [Lib.compareBytes, List.length_cons]
    rw [if_neg (by simp [UInt8.lt_irrefl]), if_neg (by simp [UInt8.lt_irrefl]), this]
    simp
theorem byt_lt {a b : List UInt8} {i : Nat} : byt a i < byt b i ↔ a.getD i 0 < b.getD i 0 := by
  unfold byt
  rw [UInt8.lt_iff_toNat_lt]; omega
theorem byt_eq {a b : List UInt8} {i : Nat} (h1 : ¬ byt a i < byt b i) (h2 : ¬ byt b i < byt a i) : a.getD i 0 = b.getD i 0 := by
  apply UInt8.toNat_inj.1
  unfold byt at h1 h2; omega
theorem orI3 (x y z : Int) : orI [x, y, z] = if x = 0 then (if y = 0 then z else y) else x := by
  simp only [orI]
  by_cases h : z = 0 <;> simp [h]
noncomputable def r19_0 : List Oper := ((drawn (Try.f19.body.getD .skip))[0]?).getD []
theorem dr19_0 : chkOrd cF r19_0 [0, 1, 2, 3, 4, 5, 6, 7, 8] = true := by kernel_rfl
noncomputable def r19_1 : List Oper := ((drawn (Try.f19.body.getD .skip))[1]?).getD []
theorem dr19_1 : chkOrd cF r19_1 [0, 1, 2, 3, 4, 5, 6, 7, 8] = true := by kernel_rfl
theorem k30 (a b : Va) (ha : a.s.length ≤ 2000000) (hb : b.s.length ≤ 2000000) : KOk cF 19 [.agg (encVa a), .agg (encVa b)] (.int .i64 (cmpVa a b)) := by
  refine KOk.of cF_ok eF.g Try.func19 rfl (Nat.le_of_ble_eq_true rfl) fun w F => ?_
  unfold cmpVa
  rw [orI3]
  repeat' first | refine Go.seq ?_ | refine Go.region rfl ?_ | refine Ops.nil ?_ | refine Ops.val eF rfl rfl (by first | exact Want.no rfl | exact Want.tT rfl rfl rfl rfl | exact Want.fF rfl rfl rfl rfl) (by first | exact Hop.assign rfl rfl | exact Hop.lss rfl rfl rfl | exact Hop.gtr rfl rfl rfl | exact Hop.faR eF rfl rfl rfl rfl rfl rfl rfl | exact Hop.ldR eF rfl rfl rfl rfl rfl) ?_ | refine Ops.boxR eF rfl rfl (by first | exact Want.no rfl | exact Want.tT rfl rfl rfl rfl | exact Want.fF rfl rfl rfl rfl) rfl rfl rfl rfl ?_ | refine Go.condPt rfl (fun _ => ?_) (fun _ => ?_) | refine Go.block ?_ | refine Go.skip ?_ | refine Go.retF rfl ?_ rfl
  · simp [one, ofV, ofV0, cmpI, *]
  · simp [one, ofV, ofV0, cmpI, *]
  · simp [one, ofV, ofV0, cmpI, *]
  · simp [one, ofV, ofV0, cmpI, *]
  rename_i h1 h2 h3 h4
  have hk : cmpI a.k b.k = 0 := by simp [cmpI, *]
  have hn : cmpI a.n b.n = 0 := by simp [cmpI, *]
  rw [if_pos hk, if_pos hn]
  refine Go.loop (fun i : Nat => [(2, .rptr (encVa a)), (3, .rptr (encVa b)), (5, .int .i64 i)]) (fun _ => hS) (fun i => i ≤ a.s.length ∧ i ≤ b.s.length ∧ ∀ j, j < i → a.s.getD j 0 = b.s.getD j 0) (fun i => a.s.length - i) 0 ⟨by omega, by omega, fun j hj => by omega⟩ ⟨rfl, rfl, rfl, trivial⟩ rfl (fun i hP ih => ?_)
  obtain ⟨hia, hib, hq⟩ := hP
  repeat' first | refine Go.seq ?_ | refine Go.region rfl ?_ | refine Ops.nil ?_ | refine Ops.val eF rfl rfl (by first | exact Want.no rfl | exact Want.tT rfl rfl rfl rfl | exact Want.fF rfl rfl rfl rfl) (by first | exact Hop.move rfl rfl | exact Hop.assign rfl rfl | exact Hop.pickT rfl rfl rfl | exact Hop.pickF rfl rfl rfl | exact Hop.lss rfl rfl rfl | exact Hop.gtr rfl rfl rfl | exact Hop.faR eF rfl rfl rfl rfl rfl rfl rfl | exact Hop.ldR eF rfl rfl rfl rfl rfl | exact Hop.lenS eF rfl rfl rfl rfl rfl rfl rfl) ?_ | refine Ops.skip rfl rfl (by first | exact Want.fT rfl rfl rfl rfl | exact Want.tF rfl rfl rfl rfl | exact Want.und rfl rfl rfl rfl) ?_ | refine Ops.gP rfl rfl (fun _ => ?_) (fun _ => ?_) | refine Go.condF rfl ?_ | refine Go.condPt rfl (fun _ => ?_) (fun _ => ?_) | refine Go.block ?_ | refine Go.skip ?_ | refine Go.exit rfl ?_ | refine Go.retF rfl ?_ rfl
  · refine Go.draw eF hm [] [0, 1, 2, 3, 4, 5, 6, 7, 8] dr19_0 ?_
    repeat' first | refine Dr.nil ?_ | refine Dr.pure rfl rfl rfl rfl (by first | exact Want.no rfl | exact Want.tT rfl rfl rfl rfl | exact Want.fF rfl rfl rfl rfl) (by first | exact Hop.move rfl rfl | exact Hop.lss rfl rfl rfl | exact Hop.faR eF rfl rfl rfl rfl rfl rfl rfl | exact Hop.sidx eF rfl rfl rfl rfl rfl (by omega) | exact Hop.ldR eF rfl rfl rfl rfl rfl) ?_ | refine Dr.light rfl rfl rfl rfl (by first | exact Want.no rfl | exact Want.tT rfl rfl rfl rfl | exact Want.fF rfl rfl rfl rfl) (by first | exact Hop.ldR eF rfl rfl rfl rfl rfl) ?_
    repeat' first | refine Go.seq ?_ | refine Go.region rfl ?_ | refine Ops.nil ?_ | refine Ops.val eF rfl rfl (by first | exact Want.no rfl | exact Want.tT rfl rfl rfl rfl | exact Want.fF rfl rfl rfl rfl) (by first | exact Hop.assign rfl rfl) ?_ | refine Go.condPt rfl (fun _ => ?_) (fun _ => ?_) | refine Go.skip ?_ | refine Go.retF rfl ?_ rfl
    · rename_i q1 q2 q3
      have q3 : byt a.s i < byt b.s i := q3
      rw [cmpB_at (i := i) (by omega) (by omega) hq, if_pos (byt_lt.1 q3)]; rfl
    · refine Go.draw eF hm [] [0, 1, 2, 3, 4, 5, 6, 7, 8] dr19_1 ?_
      repeat' first | refine Dr.nil ?_ | refine Dr.pure rfl rfl rfl rfl (by first | exact Want.no rfl | exact Want.tT rfl rfl rfl rfl | exact Want.fF rfl rfl rfl rfl) (by first | exact Hop.move rfl rfl | exact Hop.gtr rfl rfl rfl | exact Hop.faR eF rfl rfl rfl rfl rfl rfl rfl | exact Hop.sidx eF rfl rfl rfl rfl rfl (by omega) | exact Hop.ldR eF rfl rfl rfl rfl rfl) ?_ | refine Dr.light rfl rfl rfl rfl (by first | exact Want.no rfl | exact Want.tT rfl rfl rfl rfl | exact Want.fF rfl rfl rfl rfl) (by first | exact Hop.ldR eF rfl rfl rfl rfl rfl) ?_
      repeat' first | refine Go.seq ?_ | refine Go.region rfl ?_ | refine Ops.nil ?_ | refine Ops.val eF rfl rfl (by first | exact Want.no rfl | exact Want.tT rfl rfl rfl rfl | exact Want.fF rfl rfl rfl rfl) (by first | exact Hop.move rfl rfl | exact Hop.assign rfl rfl | exact Hop.add rfl rfl rfl (by omega)) ?_ | refine Go.condPt rfl (fun _ => ?_) (fun _ => ?_) | refine Go.unblk ?_ | refine Go.skip ?_ | refine Go.retF rfl ?_ rfl
      · rename_i q1 q2 q3 q4
        have q3 : ¬ byt a.s i < byt b.s i := q3
        have q4 : byt b.s i < byt a.s i := q4
        rw [cmpB_at (i := i) (by omega) (by omega) hq, if_neg (fun h => q3 (byt_lt.2 h)), if_pos (byt_lt.1 q4)]; rfl
      · rename_i q1 q2 q3 q4
        refine Go.to (ih (i + 1) ⟨by omega, by omega, fun j hj => ?_⟩ (by omega)) ⟨rfl, rfl, rfl, trivial⟩
        rcases lt_succ_cases hj with h | rfl
        · exact hq j h
        · exact byt_eq q3 q4
  all_goals
    rw [cmpB_end (fun j h1 h2 => hq j (by omega))]
    first
      | (rw [if_pos (by omega)]; rfl)
      | (rw [if_neg (by omega), if_pos (by omega)]; rfl)
      | (rw [if_neg (by omega), if_neg (by omega)]; rfl)
theorem sA_eq {a b : List UInt8} (h : sA a = sA b) : a = b := by
  unfold sA at h
  have h : a.map UInt8.toNat = b.map UInt8.toNat := by injection h
  exact List.map_inj_right (fun x y q => UInt8.toNat_inj.1 q) |>.1 h
theorem int_eq {k : IntKind} {a b : Int} (h : AV.int k a = AV.int k b) : a = b := by injection h
theorem cons_eq {a b : AV} {l m : List AV} (h : a :: l = b :: m) : a = b ∧ l = m := by injection h with h1 h2; exact ⟨h1, h2⟩
theorem agg_eq {l m : List AV} (h : AV.agg l = AV.agg m) : l = m := by injection h
theorem encVa_eq {a b : Va} (h : encVa a = encVa b) : a = b := by
  obtain ⟨k, n, s⟩ := a; obtain ⟨k', n', s'⟩ := b
  obtain ⟨h1, h⟩ := cons_eq h
  obtain ⟨h2, h⟩ := cons_eq h
  obtain ⟨h3, h⟩ := cons_eq h
  have h1 := int_eq h1; have h2 := int_eq h2; have h3 := sA_eq h3
  subst h1; subst h2; subst h3; rfl
theorem pair_eq {x y u v : AV} (h : [x, y] = [u, v]) : x = u ∧ y = v := by
  obtain ⟨h1, h⟩ := cons_eq h
  exact ⟨h1, (cons_eq h).1⟩
noncomputable def n44 : Ent cF := ⟨39, Int × Int, fun p => [.int .i64 p.1, .int .i64 p.2], fun p => .int .i64 (cmpI p.1 p.2), fun p => k44 _ _, fun _ => rfl, fun a b h => by
  have h := pair_eq h; rw [int_eq h.1, int_eq h.2]⟩
noncomputable def n35 : Ent cF := ⟨40, Int × Int, fun p => [.int .i64 p.1, .int .i64 p.2], fun p => .int .i64 (cmpI p.1 p.2), fun p => k35 _ _, fun _ => rfl, fun a b h => by
  have h := pair_eq h; rw [int_eq h.1, int_eq h.2]⟩
noncomputable def n45 : Ent cF := ⟨41, List UInt8 × List UInt8, fun p => [sA p.1, sA p.2], fun p => .int .i64 (Lib.compareBytes p.1 p.2), fun p => k45 _ _, fun _ => rfl, fun a b h => by
  have h := pair_eq h; rw [sA_eq h.1, sA_eq h.2]⟩
noncomputable def r17_0 : List Oper := ((drawn (Try.f17.body.getD .skip))[0]?).getD []
theorem drS17_0 : chkOrdS cF r17_0 15 = true := by kernel_rfl
theorem k36 (a b : Va) : KOk cF 17 [.agg (encVa a), .agg (encVa b)] (.int .i64 (cmpVa a b)) := by
  refine KOk.of cF_ok eF.g Try.func17 rfl (Nat.le_of_ble_eq_true rfl) fun w F => ?_
  unfold cmpVa
  repeat' first | refine Go.seq ?_ | refine Go.region rfl ?_ | refine Ops.nil ?_ | refine Ops.val eF rfl rfl (by first | exact Want.no rfl | exact Want.tT rfl rfl rfl rfl | exact Want.fF rfl rfl rfl rfl) (by first | exact Hop.assign rfl rfl) ?_ | refine Ops.boxR eF rfl rfl (by first | exact Want.no rfl | exact Want.tT rfl rfl rfl rfl | exact Want.fF rfl rfl rfl rfl) rfl rfl rfl rfl ?_
  refine Go.drawS2 eF hm [n44, n35, n45] 15 [0, 1, 2, 3, 4, 5, 6, 7, 8, 9, 10, 11, 12, 13, 14] rfl drS17_0 ?_
  repeat' first | refine Dr.nil ?_ | refine Dr.pure rfl rfl rfl rfl (by first | exact Want.no rfl | exact Want.tT rfl rfl rfl rfl | exact Want.fF rfl rfl rfl rfl) (by first | exact Hop.faR eF rfl rfl rfl rfl rfl rfl rfl | exact Hop.ldR eF rfl rfl rfl rfl rfl) ?_ | refine Dr.light rfl rfl rfl rfl (by first | exact Want.no rfl | exact Want.tT rfl rfl rfl rfl | exact Want.fF rfl rfl rfl rfl) (by first | exact Hop.ldR eF rfl rfl rfl rfl rfl) ?_ | refine Dr.call rfl rfl rfl rfl (by first | exact Want.no rfl | exact Want.tT rfl rfl rfl rfl | exact Want.fF rfl rfl rfl rfl) rfl rfl rfl rfl (by first | exact pans_hd (_, _) rfl rfl | exact pans_tl rfl (pans_hd (_, _) rfl rfl) | exact pans_tl rfl (pans_tl rfl (pans_hd (_, _) rfl rfl))) ?_
  all_goals refine Go.suf rfl ?_
  repeat' first | refine Ops.nil ?_ | refine Ops.val eF rfl rfl (by first | exact Want.no rfl | exact Want.tT rfl rfl rfl rfl | exact Want.fF rfl rfl rfl rfl) (by first | exact Hop.assign rfl rfl) ?_ | refine Ops.call eF rfl rfl (by first | exact Want.no rfl | exact Want.tT rfl rfl rfl rfl | exact Want.fF rfl rfl rfl rfl) rfl rfl rfl rfl (k34 [_, _, _] (by simp)) rfl ?_ | refine Ops.data eF rfl rfl (by first | exact Want.no rfl | exact Want.tT rfl rfl rfl rfl | exact Want.fF rfl rfl rfl rfl) rfl (Hop.bslice eF rfl rfl rfl rfl rfl rfl rfl rfl rfl rfl rfl) rfl rfl ?_ | refine Go.retF rfl ?_ rfl
  rfl
noncomputable def n36 : Ent cF := ⟨17, Va × Va, fun p => [.agg (encVa p.1), .agg (encVa p.2)], fun p => .int .i64 (cmpVa p.1 p.2), fun p => k36 _ _, fun _ => rfl, fun a b h => by
  have h := pair_eq h; rw [encVa_eq (agg_eq h.1), encVa_eq (agg_eq h.2)]⟩
end Go.Px.Fx
end
/- PxTw -/
section
set_option linter.unusedVariables false
set_option linter.unusedSimpArgs false
namespace Go.Px
section
variable {X : Cx} {sz : Nat} {rd : Option Nat} {s : St}
theorem OpT.callC (k : CtxOk X.c) {o : Oper} {cl : Call} {f : Operand} {g : FuncId} {first cap vs : List AV} {v : AV} {K : AV → St → Prop} (ho : o.op = .call cl) (hc : cl.callee = .value f) (hf : ev s.e f = .fn (.func g) first cap)
    (hv : cl.args.toList.map (ev s.e) = vs) (hd : datsB (first ++ vs ++ cap) = true) (hk : KOk X.c g (first ++ vs ++ cap) v) (hK : K v s) : OpT X sz rd o s K := fun ro ρ w a next Q' h1 h2 h3 h4 h5 => by
  refine ⟨fun _ _ => trivial, ?_⟩
  rw [show (wideR ro).round = ro from rfl, Oper.semAt_eq ro a.eval o (by rw [ho]; intro d q; cases q)]
  have hfv := ev_ok h3 f
  rw [hf] at hfv
  simp only [VR, FR] at hfv
  obtain ⟨f', F, C, e1, e2, e3, e4⟩ := hfv
  subst e1
  have hargs := evs_ok h3 cl.args.toList
  rw [hv] at hargs
  have hA := VRs.append (VRs.append e2 hargs) e3
  obtain ⟨nx, w1, q1, q2⟩ := hk ρ.F w (F ++ cl.args.toList.map a.eval ++ C) h2.hr.fz (dats_ok _ hd hA)
  have hrun : (execOp a.eval o).run X.c.P w = .ok nx w1 := by
    rw [← q1]
    simp only [execOp, ho, resolve, hc, e4, Deferred.ofValue, Sem.run_bind, Sem.run_pure, Result.andThen_ok, invoke]
    congr 2
    apply Array.ext'; simp
  rw [hrun]
  refine uponIn_of_next q2 fun z w' ⟨x, F', f1, f2, f3, f4⟩ => ?_
  have hs : Sub ρ ⟨ρ.m, F', ρ.V⟩ := ⟨fun _ _ e => e, f1, fun _ _ _ e => e⟩
  refine h5 v s z w' ⟨ρ.m, F', ρ.V⟩ hK (h1.mono hs) (h2.frz x f1 f2 f3) (h3.mono hs) (h4.mono hs) ?_
  exact VR.mono (ρ := fzm F') (σ := ⟨ρ.m, F', ρ.V⟩) ⟨(fun _ _ e => by cases e), fun _ _ _ e => e, (fun _ _ _ e => by cases e)⟩ v f4
end
/-- A CALL OF A FUNCTION VALUE that holds data, by a contract -/
theorem Ops.callC {X : Cx} {tb : List (Nat × TE)} (E : Env X.c tb) {sz : Nat} {rd : Option Nat} {all : Array Oper} {o : Oper} {rest : List Oper} {k : List It} {L : List (Nat × AV)} {h : Heap} {m : List Nat} {Q : Post}
    {d : Nat} {v : AV} {cl : Call} {f : Operand} {g : FuncId} {first cap vs : List AV} (hd : o.dst = some d) (hs : Nat.ble (d + 1) sz = true) (hw : Want all L o true) (ho : o.op = .call cl) (hc : cl.callee = .value f) (hf : evL L f = some (.fn (.func g) first cap))
    (hv : evsL L cl.args.toList = some vs) (hk : KOk X.c g (first ++ vs ++ cap) v) (hdt : datsB (first ++ vs ++ cap) = true) (n : Ops X sz rd all rest k ((d, v) :: L) h m Q) : Ops X sz rd all (o :: rest) k L h m Q := ⟨fun e he =>
  TriOps.cons (hw e he) (OpT.callC E.k ho hc (he.ev hf) (he.evs hv) hdt hk ⟨e.set und d v, by rw [hd]; exact setD_some hs, n.run _ (he.set d v)⟩)⟩

/-- A BYTE LOOKED FOR, by what stands below the program. -/
theorem KOk.idx {c : Ctx} {f : FuncId} {fn : Func} (hf : c.P.funcs[f]? = some fn) (h1 : (fn.name == "runtime.NumGoroutine") = false) (hb : fn.body.isNone = true) (hn : Extern.findNext fn = none) (he : Extern.find fn = some Extern.BytealgIndexByte.indexByte) (s : List UInt8) (b : Int) : KOk c f [sA s, .int .u8 b] (.int .i64 (Lib.indexByte s (UInt8.ofNat b.toNat))) := fun F w A hF hA => by
  simp only [sA, VRs, VR] at hA
  obtain ⟨_, _, rfl, ⟨_, _, rfl, rfl, rfl⟩, rfl⟩ := hA
  have hbs : ∀ l : List UInt8, (bs (l.map UInt8.toNat)).data.toList = l := fun l => by
    simp only [bs]
    rw [List.map_map]
    have : (UInt8.ofNat ∘ UInt8.toNat) = id := by funext x; simp
    rw [this, List.map_id]
  refine ⟨_, w, by rw [run_callFunc_extern hf h1 hb hn he, Lib.run_indexByteString, hbs]; rfl, ?_⟩
  exact ⟨ExtW.refl w, F, fun _ _ _ e => e, fun _ _ => rfl, hF, by simp only [VR]⟩
end Go.Px
end
/- FxC -/
section
set_option linter.unusedVariables false
set_option linter.unusedSimpArgs false
set_option maxHeartbeats 4000000
namespace Go.Px.Fx
open Go.Proofs
attribute [local irreducible] Go.Px.KOk
def tru : List UInt8 := [116, 114, 117, 101]
def fls : List UInt8 := [102, 97, 108, 115, 101]
def syms : List UInt8 := [63, 95, 43, 45, 42, 47, 60, 62, 61, 33, 46, 37, 38]
def sgns : List UInt8 := [43, 45, 33]
def DigAt (s : List UInt8) (i : Nat) : Prop := i < s.length ∧ 48 ≤ byt s i ∧ byt s i ≤ 57
def OkC (s : List UInt8) (i : Nat) : Prop := (97 ≤ byt s i ∧ byt s i ≤ 122) ∨ DigAt s i ∨ 0 ≤ Lib.indexByte syms (s.getD i 0)
/-- is it a name -/
def NamedP (s : List UInt8) : Prop := (1 ≤ s.length ∧ s.length ≤ 64 ∧ s ≠ tru ∧ s ≠ fls) ∧ (∀ i, i < s.length → OkC s i) ∧ ¬ DigAt s 0 ∧ (Lib.indexByte sgns (s.getD 0 0) < 0 ∨ ¬ DigAt s 1)
theorem f80 : Extern.find Try.f80 = some Extern.BytealgIndexByte.indexByte := by kernel_rfl
theorem k80 (s : List UInt8) (b : Int) : KOk cF 80 [sA s, .int .u8 b] (.int .i64 (Lib.indexByte s (UInt8.ofNat b.toNat))) :=
  KOk.idx (fn := Try.f80) Try.func80 (by kernel_rfl) (by kernel_rfl) (by kernel_rfl) f80 s b
theorem k73 (s : List UInt8) (b : Int) : KOk cF 73 [sA s, .int .u8 b] (.int .i64 (Lib.indexByte s (UInt8.ofNat b.toNat))) := by
  refine KOk.of cF_ok eF.g Try.func73 rfl (Nat.le_of_ble_eq_true rfl) fun w F => ?_
  repeat' first | refine Go.seq ?_ | refine Go.region rfl ?_ | refine Ops.nil ?_ | refine Ops.val eF rfl rfl (by first | exact Want.no rfl | exact Want.tT rfl rfl rfl rfl | exact Want.fF rfl rfl rfl rfl) (by first | exact Hop.move rfl rfl | exact Hop.assign rfl rfl) ?_ | refine Ops.call eF rfl rfl (by first | exact Want.no rfl | exact Want.tT rfl rfl rfl rfl | exact Want.fF rfl rfl rfl rfl) rfl rfl rfl rfl (k80 _ _) rfl ?_ | refine Go.retF rfl ?_ rfl
  all_goals rfl
theorem k60 (s : List UInt8) (b : Int) : KOk cF 60 [sA s, .int .u8 b] (.int .i64 (Lib.indexByte s (UInt8.ofNat b.toNat))) := by
  refine KOk.of cF_ok eF.g Try.func60 rfl (Nat.le_of_ble_eq_true rfl) fun w F => ?_
  repeat' first | refine Go.seq ?_ | refine Go.region rfl ?_ | refine Ops.nil ?_ | refine Ops.val eF rfl rfl (by first | exact Want.no rfl | exact Want.tT rfl rfl rfl rfl | exact Want.fF rfl rfl rfl rfl) (by first | exact Hop.move rfl rfl | exact Hop.assign rfl rfl) ?_ | refine Ops.call eF rfl rfl (by first | exact Want.no rfl | exact Want.tT rfl rfl rfl rfl | exact Want.fF rfl rfl rfl rfl) rfl rfl rfl rfl (k73 _ _) rfl ?_ | refine Go.retF rfl ?_ rfl
  all_goals rfl
theorem k59 (s : List UInt8) (i : Nat) (hs : s.length ≤ 2000000) (hi : i ≤ 2000000) : KOk cF 59 [.int .i64 i, .rptr [sA s]] (.bool (bd (DigAt s i))) := by
  refine KOk.of cF_ok eF.g Try.func59 rfl (Nat.le_of_ble_eq_true rfl) fun w F => ?_
  repeat' first | refine Go.seq ?_ | refine Go.region rfl ?_ | refine Ops.nil ?_ | refine Ops.val eF rfl rfl (by first | exact Want.no rfl | exact Want.tT rfl rfl rfl rfl | exact Want.fF rfl rfl rfl rfl) (by first | exact Hop.move rfl rfl | exact Hop.assign rfl rfl | exact Hop.pickT rfl rfl rfl | exact Hop.pickF rfl rfl rfl | exact Hop.lss rfl rfl rfl | exact Hop.leq rfl rfl rfl | exact Hop.geq rfl rfl rfl | exact Hop.sidx eF rfl rfl rfl rfl rfl (by omega) | exact Hop.ldR eF rfl rfl rfl rfl rfl | exact Hop.lenS eF rfl rfl rfl rfl rfl rfl rfl) ?_ | refine Ops.skip rfl rfl (by first | exact Want.fT rfl rfl rfl rfl | exact Want.tF rfl rfl rfl rfl | exact Want.und rfl rfl rfl rfl) ?_ | refine Ops.gP rfl rfl (fun _ => ?_) (fun _ => ?_) | refine Go.retF rfl ?_ rfl
  all_goals try simp only [Int.toNat_natCast] at *
  all_goals first
    | exact out_f (by unfold DigAt byt; omega)
    | exact out_e (by unfold DigAt byt; omega)
end Go.Px.Fx
end
/- FxD -/
section
set_option linter.unusedVariables false
set_option linter.unusedSimpArgs false
set_option maxHeartbeats 4000000
namespace Go.Px.Fx
open Go.Proofs
attribute [local irreducible] Go.Px.KOk
theorem k49 (s : List UInt8) (hs : s.length ≤ 2000000) : KOk cF 49 [sA s] (.bool (bd (NamedP s))) := by
  have d0 : KOk cF 59 [.int .i64 0, .rptr [sA s]] (.bool (bd (DigAt s 0))) := k59 s 0 hs (by omega)
  have d1 : KOk cF 59 [.int .i64 1, .rptr [sA s]] (.bool (bd (DigAt s 1))) := k59 s 1 hs (by omega)
  refine KOk.of cF_ok eF.g Try.func49 rfl (Nat.le_of_ble_eq_true rfl) fun w F => ?_
  repeat' first | refine Go.seq ?_ | refine Go.region rfl ?_ | refine Ops.nil ?_ | refine Ops.val eF rfl rfl (by first | exact Want.no rfl | exact Want.tT rfl rfl rfl rfl | exact Want.fF rfl rfl rfl rfl) (Hop.eqS (b := tru) rfl rfl rfl) ?_ | refine Ops.val eF rfl rfl (by first | exact Want.no rfl | exact Want.tT rfl rfl rfl rfl | exact Want.fF rfl rfl rfl rfl) (Hop.eqS (b := fls) rfl rfl rfl) ?_ | refine Ops.val eF rfl rfl (by first | exact Want.no rfl | exact Want.tT rfl rfl rfl rfl | exact Want.fF rfl rfl rfl rfl) (by first | exact Hop.move rfl rfl | exact Hop.assign rfl rfl | exact Hop.pickT rfl rfl rfl | exact Hop.pickF rfl rfl rfl | exact Hop.lss rfl rfl rfl | exact Hop.gtr rfl rfl rfl | exact Hop.ldR eF rfl rfl rfl rfl rfl | exact Hop.lenS eF rfl rfl rfl rfl rfl rfl rfl | exact Hop.makeFunc rfl rfl rfl) ?_ | refine Ops.skip rfl rfl (by first | exact Want.fT rfl rfl rfl rfl | exact Want.tF rfl rfl rfl rfl | exact Want.und rfl rfl rfl rfl) ?_ | refine Ops.gP rfl rfl (fun _ => ?_) (fun _ => ?_) | refine Ops.boxR eF rfl rfl (by first | exact Want.no rfl | exact Want.tT rfl rfl rfl rfl | exact Want.fF rfl rfl rfl rfl) rfl rfl rfl rfl ?_ | refine Go.condT rfl ?_ | refine Go.condPt rfl (fun _ => ?_) (fun _ => ?_) | refine Go.block ?_ | refine Go.skip ?_ | refine Go.retF rfl ?_ rfl
  all_goals try exact out_f (by unfold NamedP; first | omega | (intro h; obtain ⟨⟨h1, h2, h3, h4⟩, _⟩ := h; first | omega | contradiction))
  refine Go.loop (fun i : Nat => [(1, .rptr [sA s]), (3, .fn (.func 59) [] [.rptr [sA s]]), (23, .int .i64 s.length), (24, .int .i64 i)]) (fun _ => hS) (fun i => i ≤ s.length ∧ ∀ j, j < i → OkC s j) (fun i => s.length - i) 0 ⟨by omega, fun j hj => by omega⟩ ⟨rfl, rfl, rfl, rfl, trivial⟩ rfl (fun i hP ih => ?_)
  obtain ⟨hi, hn⟩ := hP
  repeat' first | refine Go.seq ?_ | refine Go.region rfl ?_ | refine Ops.nil ?_ | refine Ops.callC eF rfl rfl (by first | exact Want.no rfl | exact Want.tT rfl rfl rfl rfl | exact Want.fF rfl rfl rfl rfl) rfl rfl rfl rfl (k59 s i hs (by omega)) rfl ?_ | refine Ops.callC eF rfl rfl (by first | exact Want.no rfl | exact Want.tT rfl rfl rfl rfl | exact Want.fF rfl rfl rfl rfl) rfl rfl rfl rfl d0 rfl ?_ | refine Ops.callC eF rfl rfl (by first | exact Want.no rfl | exact Want.tT rfl rfl rfl rfl | exact Want.fF rfl rfl rfl rfl) rfl rfl rfl rfl d1 rfl ?_ | refine Ops.val eF rfl rfl (by first | exact Want.no rfl | exact Want.tT rfl rfl rfl rfl | exact Want.fF rfl rfl rfl rfl) (by first | exact Hop.move rfl rfl | exact Hop.assign rfl rfl | exact Hop.pickT rfl rfl rfl | exact Hop.pickF rfl rfl rfl | exact Hop.not rfl rfl | exact Hop.lss rfl rfl rfl | exact Hop.gtr rfl rfl rfl | exact Hop.add rfl rfl rfl (by omega) | exact Hop.sidx eF rfl rfl rfl rfl rfl (by omega) | exact Hop.ldR eF rfl rfl rfl rfl rfl) ?_ | refine Ops.skip rfl rfl (by first | exact Want.fT rfl rfl rfl rfl | exact Want.tF rfl rfl rfl rfl | exact Want.und rfl rfl rfl rfl) ?_ | refine Ops.gP rfl rfl (fun _ => ?_) (fun _ => ?_) | refine Ops.gN rfl rfl (fun _ => ?_) (fun _ => ?_) | refine Ops.call eF rfl rfl (by first | exact Want.no rfl | exact Want.tT rfl rfl rfl rfl | exact Want.fF rfl rfl rfl rfl) rfl rfl rfl rfl (k60 syms _) rfl ?_ | refine Ops.call eF rfl rfl (by first | exact Want.no rfl | exact Want.tT rfl rfl rfl rfl | exact Want.fF rfl rfl rfl rfl) rfl rfl rfl rfl (k60 sgns _) rfl ?_ | refine Go.condF rfl ?_ | refine Go.condPt rfl (fun _ => ?_) (fun _ => ?_) | refine Go.block ?_ | refine Go.unblk ?_ | refine Go.skip ?_ | refine Go.exit rfl ?_ | refine Go.retF rfl ?_ rfl
  all_goals try simp only [Int.toNat_natCast, UInt8.ofNat_toNat] at *
  all_goals first
    | exact out_f (fun h => by have q := h.2.1 i (by omega); unfold OkC byt at q; rcases q with q | q | q <;> first | contradiction | omega)
    | (refine Go.to (ih (i + 1) ⟨by omega, fun j hj => ?_⟩ (by omega)) ⟨rfl, rfl, rfl, rfl, trivial⟩
       rcases lt_succ_cases hj with h | rfl
       · exact hn j h
       · first | exact .inl ⟨by unfold byt; omega, by unfold byt; omega⟩ | exact .inr (.inl (by assumption)) | exact .inr (.inr (by omega)))
    | skip
  all_goals
    have base : NamedP s ↔ ¬ DigAt s 0 ∧ (Lib.indexByte sgns (s.getD 0 0) < 0 ∨ ¬ DigAt s 1) := ⟨fun h => h.2.2, fun h => ⟨⟨by omega, by omega, by assumption, by assumption⟩, fun j hj => hn j (by omega), h⟩⟩
    first
    | exact out_f (fun h => by rcases base.1 h with ⟨h1, h2 | h2⟩ <;> first | contradiction | omega)
    | exact out_t (base.2 ⟨by assumption, .inl (by assumption)⟩)
    | exact out_n ⟨fun h => base.2 ⟨by assumption, .inr h⟩, fun h => by rcases (base.1 h).2 with h2 | h2 <;> first | exact h2 | contradiction⟩
    | skip
end Go.Px.Fx
end
/- FxE -/
section
set_option linter.unusedVariables false
set_option linter.unusedSimpArgs false
set_option maxHeartbeats 4000000
namespace Go.Px.Fx
open Go.Proofs
attribute [local irreducible] Go.Px.KOk
def HasB (s : List UInt8) (c : Int) : Prop := ∃ j, j < s.length ∧ byt s j = c
theorem has_idx (x : UInt8) : ∀ l : List UInt8, HasB l (x.toNat : Int) ↔ 0 ≤ Lib.indexByte l x
  | [] => ⟨fun ⟨j, h, _⟩ => by simp at h, fun h => by simp [Lib.indexByte] at h⟩
  | y :: l => by
    have ih := has_idx x l
    simp only [Lib.indexByte]
    by_cases h : y = x
    · subst h
      rw [if_pos (by simp)]
      exact ⟨fun _ => Int.le_refl _, fun _ => ⟨0, by simp, by simp [byt]⟩⟩
    · rw [if_neg (by simpa using h)]
      have e : HasB (y :: l) (x.toNat : Int) ↔ HasB l (x.toNat : Int) := by
        constructor
        · rintro ⟨j, h1, h2⟩
          cases j with
          | zero =>
            have h3 : (y.toNat : Int) = (x.toNat : Int) := h2
            exact absurd (UInt8.toNat_inj.1 (by omega)) h
          | succ j => exact ⟨j, by simpa using h1, by simpa [byt] using h2⟩
        · rintro ⟨j, h1, h2⟩
          exact ⟨j + 1, by simpa using h1, by simpa [byt] using h2⟩
      rw [e, ih]
      split
      · rename_i q
        have q : Lib.indexByte l x = -1 := by simpa using q
        omega
      · rename_i q
        have q : Lib.indexByte l x ≠ -1 := by simpa using q
        have low : ∀ m : List UInt8, -1 ≤ Lib.indexByte m x := fun m => by
          induction m with
          | nil => simp [Lib.indexByte]
          | cons z m ih => simp only [Lib.indexByte]; split <;> (try split) <;> omega
        have := low l
        omega
theorem sg (x : UInt8) : Lib.indexByte sgns x < 0 ↔ x.toNat ≠ 43 ∧ x.toNat ≠ 45 ∧ x.toNat ≠ 33 := by
  have key := has_idx x sgns
  have h2 : HasB sgns (x.toNat : Int) ↔ x.toNat = 43 ∨ x.toNat = 45 ∨ x.toNat = 33 := by
    constructor
    · rintro ⟨j, h1, h2⟩
      have h1 : j < 3 := h1
      match j, h1 with
      | 0, _ => have h2 : (43 : Int) = (x.toNat : Int) := h2; omega
      | 1, _ => have h2 : (45 : Int) = (x.toNat : Int) := h2; omega
      | 2, _ => have h2 : (33 : Int) = (x.toNat : Int) := h2; omega
    · rintro (h | h | h)
      · exact ⟨0, by decide, by rw [h]; rfl⟩
      · exact ⟨1, by decide, by rw [h]; rfl⟩
      · exact ⟨2, by decide, by rw [h]; rfl⟩
  rw [h2] at key
  omega
theorem k79 (s : List UInt8) (c : Int) (hs : s.length ≤ 2000000) : KOk cF 79 [sA s, .int .u8 c] (.bool (bd (HasB s c))) := by
  refine KOk.of cF_ok eF.g Try.func79 rfl (Nat.le_of_ble_eq_true rfl) fun w F => ?_
  repeat' first | refine Go.seq ?_ | refine Go.region rfl ?_ | refine Ops.nil ?_ | refine Ops.val eF rfl rfl (by first | exact Want.no rfl | exact Want.tT rfl rfl rfl rfl | exact Want.fF rfl rfl rfl rfl) (by first | exact Hop.assign rfl rfl) ?_ | refine Go.block ?_
  refine Go.loop (fun i : Nat => [(0, sA s), (1, .int .u8 c), (5, .int .i64 i)]) (fun _ => hS) (fun i => i ≤ s.length ∧ ∀ j, j < i → byt s j ≠ c) (fun i => s.length - i) 0 ⟨by omega, fun j hj => by omega⟩ ⟨rfl, rfl, rfl, trivial⟩ rfl (fun i hP ih => ?_)
  obtain ⟨hi, hn⟩ := hP
  repeat' first | refine Go.seq ?_ | refine Go.region rfl ?_ | refine Ops.nil ?_ | refine Ops.val eF rfl rfl (by first | exact Want.no rfl | exact Want.tT rfl rfl rfl rfl | exact Want.fF rfl rfl rfl rfl) (by first | exact Hop.move rfl rfl | exact Hop.assign rfl rfl | exact Hop.lss rfl rfl rfl | exact Hop.eql rfl rfl rfl | exact Hop.add rfl rfl rfl (by omega) | exact Hop.sidx eF rfl rfl rfl rfl rfl (by omega) | exact Hop.lenS eF rfl rfl rfl rfl rfl rfl rfl) ?_ | refine Go.condPt rfl (fun _ => ?_) (fun _ => ?_) | refine Go.block ?_ | refine Go.unblk ?_ | refine Go.skip ?_ | refine Go.exit rfl ?_ | refine Go.retF rfl ?_ rfl
  all_goals try simp only [Int.toNat_natCast] at *
  all_goals first
    | exact out_t ⟨i, by omega, by assumption⟩
    | exact out_f (fun ⟨j, h1, h2⟩ => hn j (by omega) h2)
    | (refine Go.to (ih (i + 1) ⟨by omega, fun j hj => ?_⟩ (by omega)) ⟨rfl, rfl, rfl, trivial⟩
       rcases lt_succ_cases hj with h | rfl
       · exact hn j h
       · assumption)
theorem k72 (s : List UInt8) (hs : s.length ≤ 2000000) : KOk cF 72 [sA s] (.bool (bd (NamedP s))) := by
  have hx := fun j => has_idx (s.getD j 0) syms
  refine KOk.of cF_ok eF.g Try.func72 rfl (Nat.le_of_ble_eq_true rfl) fun w F => ?_
  repeat' first | refine Go.seq ?_ | refine Go.region rfl ?_ | refine Ops.nil ?_ | refine Ops.val eF rfl rfl (by first | exact Want.no rfl | exact Want.tT rfl rfl rfl rfl | exact Want.fF rfl rfl rfl rfl) (Hop.eqS (b := tru) rfl rfl rfl) ?_ | refine Ops.val eF rfl rfl (by first | exact Want.no rfl | exact Want.tT rfl rfl rfl rfl | exact Want.fF rfl rfl rfl rfl) (Hop.eqS (b := fls) rfl rfl rfl) ?_ | refine Ops.val eF rfl rfl (by first | exact Want.no rfl | exact Want.tT rfl rfl rfl rfl | exact Want.fF rfl rfl rfl rfl) (by first | exact Hop.move rfl rfl | exact Hop.assign rfl rfl | exact Hop.pickT rfl rfl rfl | exact Hop.pickF rfl rfl rfl | exact Hop.gtr rfl rfl rfl | exact Hop.eql rfl rfl rfl | exact Hop.lenS eF rfl rfl rfl rfl rfl rfl rfl) ?_ | refine Ops.skip rfl rfl (by first | exact Want.fT rfl rfl rfl rfl | exact Want.tF rfl rfl rfl rfl | exact Want.und rfl rfl rfl rfl) ?_ | refine Ops.gP rfl rfl (fun _ => ?_) (fun _ => ?_) | refine Go.condT rfl ?_ | refine Go.condPt rfl (fun _ => ?_) (fun _ => ?_) | refine Go.block ?_ | refine Go.skip ?_ | refine Go.retF rfl ?_ rfl
  all_goals try exact out_f (by unfold NamedP; first | omega | (intro h; obtain ⟨⟨h1, h2, h3, h4⟩, _⟩ := h; first | omega | contradiction))
  refine Go.loop (fun i : Nat => [(0, sA s), (3, .int .i64 i)]) (fun _ => hS) (fun i => i ≤ s.length ∧ (∀ j, j < i → OkC s j) ∧ (0 < i → ¬ DigAt s 0) ∧ (1 < i → Lib.indexByte sgns (s.getD 0 0) < 0 ∨ ¬ DigAt s 1)) (fun i => s.length - i) 0 ⟨by omega, fun j hj => by omega, by omega, by omega⟩ ⟨rfl, rfl, trivial⟩ rfl (fun i hP ih => ?_)
  obtain ⟨hi, hn, hz, hw⟩ := hP
  have kk := fun c => k79 syms c (by decide)
  repeat' first | refine Go.seq ?_ | refine Go.region rfl ?_ | refine Ops.nil ?_ | refine Ops.val eF rfl rfl (by first | exact Want.no rfl | exact Want.tT rfl rfl rfl rfl | exact Want.fF rfl rfl rfl rfl) (by first | exact Hop.move rfl rfl | exact Hop.assign rfl rfl | exact Hop.pickT rfl rfl rfl | exact Hop.pickF rfl rfl rfl | exact Hop.not rfl rfl | exact Hop.lss rfl rfl rfl | exact Hop.leq rfl rfl rfl | exact Hop.geq rfl rfl rfl | exact Hop.eql rfl rfl rfl | exact Hop.add rfl rfl rfl (by omega) | exact Hop.sidx eF rfl rfl rfl rfl rfl (by omega) | exact Hop.lenS eF rfl rfl rfl rfl rfl rfl rfl) ?_ | refine Ops.skip rfl rfl (by first | exact Want.fT rfl rfl rfl rfl | exact Want.tF rfl rfl rfl rfl | exact Want.und rfl rfl rfl rfl) ?_ | refine Ops.gT rfl rfl (by first | assumption | decide) ?_ | refine Ops.gF rfl rfl (by first | assumption | decide) ?_ | refine Ops.gP rfl rfl (fun _ => ?_) (fun _ => ?_) | refine Ops.gN rfl rfl (fun _ => ?_) (fun _ => ?_) | refine Ops.call eF rfl rfl (by first | exact Want.no rfl | exact Want.tT rfl rfl rfl rfl | exact Want.fF rfl rfl rfl rfl) rfl rfl rfl rfl (kk _) rfl ?_ | refine Go.condT rfl ?_ | refine Go.condF rfl ?_ | refine Go.condPt rfl (fun _ => ?_) (fun _ => ?_) | refine Go.block ?_ | refine Go.unblk ?_ | refine Go.skip ?_ | refine Go.exit rfl ?_ | refine Go.retF rfl ?_ rfl
  all_goals try simp only [Int.toNat_natCast, Int.toNat_zero, UInt8.ofNat_toNat] at *
  all_goals first
    | (refine out_f fun h => ?_
       have q := h.2.1 i (by omega)
       unfold OkC DigAt byt at q
       rcases q with q | q | q
       · omega
       · omega
       · have q := (hx i).2 q
         contradiction)
    | (refine out_f fun h => ?_
       have e0 : i = 0 := by omega
       subst e0
       refine h.2.2.1 ⟨?_, ?_, ?_⟩
       · omega
       · unfold byt; omega
       · unfold byt; omega)
    | (refine out_f fun h => ?_
       have e1 : i = 1 := by omega
       subst e1
       rcases h.2.2.2 with q | q
       · rw [sg] at q; omega
       · refine q ⟨?_, ?_, ?_⟩
         · omega
         · unfold byt; omega
         · unfold byt; omega)
    | exact out_t ⟨⟨by omega, by omega, by assumption, by assumption⟩, fun j hj => hn j (by omega), hz (by omega), by by_cases q : 1 < i; exact hw q; exact .inr (fun h => by have := h.1; omega)⟩
    | (refine Go.to (ih (i + 1) ⟨by omega, fun j hj => ?_, fun _ h => ?_, fun hp => ?_⟩ (by omega)) ⟨rfl, rfl, trivial⟩
       · rcases lt_succ_cases hj with h | rfl
         · exact hn j h
         · first | exact .inl ⟨by unfold byt; omega, by unfold byt; omega⟩ | exact .inr (.inl ⟨by omega, by unfold byt; omega, by unfold byt; omega⟩) | exact .inr (.inr ((hx _).1 (by assumption)))
       · rcases Nat.eq_zero_or_pos i with rfl | hp
         · unfold DigAt byt at h; omega
         · exact hz hp h
       · by_cases q : 1 < i
         · exact hw q
         · have e1 : i = 1 := by omega
           subst e1
           first | exact .inr (fun h => by unfold DigAt byt at h; omega) | exact .inl (by rw [sg]; omega))
/-- is it a variable -/
def VarP (s : List UInt8) : Prop := 2 ≤ s.length ∧ byt s 0 = 63 ∧ NamedP s
theorem k33 (s : List UInt8) (hs : s.length ≤ 2000000) : KOk cF 33 [sA s] (.bool (bd (VarP s))) := by
  have k1 := k49 s hs
  refine KOk.of cF_ok eF.g Try.func33 rfl (Nat.le_of_ble_eq_true rfl) fun w F => ?_
  repeat' first | refine Go.seq ?_ | refine Go.region rfl ?_ | refine Ops.nil ?_ | refine Ops.val eF rfl rfl (by first | exact Want.no rfl | exact Want.tT rfl rfl rfl rfl | exact Want.fF rfl rfl rfl rfl) (by first | exact Hop.move rfl rfl | exact Hop.assign rfl rfl | exact Hop.pickT rfl rfl rfl | exact Hop.pickF rfl rfl rfl | exact Hop.geq rfl rfl rfl | exact Hop.eql rfl rfl rfl | exact Hop.sidx eF rfl rfl rfl rfl rfl (by omega) | exact Hop.lenS eF rfl rfl rfl rfl rfl rfl rfl) ?_ | refine Ops.skip rfl rfl (by first | exact Want.fT rfl rfl rfl rfl | exact Want.tF rfl rfl rfl rfl | exact Want.und rfl rfl rfl rfl) ?_ | refine Ops.gP rfl rfl (fun _ => ?_) (fun _ => ?_) | refine Ops.call eF rfl rfl (by first | exact Want.no rfl | exact Want.tT rfl rfl rfl rfl | exact Want.fF rfl rfl rfl rfl) rfl rfl rfl rfl (k1) rfl ?_ | refine Go.retF rfl ?_ rfl
  all_goals first
    | exact out_f (fun h => by have := h.1; omega)
    | exact out_f (fun h => by have h2 := h.2.1; unfold byt at h2; first | contradiction | (simp at *; omega))
    | exact out_e ⟨fun h => ⟨by omega, by unfold byt; assumption, h⟩, fun h => h.2.2⟩
theorem k57 (s : List UInt8) (hs : s.length ≤ 2000000) : KOk cF 57 [sA s] (.bool (bd (VarP s))) := by
  have k1 := k72 s hs
  refine KOk.of cF_ok eF.g Try.func57 rfl (Nat.le_of_ble_eq_true rfl) fun w F => ?_
  repeat' first | refine Go.seq ?_ | refine Go.region rfl ?_ | refine Ops.nil ?_ | refine Ops.val eF rfl rfl (by first | exact Want.no rfl | exact Want.tT rfl rfl rfl rfl | exact Want.fF rfl rfl rfl rfl) (by first | exact Hop.move rfl rfl | exact Hop.assign rfl rfl | exact Hop.pickT rfl rfl rfl | exact Hop.pickF rfl rfl rfl | exact Hop.gtr rfl rfl rfl | exact Hop.eql rfl rfl rfl | exact Hop.sidx eF rfl rfl rfl rfl rfl (by omega) | exact Hop.lenS eF rfl rfl rfl rfl rfl rfl rfl) ?_ | refine Ops.skip rfl rfl (by first | exact Want.fT rfl rfl rfl rfl | exact Want.tF rfl rfl rfl rfl | exact Want.und rfl rfl rfl rfl) ?_ | refine Ops.gP rfl rfl (fun _ => ?_) (fun _ => ?_) | refine Ops.call eF rfl rfl (by first | exact Want.no rfl | exact Want.tT rfl rfl rfl rfl | exact Want.fF rfl rfl rfl rfl) rfl rfl rfl rfl (k1) rfl ?_ | refine Go.retF rfl ?_ rfl
  all_goals first
    | exact out_f (fun h => absurd h.2.2 (by assumption))
    | exact out_f (fun h => by have := h.1; omega)
    | exact out_e ⟨fun h => ⟨by omega, h, by assumption⟩, fun h => h.2.1⟩
end Go.Px.Fx
end
/- FxM -/
section
set_option linter.unusedVariables false
set_option linter.unusedSimpArgs false
set_option maxHeartbeats 4000000
namespace Go.Px.Fx
open Go.Proofs
attribute [local irreducible] Go.Px.KOk
theorem k56 (s : List UInt8) (l : List (List UInt8)) (hl : l.length ≤ 2000000) : KOk cF 56 [sA s, strsA l] (.bool (bd (s ∈ l))) := by
  refine KOk.of cF_ok eF.g Try.func56 rfl (Nat.le_of_ble_eq_true rfl) fun w F => ?_
  repeat' first | refine Go.seq ?_ | refine Go.region rfl ?_ | refine Ops.nil ?_ | refine Ops.val eF rfl rfl (by first | exact Want.no rfl | exact Want.tT rfl rfl rfl rfl | exact Want.fF rfl rfl rfl rfl) (by first | exact Hop.assign rfl rfl) ?_ | refine Go.block ?_
  refine Go.loop (fun i : Nat => [(0, sA s), (1, strsA l), (5, .int .i64 i)]) (fun _ => hS) (fun i => i ≤ l.length ∧ ∀ j, j < i → l.getD j default ≠ s) (fun i => l.length - i) 0 ⟨by omega, fun j hj => by omega⟩ ⟨rfl, rfl, rfl, trivial⟩ rfl (fun i hP ih => ?_)
  obtain ⟨hi, hn⟩ := hP
  repeat' first | refine Go.seq ?_ | refine Go.region rfl ?_ | refine Ops.nil ?_ | refine Ops.val eF rfl rfl (by first | exact Want.no rfl | exact Want.tT rfl rfl rfl rfl | exact Want.fF rfl rfl rfl rfl) (by first | exact Hop.move rfl rfl | exact Hop.assign rfl rfl | exact Hop.lss rfl rfl rfl | exact Hop.eqS rfl rfl rfl | exact Hop.add rfl rfl rfl (by omega) | exact Hop.idx eF rfl rfl rfl rfl rfl rfl rfl (fun _ => rfl) (by omega) | exact Hop.ldR eF rfl rfl rfl rfl rfl | exact Hop.lenD eF rfl rfl rfl rfl rfl rfl rfl) ?_ | refine Go.condPt rfl (fun _ => ?_) (fun _ => ?_) | refine Go.block ?_ | refine Go.unblk ?_ | refine Go.skip ?_ | refine Go.exit rfl ?_ | refine Go.retF rfl ?_ rfl
  all_goals try simp only [Int.toNat_natCast] at *
  all_goals first
    | (refine out_t ?_
       have hlt : i < l.length := by omega
       rename_i q
       rw [← q, List.getD_eq_getElem?_getD, List.getElem?_eq_getElem hlt]
       exact List.getElem_mem hlt)
    | (refine out_f fun h => ?_
       obtain ⟨j, hj, e⟩ := List.getElem_of_mem h
       refine hn j (by omega) ?_
       rw [List.getD_eq_getElem?_getD, List.getElem?_eq_getElem hj]
       exact e)
    | (refine Go.to (ih (i + 1) ⟨by omega, fun j hj => ?_⟩ (by omega)) ⟨rfl, rfl, rfl, trivial⟩
       rcases lt_succ_cases hj with h | rfl
       · exact hn j h
       · assumption)
end Go.Px.Fx
end
/- PxTx -/
section
set_option linter.unusedVariables false
set_option linter.unusedSimpArgs false
namespace Go.Px
open Go.Sort Go.Proofs
theorem shape_mapBlock (w : World) (b B : Nat) (f : Array Value → Array Value) (hf : ∀ c, (f c).size = c.size) : (mapBlock w b f).shape? B = w.shape? B := by
  simp only [mapBlock, World.shape?, Array.getElem?_modify]
  by_cases hk : b = B
  · simp only [hk, if_true]
    cases w.heap[B]? with
    | none => rfl
    | some o => cases o <;> simp [onCells, hf]
  · simp [hk]
theorem heap_putRow_ne {α : Type} [Inhabited α] (enc : α → Value) (w : World) (b off : Nat) (d : Array α) (C : Nat) (h : C ≠ b) : (putRow enc w b off d).heap[C]? = w.heap[C]? := by
  simp only [putRow, mapBlock, Array.getElem?_modify]
  rw [if_neg (Ne.symm h)]
def sLe (x y : List UInt8) : Bool := decide (x ≤ y)
/-- texts as cells -/
def strC (ss : List (List UInt8)) : List AV := ss.map sA
theorem vr_str {ρ : Map} {s : List UInt8} {v : Value} : VR ρ (sA s) v ↔ v = encStr s := by
  have e : bs (s.map UInt8.toNat) = (⟨s.toArray⟩ : ByteArray) := by
    simp only [bs]
    congr 1
    have : (UInt8.ofNat ∘ UInt8.toNat) = id := by funext x; simp
    rw [List.map_map, this, List.map_id]
  simp only [sA, VR, e, encStr]
/-- an array of texts turned, and the world grown -/
theorem Good.texts {ρ : Map} {h : Heap} {w w' : World} (hr : HR ρ h w) (wf : WF h) {id t n B C : Nat} {ss ss' : List (List UInt8)} (hg : h.get id = .arr t 1 n (strC ss)) (hv : ρ.V id n = some (.slice (some ⟨B, 0, none⟩) n C))
    (hl : ss'.length = ss.length) {m : Nat} {os : Array Obj} (hw : w' = grow (putRow encStr (Sort.ahead w m) B 0 ss'.toArray) os) : Good ρ h w ρ (h.put id (.arr t 1 n (strC ss'))) w' ∧ Holds encStr w B 0 ss.toArray ∧ B < w.heap.size ∧ ss.length = n ∧ n ≤ C := by
  obtain ⟨N, h1, h2, h3, h4, h5, ro, L0, hl0, hc⟩ := hr.arrAt hg hv
  have hn : ss.length = n := by simpa [strC] using h5
  have hB := hr.lt _ _ _ h1
  have hcell : ∀ j, j < ss.length → w.cell? ⟨B, j, none⟩ = some (encStr (ss.getD j default)) := fun j hj => by
    obtain ⟨v, v1, v2⟩ := ro.2.2.2 j (by show j < n * 1; omega)
    rw [Row.get_new, Nat.mod_eq_of_lt (by simpa [strC] using hj)] at v2
    have e : (strC ss)[j]? = some (sA (ss.getD j default)) := by
      simp [strC, List.getD_eq_getElem?_getD, List.getElem?_eq_getElem hj]
    rw [e] at v2
    have v2 : VR ρ.d (sA (ss.getD j default)) v := v2
    rw [vr_str] at v2
    rw [v1, v2]
  have hfz : ∀ j, j < ss.length → w.frozen? ⟨B, j, none⟩ = false := fun j hj => ro.2.2.1 j (by
    have : C * 1 = N := h4
    omega)
  have hH : Holds encStr w B 0 ss.toArray := fun j hj => by
    have hj : j < ss.length := by simpa using hj
    rw [Nat.zero_add]
    refine ⟨?_, hfz j hj⟩
    rw [hcell j hj]
    have e1 : ss.toArray[j]! = ss.getD j default := by simp [List.getD_eq_getElem?_getD, hj]
    rw [e1]
  have hH' : Holds encStr (Sort.ahead w m) B 0 ss.toArray := hH
  have e0 : (Sort.ahead w m).heap = w.heap := rfl
  have hro : RowOk ρ.d ⟨t, n * 1, .leaf, strC ss', none⟩ B N (putRow encStr (Sort.ahead w m) B 0 ss'.toArray) := by
    refine ⟨?_, ro.2.1, fun j hj => ?_, fun j hj => ?_⟩
    · unfold putRow
      rw [shape_mapBlock _ _ _ _ (fun c => by simp [putCells])]
      exact ro.1
    · rw [frozen?_putRow]; exact ro.2.2.1 j hj
    · have hj : j < n * 1 := hj
      have hj2 : j < ss'.toArray.size := by simp; omega
      have := cell?_putRow encStr (Sort.ahead w m) B 0 ss.toArray ss'.toArray hH' (by simp [hl]) j hj2
      rw [Nat.zero_add] at this
      refine ⟨_, this, ?_⟩
      have hj3 : j < ss'.length := by omega
      rw [Row.get_new, Nat.mod_eq_of_lt (by simpa [strC] using hj3)]
      have e : (strC ss')[j]? = some (sA (ss'.getD j default)) := by
        simp [strC, List.getD_eq_getElem?_getD, List.getElem?_eq_getElem hj3]
      rw [e]
      show VR ρ.d (sA (ss'.getD j default)) _
      rw [vr_str]
      have e1 : ss'.toArray[j]! = ss'.getD j default := by simp [List.getD_eq_getElem?_getD, hj3]
      rw [e1]
  have hs1 : Same w (putRow encStr (Sort.ahead w m) B 0 ss'.toArray) := ⟨rfl, rfl, rfl, by rw [size_putRow]; exact Nat.le_refl _⟩
  have g := Good.writeArr hr wf h1 hg (l' := strC ss') (by simp [strC, hl]) hro (fun C hC => by rw [heap_putRow_ne _ _ _ _ _ _ hC]; rfl) hs1 (by rw [size_putRow]; rfl)
  refine ⟨?_, hH, hB, hn, h3⟩
  subst hw
  refine g.ext ⟨rfl, rfl, rfl, by rw [size_grow]; omega⟩ fun b hb => heap_grow_old _ _ hb

/-- the library's sort of texts -/
def SortC (c : Ctx) (f : FuncId) : Prop := ∀ (blk cap : Nat) (ss : List (List UInt8)) (w : World), Holds encStr w blk 0 ss.toArray → blk < w.heap.size → ss.length < 4611686018427387904 →
  Calls c.P f #[.slice (some ⟨blk, 0, none⟩) ss.length cap] w fun e w' => e = .returned (.tuple #[]) ∧ ∃ n os, w' = grow (putRow encStr (Sort.ahead w n) blk 0 (ss.mergeSort sLe).toArray) os
/-- the library's striking of what stands twice -/
def CompactC (c : Ctx) (f : FuncId) : Prop := ∀ (blk cap : Nat) (ss : List (List UInt8)) (w : World), Holds encStr w blk 0 ss.toArray → ss.length ≤ 9223372036854775807 → ss.length ≤ cap →
  Calls c.P f #[.slice (some ⟨blk, 0, none⟩) ss.length cap] w fun e w' => e = .returned (.slice (some ⟨blk, 0, none⟩) (Lib.compact ss).length cap) ∧ ∃ q, w' = putRow encStr (Sort.ahead w q) blk 0 (Lib.compact ss ++ List.replicate (ss.length - (Lib.compact ss).length) []).toArray
theorem compact_le (ss : List (List UInt8)) : (Lib.compact ss).length ≤ ss.length := by
  unfold Lib.compact Lib.compactUpTo
  rw [List.length_map]
  refine Nat.le_trans (List.length_filter_le _ _) (by simp)
section
variable {X : Cx} {tb : List (Nat × TE)} (E : Env X.c tb) {sz : Nat} {rd : Option Nat} {all : Array Oper} {o : Oper} {rest : List Oper} {k : List It} {L : List (Nat × AV)} {h : Heap} {m : List Nat} {Q : Post}
include E
omit E in
/-- an array's slice, as it stands -/
theorem own_at {ρ : Map} {w : World} (hr : HR ρ h w) {id n t z : Nat} {l : List AV} (hg : h.get id = .arr t z n l) (hn : n ≠ 0) {x : Value} (hx : VR ρ (.own id n z) x) : ∃ B C, x = .slice (some ⟨B, 0, none⟩) n C ∧ ρ.V id n = some (.slice (some ⟨B, 0, none⟩) n C) := by
  simp only [VR] at hx
  obtain ⟨h1, ⟨h2, _⟩ | ⟨B, C, h2, _⟩⟩ := hx
  · exact absurd h2 hn
  · exact ⟨B, C, h2, by rw [h1, h2]⟩
/-- TEXTS IN ORDER -/
theorem Ops.sortS {d : Nat} {cl : Call} {f : Operand} {g : FuncId} {fn : Func} {id n t : Nat} {ss : List (List UInt8)} (hd : o.dst = some d) (hs : Nat.ble (d + 1) sz = true) (hw : Want all L o true) (ho : o.op = .call cl) (hc : cl.callee = .value f) (hf : evL L f = some (.fn (.func g) [] []))
    (hv : evsL L cl.args.toList = some [.own id n 1]) (hfn : X.c.P.funcs[g]? = some fn) (hb : fn.body.isSome = true) (hg : h.get id = .arr t 1 n (strC ss)) (hn : n ≠ 0) (hsm : n ≤ 1000000) (hk : SortC X.c g)
    (nx : Ops X sz rd all rest k ((d, .tup []) :: L) (h.put id (.arr t 1 n (strC (ss.mergeSort sLe)))) m Q) : Ops X sz rd all (o :: rest) k L h m Q := ⟨fun e0 he => by
  refine TriOps.cons (hw e0 he) (K := fun s' => RunK X sz rd k Q .normal s') ?_
  intro ro ρ w a next Q' h1 p h3 h4 h5
  refine ⟨fun _ _ => trivial, ?_⟩
  rw [show (wideR ro).round = ro from rfl, Oper.semAt_eq ro a.eval o (by rw [ho]; intro d q; cases q)]
  have hfv := ev_ok h3 f
  rw [he.ev hf] at hfv
  simp only [VR, VRs, FR] at hfv
  obtain ⟨f', F, C0, e1, rfl, rfl, e4⟩ := hfv
  subst e1
  have hargs := evs_ok h3 cl.args.toList
  rw [he.evs hv] at hargs
  simp only [VRs] at hargs
  obtain ⟨x, r0, hx, rfl, hAe⟩ := hargs
  obtain ⟨B, C, rfl, hV⟩ := own_at p.hr hg hn hx
  obtain ⟨_, hH, hB, hlen, hnC⟩ := Good.texts (ss' := ss) (m := 0) (os := #[]) p.hr p.wf hg hV rfl rfl
  have hcalls := hk B C ss w hH hB (by omega)
  rw [hlen] at hcalls
  have hnm : fn.name ≠ "runtime.NumGoroutine" := by simpa using E.k.names g fn hfn
  obtain ⟨body, hbody⟩ := Option.isSome_iff_exists.1 hb
  have hrun : (execOp a.eval o).run X.c.P w = .ok (.enter g #[.slice (some ⟨B, 0, none⟩) n C]) w := by
    have hcall : (callFunc g #[.slice (some ⟨B, 0, none⟩) n C]).run X.c.P w = .ok (.enter g #[.slice (some ⟨B, 0, none⟩) n C]) w := by simp [callFunc, hfn, hnm, hbody, Sem.run]
    rw [← hcall]
    simp only [execOp, ho, resolve, hc, e4, Deferred.ofValue, Sem.run_bind, Sem.run_pure, Result.andThen_ok, invoke]
    congr 2
    apply Array.ext'
    simpa using hAe
  rw [hrun]
  refine uponIn_of_next (R := fun z w' => next (a.put o.dst z) w') (nx := .enter g _) ?_ fun z w' r => r
  refine (callsIn_wide.2 hcalls).mono fun e w' ⟨hz, q, os, hw'⟩ => ?_
  subst hz
  have gd := (Good.texts (ss' := ss.mergeSort sLe) p.hr p.wf hg hV (by simp) hw').1
  exact h5 (.tup []) ⟨e0, _, m⟩ (.tuple #[]) w' ρ ⟨e0.set und d (.tup []), by rw [hd]; exact setD_some hs, nx.run _ (he.set d _)⟩ h1 (p.good gd (ArrKeep.arr hg)) h3 h4 (by simp only [VR, VRs]; exact ⟨[], rfl, rfl⟩)⟩
/-- EACH ONCE: what is handed back, nobody writes any more -/
theorem Ops.compactS {d tx : Nat} {cl : Call} {f : Operand} {g : FuncId} {fn : Func} {id n t : Nat} {ss : List (List UInt8)} (hd : o.dst = some d) (hs : Nat.ble (d + 1) sz = true) (hw : Want all L o true) (ho : o.op = .call cl) (hc : cl.callee = .value f) (hf : evL L f = some (.fn (.func g) [] []))
    (ha : cl.args.toList = [.tmp tx]) (hx : lkO L tx = some (.own id n 1)) (hfn : X.c.P.funcs[g]? = some fn) (hb : fn.body.isSome = true) (hg : h.get id = .arr t 1 n (strC ss)) (hn : n ≠ 0) (hsm : n ≤ 1000000) (hk : CompactC X.c g)
    (hi : ∀ l, HInd id (h.put id (.arr t 1 n l))) (hL : indL id L = true) (hm : (m.all fun i => !Nat.beq i id) = true) (hrd : rd ≠ some id) (hG : indsB id X.gv = true)
    (nx : ∀ h', h' = (h.put id (.arr t 1 n (strC (Lib.compact ss ++ List.replicate (ss.length - (Lib.compact ss).length) [])))).put id .none → Ops X sz rd all rest k ((d, .rsl (Lib.compact ss).length 1 (strC (Lib.compact ss))) :: (tx, .rsl n 1 (strC (Lib.compact ss ++ List.replicate (ss.length - (Lib.compact ss).length) []))) :: L) h' m Q) : Ops X sz rd all (o :: rest) k L h m Q := ⟨fun e0 he => by
  refine TriOps.cons (hw e0 he) (K := fun s' => RunK X sz rd k Q .normal s') ?_
  intro ro ρ w a next Q' h1 p h3 h4 h5
  refine ⟨fun _ _ => trivial, ?_⟩
  rw [show (wideR ro).round = ro from rfl, Oper.semAt_eq ro a.eval o (by rw [ho]; intro d q; cases q)]
  have hfv := ev_ok h3 f
  rw [he.ev hf] at hfv
  simp only [VR, VRs, FR] at hfv
  obtain ⟨f', F, C0, e1, rfl, rfl, e4⟩ := hfv
  subst e1
  have hxv := ev_ok h3 (.tmp tx)
  rw [he.ev (x := .tmp tx) hx] at hxv
  obtain ⟨B, C, hxe, hV⟩ := own_at p.hr hg hn hxv
  obtain ⟨_, hH, hB, hlen, hnC⟩ := Good.texts (ss' := ss) (m := 0) (os := #[]) p.hr p.wf hg hV rfl rfl
  have hcalls := hk B C ss w hH (by omega) (by omega)
  rw [hlen] at hcalls
  have hnm : fn.name ≠ "runtime.NumGoroutine" := by simpa using E.k.names g fn hfn
  obtain ⟨body, hbody⟩ := Option.isSome_iff_exists.1 hb
  have hrun : (execOp a.eval o).run X.c.P w = .ok (.enter g #[.slice (some ⟨B, 0, none⟩) n C]) w := by
    have hcall : (callFunc g #[.slice (some ⟨B, 0, none⟩) n C]).run X.c.P w = .ok (.enter g #[.slice (some ⟨B, 0, none⟩) n C]) w := by simp [callFunc, hfn, hnm, hbody, Sem.run]
    rw [← hcall]
    simp only [execOp, ho, resolve, hc, e4, Deferred.ofValue, Sem.run_bind, Sem.run_pure, Result.andThen_ok, invoke]
    congr 2
    apply Array.ext'
    simp [ha, hxe]
  rw [hrun]
  refine uponIn_of_next (R := fun z w' => next (a.put o.dst z) w') (nx := .enter g _) ?_ fun z w' r => r
  refine (callsIn_wide.2 hcalls).mono fun e w' ⟨hz, q, hw'⟩ => ?_
  subst hz
  have hcl := compact_le ss
  have hl2 : (Lib.compact ss ++ List.replicate (ss.length - (Lib.compact ss).length) []).length = ss.length := by simp; omega
  rw [hlen] at hl2
  have gd := (Good.texts (ss' := Lib.compact ss ++ List.replicate (n - (Lib.compact ss).length) []) (w' := w') (m := q) (os := #[]) p.hr p.wf hg hV (by rw [hlen] at hcl; simp; omega) (by rw [hw', grow_empty])).1
  have p2 := p.good gd (ArrKeep.arr hg)
  obtain ⟨ρ2, e2, r1, r2, r3, r4, r5⟩ := Chg.frz (X := X) (sz := sz) (rd := rd) (m := m) tx hx (by rw [Heap.get_put, if_pos rfl]) (hi _) hL hm hrd hG ro ρ w' e0 a h1 p2 h3 he h4
  have hres : VR ρ2 (.rsl (Lib.compact ss).length 1 (strC (Lib.compact ss))) (.slice (some ⟨B, 0, none⟩) (Lib.compact ss).length C) := by
    have q1 := ev_ok r3 (.tmp tx)
    rw [r4.ev (x := .tmp tx) (v := .rsl n 1 (strC (Lib.compact ss ++ List.replicate (n - (Lib.compact ss).length) []))) (by show lkO _ tx = _; unfold lkO; rw [Nat.beq_refl]), hxe] at q1
    simp only [VR] at q1 ⊢
    refine ⟨by simp [strC], ?_⟩
    obtain ⟨_, ⟨q2, _⟩ | ⟨B2, o2, C2, L2, q2, q3, q4, q5⟩⟩ := q1
    · exact absurd q2 hn
    · cases q2
      refine .inr ⟨B, 0, C, L2.take (Lib.compact ss).length, rfl, by omega, ?_, fun j x hj => ?_⟩
      · rw [VRs.iff] at q4 ⊢
        have e3 : (strC (Lib.compact ss)).length = (Lib.compact ss).length := by simp [strC]
        have e4 : L2.length = n := by rw [← q4.1]; simp only [strC, List.length_map]; exact hl2
        refine ⟨by rw [e3, List.length_take]; omega, fun i u v hu hv => ?_⟩
        have hi' : i < (Lib.compact ss).length := by
          obtain ⟨hh, _⟩ := List.getElem?_eq_some_iff.1 hu
          omega
        refine q4.2 i u v ?_ ?_
        · unfold strC at hu ⊢
          rw [List.map_append, List.getElem?_append_left (by simpa using hi')]
          exact hu
        · rw [List.getElem?_take, if_pos hi'] at hv; exact hv
      · rw [List.getElem?_take] at hj
        split at hj
        · exact q5 j x hj
        · cases hj
  rw [hlen] at nx
  exact h5 _ ⟨e2, _, m⟩ _ w' ρ2 ⟨e2.set und d _, by rw [hd]; exact setD_some hs, (nx _ rfl).run _ (r4.set d _)⟩ r1 r2 r3 r5 hres⟩
end
end Go.Px
end
/- PxTy -/
section
set_option linter.unusedVariables false
set_option linter.unusedSimpArgs false
namespace Go.Px
theorem less_bytes : ∀ (x y : List UInt8), Op.bytesLess x y = decide (x < y)
  | _, [] => by simp [Op.bytesLess]
  | [], _ :: _ => by simp [Op.bytesLess]
  | a :: x, b :: y => by
    rw [Op.bytesLess, less_bytes x y]
    by_cases h : a < b
    · simp [h, List.cons_lt_cons_iff]
    · by_cases h2 : a = b
      · subst h2; simp [List.cons_lt_cons_iff]
      · simp [h, h2, List.cons_lt_cons_iff]
theorem strLt_sA (a b : List UInt8) : strLt (a.map UInt8.toNat) (b.map UInt8.toNat) = bd (a < b) := by
  rw [strLt_eq]
  have h1 : ∀ l : List UInt8, (l.map UInt8.toNat).map UInt8.ofNat = l := fun l => by
    rw [List.map_map]
    have : (UInt8.ofNat ∘ UInt8.toNat) = id := by funext x; simp
    rw [this, List.map_id]
  rw [h1, h1, less_bytes, bd_dec]
theorem str_gt (a b : List UInt8) : b < a ↔ ¬ a < b ∧ ¬ a = b := by
  constructor
  · intro h
    exact ⟨fun q => List.lt_irrefl a (List.lt_trans q h), fun q => by subst q; exact List.lt_irrefl a h⟩
  · rintro ⟨h1, h2⟩
    apply Classical.byContradiction
    intro h3
    exact h2 (List.le_antisymm h3 h1)
section
variable {X : Cx} {o : Oper} {L : List (Nat × AV)} {h : Heap}
theorem Hop.ltS {t u : Nat} {x y : Operand} {a b : List UInt8} (ho : o.op = .binOp .lss t x y u) (hx : evL L x = some (sA a)) (hy : evL L y = some (sA b)) : Hop X L h o (.bool (bd (a < b))) h := fun e' he => by
  rw [ho]; simp only [opA]; rw [he.ev hx, he.ev hy]
  simp only [sA, oBinX, oBin, strOp, strLt_sA, val]
theorem Hop.gtS {t u : Nat} {x y : Operand} {a b : List UInt8} (ho : o.op = .binOp .gtr t x y u) (hx : evL L x = some (sA a)) (hy : evL L y = some (sA b)) : Hop X L h o (.bool (bd (b < a))) h := fun e' he => by
  rw [ho]; simp only [opA]; rw [he.ev hx, he.ev hy]
  have e : bd (b < a) = !(bd (a < b) || bd (a = b)) := by
    rw [propext (str_gt a b)]
    by_cases h1 : a < b <;> by_cases h2 : a = b <;> simp [bd, h1, h2]
  simp only [sA, oBinX, oBin, strOp, strLt_sA, strEq_sA, val, e]
end
end Go.Px
end
/- FxN -/
section
set_option linter.unusedVariables false
set_option linter.unusedSimpArgs false
set_option maxHeartbeats 4000000
namespace Go.Px.Fx
open Go.Proofs
attribute [local irreducible] Go.Px.KOk
abbrev Str := List UInt8
/-- where it belongs, from behind -/
noncomputable def placeN (l : List Str) (x : Str) : Nat → Nat
  | 0 => 0
  | k + 1 => bif bd (x < l.getD k default) then placeN l x k else k + 1
noncomputable def putS (l : List Str) (x : Str) : List Str := bif bd (x ∈ l) then l else l.take (placeN l x l.length) ++ [x] ++ l.drop (placeN l x l.length)
noncomputable def putN (l : List Str) : Nat → List Str
  | 0 => []
  | i + 1 => putS (putN l i) (l.getD i default)
theorem putS_len (l : List Str) (x : Str) : (putS l x).length ≤ l.length + 1 := by
  unfold putS
  cases bd (x ∈ l)
  · simp only [cond_false, List.length_append, List.length_take, List.length_drop, List.length_singleton]; omega
  · simp
theorem putN_len (l : List Str) : ∀ i, (putN l i).length ≤ i
  | 0 => by simp [putN]
  | i + 1 => by
    have := putN_len l i
    have := putS_len (putN l i) (l.getD i default)
    unfold putN; omega
theorem placeN_le (l : List Str) (x : Str) : ∀ k, placeN l x k ≤ k
  | 0 => Nat.le_refl _
  | k + 1 => by
    have := placeN_le l x k
    unfold placeN
    cases bd (x < l.getD k default)
    · exact Nat.le_refl _
    · simp only [cond_true]; omega
theorem dsl3 {k : Nat} {x : Str} {o : List Str} (a c : Nat) (ha : a = (o.take k).length) (hc : c = (o.drop k).length) : AV.rsl (a + 1 + c) 1 ((o.take k).flatMap encS ++ encS x ++ (o.drop k).flatMap encS) = strsA (o.take k ++ [x] ++ o.drop k) := by
  subst ha; subst hc
  simp [strsA, dsl, List.flatMap_append]; omega
noncomputable def r42_0 : List Oper := ((drawn (Try.f42.body.getD .skip))[0]?).getD []
theorem dr42_0 : chkOrd cF r42_0 [0, 1, 2, 3, 4, 5, 6, 7, 8, 9, 10, 11, 12, 13] = true := by kernel_rfl
theorem k42 (l : List Str) (hl : l.length ≤ 10000) : KOk cF 42 [strsA l] (strsA (putN l l.length)) := by
  refine KOk.of cF_ok eF.g Try.func42 rfl (Nat.le_of_ble_eq_true rfl) fun w F => ?_
  repeat' first | refine Go.seq ?_ | refine Go.region rfl ?_ | refine Ops.nil ?_ | refine Ops.val eF rfl rfl (by first | exact Want.no rfl | exact Want.tT rfl rfl rfl rfl | exact Want.fF rfl rfl rfl rfl) (by first | exact Hop.assign rfl rfl) ?_ | refine Go.block ?_
  refine Go.change (Chg.weak 3 rfl (weak_nil 1)) ?_
  refine Go.loop (fun i : Nat => [(0, strsA l), (3, strsA (putN l i)), (4, .int .i64 i)]) (fun _ => hp []) (fun i => i ≤ l.length) (fun i => l.length - i) 0 (by omega) ⟨rfl, rfl, rfl, trivial⟩ rfl (fun i hi ih => ?_)
  have hlen := putN_len l i
  have est : putN l (i + 1) = putS (putN l i) (l.getD i default) := rfl
  have k1 := k56 (l.getD (i : Int).toNat default) (putN l i) (by omega)
  repeat' first | refine Go.seq ?_ | refine Go.region rfl ?_ | refine Ops.nil ?_ | refine Ops.val eF rfl rfl (by first | exact Want.no rfl | exact Want.tT rfl rfl rfl rfl | exact Want.fF rfl rfl rfl rfl) (by first | exact Hop.move rfl rfl | exact Hop.assign rfl rfl | exact Hop.lss rfl rfl rfl | exact Hop.add rfl rfl rfl (by omega) | exact Hop.idx eF rfl rfl rfl rfl rfl rfl rfl (fun _ => rfl) (by omega) | exact Hop.ldR eF rfl rfl rfl rfl rfl | exact Hop.lenD eF rfl rfl rfl rfl rfl rfl rfl) ?_ | refine Ops.call eF rfl rfl (by first | exact Want.no rfl | exact Want.tT rfl rfl rfl rfl | exact Want.fF rfl rfl rfl rfl) rfl rfl rfl rfl (k1) rfl ?_ | refine Go.condPt rfl (fun _ => ?_) (fun _ => ?_) | refine Go.block ?_ | refine Go.skip ?_ | refine Go.exit rfl ?_ | refine Go.retF rfl ?_ rfl
  all_goals try simp only [Int.toNat_natCast] at *
  case refine_2 =>
    have e : i = l.length := by omega
    subst e; rfl
  · rename_i q
    refine Go.to (ih (i + 1) (by omega) (by omega)) ⟨rfl, ?_, rfl, trivial⟩
    rw [est]
    unfold putS
    rw [bd_of q]; rfl
  · rename_i q
    refine Go.loop (fun k : Nat => [(0, strsA l), (3, strsA (putN l i)), (4, .int .i64 i), (5, .int .i64 k)]) (fun _ => hp []) (fun k => k ≤ (putN l i).length ∧ placeN (putN l i) (l.getD i default) k = placeN (putN l i) (l.getD i default) (putN l i).length) (fun k => k) (putN l i).length ⟨Nat.le_refl _, rfl⟩ ⟨rfl, rfl, rfl, rfl, trivial⟩ rfl (fun k hP ihk => ?_)
    obtain ⟨hk, hn⟩ := hP
    have hT : ((putN l i).take (k : Int).toNat).length = k := by rw [Int.toNat_natCast, List.length_take]; omega
    have hD : ((putN l i).drop (k : Int).toNat).length = (putN l i).length - k := by rw [Int.toNat_natCast, List.length_drop]
    repeat' first | refine Go.seq ?_
    refine Go.draw eF hm [] [0, 1, 2, 3, 4, 5, 6, 7, 8, 9, 10, 11, 12, 13] dr42_0 ?_
    repeat' first | refine Dr.nil ?_ | refine Dr.pure rfl rfl rfl rfl (by first | exact Want.no rfl | exact Want.tT rfl rfl rfl rfl | exact Want.fF rfl rfl rfl rfl) (by first | exact Hop.move rfl rfl | exact Hop.pickT rfl rfl rfl | exact Hop.pickF rfl rfl rfl | exact Hop.gtr rfl rfl rfl | exact Hop.sub rfl rfl rfl (by omega) | exact Hop.idx eF rfl rfl rfl rfl rfl rfl rfl (fun _ => rfl) (by omega) | exact Hop.ldR eF rfl rfl rfl rfl rfl | exact Hop.gtS rfl rfl rfl) ?_ | refine Dr.light rfl rfl rfl rfl (by first | exact Want.no rfl | exact Want.tT rfl rfl rfl rfl | exact Want.fF rfl rfl rfl rfl) (by first | exact Hop.ldR eF rfl rfl rfl rfl rfl) ?_ | refine Dr.skip rfl rfl rfl (by first | exact Want.fT rfl rfl rfl rfl | exact Want.tF rfl rfl rfl rfl | exact Want.und rfl rfl rfl rfl) ?_ | refine Dr.gP rfl rfl (fun _ => ?_) (fun _ => ?_)
    repeat' first | refine Go.seq ?_ | refine Go.region rfl ?_ | refine Ops.nil ?_ | refine Ops.val eF rfl rfl (by first | exact Want.no rfl | exact Want.tT rfl rfl rfl rfl | exact Want.fF rfl rfl rfl rfl) (by first | exact Hop.move rfl rfl | exact Hop.assign rfl rfl | exact Hop.add rfl rfl rfl (by omega) | exact Hop.sub rfl rfl rfl (by omega) | exact Hop.idx eF rfl rfl rfl rfl rfl rfl rfl (fun _ => rfl) (by omega) | exact Hop.ldR eF rfl rfl rfl rfl rfl | exact Hop.from_ eF rfl rfl rfl rfl rfl rfl rfl (fun _ => rfl) (by omega) | exact Hop.upto eF rfl rfl rfl rfl rfl rfl rfl (fun _ => rfl) (by omega)) ?_ | refine Ops.data eF rfl rfl (by first | exact Want.no rfl | exact Want.tT rfl rfl rfl rfl | exact Want.fF rfl rfl rfl rfl) rfl (Hop.bslice eF rfl rfl rfl rfl rfl rfl rfl rfl rfl rfl rfl) rfl rfl ?_ | refine Ops.appendE eF rfl rfl (by first | exact Want.no rfl | exact Want.tT rfl rfl rfl rfl | exact Want.fF rfl rfl rfl rfl) rfl rfl rfl rfl rfl rfl rfl rfl rfl rfl rfl rfl rfl rfl rfl rfl (by repeat' first | exact trivial | refine And.intro ?_ ?_ | exact .inr trivial | exact .inr (ind_row rfl rfl) | exact .inr rfl | exact .inl rfl | exact .inr (hindL _ _)) rfl rfl rfl rfl rfl (by first | rfl | exact ones_flat (fun _ => rfl) _) (by omega) ?_ | refine Ops.appendNAt eF 0 rfl rfl rfl (fun _ => by first | exact Want.no rfl | exact Want.tT rfl rfl rfl rfl | exact Want.fF rfl rfl rfl rfl) rfl rfl rfl rfl rfl rfl (fun _ => rfl) rfl rfl rfl rfl rfl rfl rfl rfl (by repeat' first | exact trivial | refine And.intro ?_ ?_ | exact .inr trivial | exact .inr (ind_row rfl rfl) | exact .inr rfl | exact .inl rfl | exact .inr (hindL _ _)) rfl rfl rfl rfl rfl (by first | rfl | exact ones_flat (fun _ => rfl) _) (by omega) ?_ | refine Go.condF rfl ?_ | refine Go.condPt rfl (fun _ => ?_) (fun _ => ?_) | refine Go.block ?_ | refine Go.unblk ?_ | refine Go.skip ?_ | refine Go.exit rfl ?_
    all_goals try simp only [Int.toNat_natCast] at *
    all_goals first
      | (rename_i h0 h1
         have hk1 : ∃ j, k = j + 1 := ⟨k - 1, by omega⟩
         obtain ⟨j, rfl⟩ := hk1
         have ej : (((j + 1 : Nat) : Int) - 1).toNat = j := by omega
         rw [ej] at h1
         refine Go.to (ihk j ⟨by omega, ?_⟩ (by omega)) ⟨rfl, rfl, rfl, ?_, trivial⟩
         · rw [← hn]
           show _ = cond (bd (l.getD i default < (putN l i).getD j default)) _ _
           rw [bd_of h1]; rfl
         · show some (AV.int .i64 _) = some (AV.int .i64 _)
           congr 2; omega)
      | (have hpl : placeN (putN l i) (l.getD i default) k = k := by
           cases k with
           | zero => rfl
           | succ j =>
             first
             | (exfalso; omega)
             | (have ej : (((j + 1 : Nat) : Int) - 1).toNat = j := by omega
                rename_i h0 h1
                rw [ej] at h1
                show cond (bd (l.getD i default < (putN l i).getD j default)) _ _ = _
                rw [bd_no h1]; rfl)
         refine Go.changeL (Chg.frz 3 rfl rfl (by repeat' first | exact trivial | refine And.intro ?_ ?_ | exact .inr trivial | exact .inr rfl | exact .inl rfl) rfl rfl (fun q => by cases q)) ?_
         refine Go.toC (bs := []) (ih (i + 1) (by omega) (by omega)) eF.g ⟨rfl, ?_, rfl, trivial⟩ rfl rfl trivial trivial rfl rfl
         refine (congrArg some (dsl3 (k := k) (x := l.getD i default) (o := putN l i) (((putN l i).take k).length) (((putN l i).drop k).length) rfl rfl)).trans ?_
         rw [est]
         unfold putS
         rw [bd_no q, cond_false, ← hn, hpl])
end Go.Px.Fx
end
/- PxTz -/
section
set_option linter.unusedVariables false
set_option linter.unusedSimpArgs false
namespace Go.Px

/-! ## numbers renamed -/
def renF (f : Nat → Nat) (g : Fn) : Fn := match g with | .yield l => .yield (f l) | g => g
mutual
def ren (f : Nat → Nat) : AV → AV
  | .bad => .bad
  | .bool b => .bool b
  | .int k n => .int k n
  | .str l => .str l
  | .nilptr => .nilptr
  | .ptr i o => .ptr (f i) o
  | .nilsl => .nilsl
  | .sl i o l c z => .sl (f i) o l c z
  | .esl i => .esl (f i)
  | .nilmp => .nilmp
  | .mp i => .mp (f i)
  | .nilfn => .nilfn
  | .fn g a b => .fn (renF f g) (rens f a) (rens f b)
  | .nilifc => .nilifc
  | .ifc t a => .ifc t (ren f a)
  | .agg l => .agg (rens f l)
  | .tup l => .tup (rens f l)
  | .gptr g o => .gptr g o
  | .anyb => .anyb
  | .big n => .big n
  | .low n => .low n
  | .anyi => .anyi
  | .rsl n z l => .rsl n z l
  | .rptr l => .rptr l
  | .csl => .csl
  | .own i n z => .own (f i) n z
  | .optr i n o => .optr (f i) n o
def rens (f : Nat → Nat) : List AV → List AV
  | [] => []
  | a :: l => ren f a :: rens f l
end
theorem rens_length (f : Nat → Nat) : ∀ l : List AV, (rens f l).length = l.length
  | [] => rfl
  | a :: l => by simp only [rens, List.length_cons, rens_length f l]
theorem rens_get (f : Nat → Nat) : ∀ (l : List AV) (j : Nat), (rens f l).getD j .bad = ren f (l.getD j .bad)
  | [], j => by simp [rens, ren]
  | a :: l, 0 => rfl
  | a :: l, j + 1 => by
    have := rens_get f l j
    simpa [rens] using this
def pull (ρ : Map) (f : Nat → Nat) : Map := ⟨fun j => ρ (f j), ρ.F, fun j n => ρ.V (f j) n⟩
mutual
theorem vr_ren {ρ : Map} {f : Nat → Nat} : ∀ (a : AV) (v : Value), VR ρ (ren f a) v ↔ VR (pull ρ f) a v
  | .bad, _ => by simp only [ren, VR]
  | .bool b, _ => by simp only [ren, VR]
  | .int _ _, _ => by simp only [ren, VR]
  | .str l, _ => by simp only [ren, VR]
  | .nilptr, _ => by simp only [ren, VR]
  | .ptr i o, _ => by simp only [ren, VR]; exact Iff.rfl
  | .nilsl, _ => by simp only [ren, VR]
  | .sl i o l c z, _ => by simp only [ren, VR]; exact Iff.rfl
  | .esl i, _ => by simp only [ren, VR]; exact Iff.rfl
  | .nilmp, _ => by simp only [ren, VR]
  | .mp i, _ => by simp only [ren, VR]; exact Iff.rfl
  | .nilfn, _ => by simp only [ren, VR]
  | .fn g a b, v => by
    have ha := fun L => vrs_ren (ρ := ρ) (f := f) a L
    have hb := fun L => vrs_ren (ρ := ρ) (f := f) b L
    have hg : ∀ f', FR ρ (renF f g) f' ↔ FR (pull ρ f) g f' := fun f' => by
      cases g <;> simp only [renF, FR] <;> exact Iff.rfl
    simp only [ren, VR, ha, hb, hg]
  | .nilifc, _ => by simp only [ren, VR]
  | .ifc t a, v => by
    have ha := fun x => vr_ren (ρ := ρ) (f := f) a x
    simp only [ren, VR, ha]
  | .agg l, v => by
    have ha := fun L => vrs_ren (ρ := ρ) (f := f) l L
    simp only [ren, VR, ha]
  | .tup l, v => by
    have ha := fun L => vrs_ren (ρ := ρ) (f := f) l L
    simp only [ren, VR, ha]
  | .gptr g o, _ => by simp only [ren, VR]
  | .anyb, _ => by simp only [ren, VR]
  | .big n, _ => by simp only [ren, VR]
  | .low n, _ => by simp only [ren, VR]
  | .anyi, _ => by simp only [ren, VR]
  | .rsl n z l, _ => by simp only [ren, VR]; exact Iff.rfl
  | .rptr l, _ => by simp only [ren, VR]; exact Iff.rfl
  | .csl, _ => by simp only [ren, VR]
  | .own i m z, _ => by simp only [ren, VR]; exact Iff.rfl
  | .optr i m o, _ => by simp only [ren, VR]; exact Iff.rfl
theorem vrs_ren {ρ : Map} {f : Nat → Nat} : ∀ (l : List AV) (L : List Value), VRs ρ (rens f l) L ↔ VRs (pull ρ f) l L
  | [], _ => by simp only [rens, VRs]
  | a :: l, L => by
    have ha := fun x => vr_ren (ρ := ρ) (f := f) a x
    have hl := fun M => vrs_ren (ρ := ρ) (f := f) l M
    simp only [rens, VRs, ha, hl]
end

/-! ## others' numbers: those handed over in their numbers, those of their own -/
/-- handed over, and then as many as come new -/
def sg (is : List Nat) (b j : Nat) : Nat := match is with
  | [] => b + j
  | i :: r => (match j with | 0 => i | j + 1 => sg r b j)
def tau : List Nat → Nat → Nat → Option Nat
  | [], b, i => if b ≤ i then some (i - b) else none
  | x :: r, b, i => if i = x then some 0 else (tau r b i).map (· + 1)
def apart (b : Nat) : List Nat → Bool
  | [] => true
  | i :: r => (match Nat.ble (i + 1) b with | true => (match inL r i with | false => apart b r | true => false) | false => false)
theorem inL_of {xs : List Nat} {i : Nat} (h : i ∈ xs) : inL xs i = true := by
  induction xs with
  | nil => cases h
  | cons x r ih =>
    unfold inL
    rcases List.mem_cons.1 h with rfl | h
    · simp only [Nat.beq_refl]
    · split
      · rfl
      · exact ih h
theorem apart_cons {b i : Nat} {r : List Nat} (h : apart b (i :: r) = true) : i < b ∧ i ∉ r ∧ apart b r = true := by
  simp only [apart] at h
  split at h
  · rename_i h1
    split at h
    · rename_i h2
      refine ⟨bleT h1, ?_, h⟩
      intro q
      rw [inL_of q] at h2
      cases h2
    · cases h
  · cases h
theorem sg_in : ∀ (is : List Nat) (b j : Nat), sg is b j ∈ is ∨ b ≤ sg is b j
  | [], b, j => .inr (by simp only [sg]; omega)
  | i :: r, b, 0 => .inl (by simp only [sg]; exact List.mem_cons_self)
  | i :: r, b, j + 1 => by
    simp only [sg]
    rcases sg_in r b j with h | h
    · exact .inl (List.mem_cons_of_mem _ h)
    · exact .inr h
theorem tau_sg : ∀ {is : List Nat} {b : Nat} (j : Nat), apart b is = true → tau is b (sg is b j) = some j
  | [], b, j, _ => by
    have e : sg [] b j = b + j := rfl
    rw [e]
    simp only [tau]
    rw [if_pos (by omega)]; congr 1; omega
  | i :: r, b, 0, _ => by
    have e : sg (i :: r) b 0 = i := rfl
    rw [e]
    simp only [tau, if_pos]
  | i :: r, b, j + 1, h => by
    obtain ⟨h1, h2, h3⟩ := apart_cons h
    have e : sg (i :: r) b (j + 1) = sg r b j := rfl
    rw [e]
    simp only [tau]
    rw [if_neg (fun e => by rcases sg_in r b j with q | q; exact h2 (e ▸ q); omega), tau_sg j h3]; rfl
theorem sg_tau : ∀ {is : List Nat} {b i j : Nat}, tau is b i = some j → sg is b j = i
  | [], b, i, j, h => by
    simp only [tau] at h
    split at h
    · cases h; simp only [sg]; omega
    · cases h
  | x :: r, b, i, j, h => by
    simp only [tau] at h
    split at h
    · cases h; rename_i e; simp only [sg]; exact e.symm
    · cases j with
      | zero => cases q : tau r b i <;> rw [q] at h <;> cases h
      | succ j =>
        simp only [sg]
        refine sg_tau (is := r) (b := b) ?_
        cases q : tau r b i with
        | none => rw [q] at h; cases h
        | some k => rw [q] at h; cases h; rfl
theorem sg_lt : ∀ {is : List Nat} {b j : Nat}, apart b is = true → j < is.length → sg is b j < b
  | i :: r, b, 0, h, _ => by simp only [sg]; exact (apart_cons h).1
  | i :: r, b, j + 1, h, hj => by simp only [sg]; exact sg_lt (apart_cons h).2.2 (by simpa using hj)
theorem sg_ge : ∀ {is : List Nat} {b j : Nat}, is.length ≤ j → sg is b j = b + (j - is.length)
  | [], b, j, _ => by simp only [sg, List.length_nil]; omega
  | i :: r, b, 0, h => by simp at h
  | i :: r, b, j + 1, h => by
    simp only [sg]
    rw [sg_ge (by simpa using h)]
    simp only [List.length_cons]; omega
theorem sg_inj {is : List Nat} {b i j : Nat} (h : apart b is = true) (e : sg is b i = sg is b j) : i = j := by
  have := tau_sg i h
  rw [e, tau_sg j h] at this
  cases this; rfl
theorem tau_lt {is : List Nat} {b i j : Nat} (h : tau is b i = some j) (hi : i < b) : j < is.length := by
  have := sg_tau h
  rcases Nat.lt_or_ge j is.length with q | q
  · exact q
  · rw [sg_ge q] at this; omega
/-- a heap with these at their places, and new ones behind -/
noncomputable def mixN : Nat → Heap → List Nat → List AB → Heap
  | n, h, i :: is, b :: bs => mixN n (h.put i b) is bs
  | n, h, [], b :: bs => mixN (n + 1) (newAt n h b) [] bs
  | _, h, _, [] => h
theorem mix_get_new : ∀ (bs : List AB) (b : Nat) (h : Heap) (i : Nat), (mixN b h [] bs).get i = (match tau [] b i with | some j => (bs[j]?).getD (h.get i) | none => h.get i)
  | [], b, h, i => by
    simp only [mixN]
    split <;> simp
  | x :: bs, b, h, i => by
    simp only [mixN]
    rw [mix_get_new bs (b + 1) (newAt b h x) i]
    have hg : (newAt b h x).get i = if i = b then x else h.get i := Px.get_set _ _ _ _ _
    simp only [tau]
    by_cases h1 : i = b
    · subst h1
      rw [if_neg (by omega), if_pos (Nat.le_refl _)]
      simp only [hg, if_pos, Nat.sub_self]; rfl
    · by_cases h2 : b ≤ i
      · rw [if_pos (by omega), if_pos h2]
        simp only [hg, if_neg h1]
        rw [show i - b = (i - (b + 1)) + 1 by omega]; rfl
      · rw [if_neg (by omega), if_neg h2]
        simp only [hg, if_neg h1]
theorem mix_get : ∀ (is : List Nat) (bs : List AB) (b : Nat) (h : Heap) (i : Nat), is.length ≤ bs.length → apart b is = true → (mixN b h is bs).get i = (match tau is b i with | some j => (bs[j]?).getD (h.get i) | none => h.get i)
  | [], bs, b, h, i, _, _ => mix_get_new bs b h i
  | x :: is, [], b, h, i, hl, _ => by simp at hl
  | x :: is, y :: bs, b, h, i, hl, ha => by
    obtain ⟨h1, h2, h3⟩ := apart_cons ha
    simp only [mixN]
    rw [mix_get is bs b (h.put x y) i (by simpa using hl) h3]
    simp only [tau, Heap.get_put]
    by_cases e : i = x
    · subst e
      have : tau is b i = none := by
        cases q : tau is b i with
        | none => rfl
        | some j =>
          have := sg_tau q
          rcases sg_in is b j with r | r
          · exact absurd (this ▸ r) h2
          · omega
      rw [this]
      simp
    · simp only [if_neg e]
      cases q : tau is b i with
      | none => rfl
      | some j => rfl
theorem mix_nxt : ∀ (is : List Nat) (bs : List AB) (b : Nat) (h : Heap), is.length ≤ bs.length → h.nxt = b → (mixN b h is bs).nxt = b + (bs.length - is.length)
  | [], [], b, h, _, e => by simpa [mixN] using e
  | [], x :: bs, b, h, _, e => by
    simp only [mixN]
    rw [mix_nxt [] bs (b + 1) (newAt b h x) (by simp) rfl]
    simp only [List.length_nil, List.length_cons]; omega
  | x :: is, [], b, h, hl, _ => by simp at hl
  | x :: is, y :: bs, b, h, hl, e => by
    simp only [mixN]
    rw [mix_nxt is bs b (h.put x y) (by simpa using hl) e]
    simp only [List.length_cons]; omega
theorem mix_tip : ∀ (is : List Nat) (bs : List AB) (b : Nat) (h : Heap) (q : Nat), (mixN b h is bs).tip q = h.tip q
  | [], [], b, h, q => rfl
  | [], x :: bs, b, h, q => by simp only [mixN]; rw [mix_tip [] bs]; rfl
  | x :: is, [], b, h, q => rfl
  | x :: is, y :: bs, b, h, q => by simp only [mixN]; rw [mix_tip is bs]; rfl

/-! ## what is handed over -/
inductive MB where
  | no
  | row (t : TypeId) (cs : List AV)
  | arr (t : TypeId) (z n : Nat) (l : List AV)
def MB.ab : MB → AB
  | .no => .none
  | .row t cs => .row ⟨t, cs.length, .leaf, cs, none⟩
  | .arr t z n l => .arr t z n l
def MB.ren (f : Nat → Nat) : MB → MB
  | .no => .no
  | .row t cs => .row t (rens f cs)
  | .arr t z n l => .arr t z n l
def MB.low (k : Nat) : MB → Bool
  | .row _ cs => lowsB k cs
  | _ => true
def lowM (k : Nat) : List MB → Bool
  | [] => true
  | b :: r => (match b.low k with | true => lowM k r | false => false)
theorem lowM_at {k : Nat} : ∀ {bs : List MB} {j : Nat} {b : MB}, lowM k bs = true → bs[j]? = some b → b.low k = true
  | [], j, b, _, h => by simp at h
  | x :: r, j, b, h, e => by
    simp only [lowM] at h
    split at h
    · rename_i hx
      cases j with
      | zero => simp at e; subst e; exact hx
      | succ j => exact lowM_at (bs := r) h (by simpa using e)
    · cases h
def MbAt (h : Heap) (i : Nat) (b : MB) : Prop :=
  match b with
  | .no => True
  | .row t cs => ∃ r, h.get i = .row r ∧ r.t = t ∧ r.n = cs.length ∧ r.root = none ∧ r.read 0 r.n = cs
  | .arr t z n l => h.get i = .arr t z n l
def MB.live : MB → Bool | .no => false | _ => true
def BlksAt (h : Heap) (f : Nat → Nat) : List Nat → List MB → Prop
  | [], [] => True
  | i :: is, b :: bs => (b.live = true ∧ MbAt h i (b.ren f)) ∧ BlksAt h f is bs
  | _, _ => False
theorem BlksAt.len {h : Heap} {f : Nat → Nat} : ∀ {is : List Nat} {bs : List MB}, BlksAt h f is bs → is.length = bs.length
  | [], [], _ => rfl
  | [], _ :: _, h => h.elim
  | _ :: _, [], h => h.elim
  | i :: is, b :: bs, ⟨_, h⟩ => by simp only [List.length_cons, h.len]
theorem BlksAt.at_ {h : Heap} {f : Nat → Nat} : ∀ {is : List Nat} {bs : List MB} {n j : Nat} {b : MB}, BlksAt h f is bs → bs[j]? = some b → b.live = true ∧ MbAt h (sg is n j) (b.ren f)
  | [], [], n, j, b, _, e => by simp at e
  | [], _ :: _, n, j, b, h, _ => h.elim
  | _ :: _, [], n, j, b, h, _ => h.elim
  | i :: is, b :: bs, n, 0, b', ⟨h, _⟩, e => by simp at e; subst e; exact h
  | i :: is, b :: bs, n, j + 1, b', ⟨_, h⟩, e => by simp only [sg]; exact h.at_ (by simpa using e)
/-- pointers to what is handed over -/
def ptrs : List MB → Nat → List AV
  | [], _ => []
  | .row _ _ :: r, j => .ptr j 0 :: ptrs r (j + 1)
  | .arr _ _ _ _ :: r, j => ptrs r (j + 1)
  | .no :: r, j => ptrs r (j + 1)
theorem ptrs_mem : ∀ {bs : List MB} {n j : Nat} {t : TypeId} {cs : List AV}, bs[j]? = some (.row t cs) → AV.ptr (n + j) 0 ∈ ptrs bs n
  | [], n, j, t, cs, h => by simp at h
  | x :: r, n, 0, t, cs, h => by simp at h; subst h; simp [ptrs]
  | x :: r, n, j + 1, t, cs, h => by
    have ih := ptrs_mem (bs := r) (n := n + 1) (j := j) (by simpa using h)
    rw [show n + 1 + j = n + (j + 1) by omega] at ih
    cases x <;> simp only [ptrs] <;> first | exact List.mem_cons_of_mem _ ih | exact ih
/-- numbers of arrays, and of rows, that are handed over -/
def arrI : List Nat → List MB → List Nat
  | i :: is, .row _ _ :: bs => arrI is bs
  | i :: is, _ :: bs => i :: arrI is bs
  | _, _ => []
def rowI : List Nat → List MB → List Nat
  | i :: is, .row _ _ :: bs => i :: rowI is bs
  | i :: is, _ :: bs => rowI is bs
  | _, _ => []
theorem arr_or : ∀ {is : List Nat} {bs : List MB} {i : Nat}, is.length = bs.length → i ∈ is → inL (arrI is bs) i = true ∨ inL (rowI is bs) i = true
  | [], _, i, _, h => by cases h
  | x :: is, [], i, hl, _ => by simp at hl
  | x :: is, b :: bs, i, hl, h => by
    have hl' : is.length = bs.length := by simpa using hl
    rcases List.mem_cons.1 h with rfl | h
    · cases b <;> simp [arrI, rowI, inL]
    · rcases arr_or hl' h with q | q
      · left
        cases b <;> simp only [arrI] <;> first | exact q | (unfold inL; split <;> first | rfl | exact q)
      · right
        cases b <;> simp only [rowI] <;> first | exact q | (unfold inL; split <;> first | rfl | exact q)
theorem row_at_ : ∀ {is : List Nat} {bs : List MB} {i n : Nat}, inL (rowI is bs) i = true → ∃ j t cs, bs[j]? = some (.row t cs) ∧ sg is n j = i
  | [], _, i, n, h => by simp [rowI, inL] at h
  | x :: is, [], i, n, h => by simp [rowI, inL] at h
  | x :: is, b :: bs, i, n, h => by
    have ih := fun q => row_at_ (is := is) (bs := bs) (i := i) (n := n) q
    cases b with
    | row t cs =>
      simp only [rowI] at h
      unfold inL at h
      split at h
      · rename_i q; exact ⟨0, t, cs, rfl, by simp only [sg]; exact beqT q⟩
      · obtain ⟨j, t', cs', h1, h2⟩ := ih h
        exact ⟨j + 1, t', cs', by simpa using h1, by simpa only [sg] using h2⟩
    | no =>
      obtain ⟨j, t', cs', h1, h2⟩ := ih h
      exact ⟨j + 1, t', cs', by simpa using h1, by simpa only [sg] using h2⟩
    | arr a b c d =>
      obtain ⟨j, t', cs', h1, h2⟩ := ih h
      exact ⟨j + 1, t', cs', by simpa using h1, by simpa only [sg] using h2⟩

/-! ## what others hold stays -/
def nin (A : List Nat) (i : Nat) : Bool := match inL A i with | true => false | false => true
def nin2 (A R : List Nat) (i : Nat) : Bool := match inL A i with | true => false | false => nin R i
theorem nin_f {A : List Nat} {i : Nat} (h : nin A i = true) : inL A i = false := by
  unfold nin at h
  split at h
  · cases h
  · assumption
theorem nin2_f {A R : List Nat} {i : Nat} (h : nin2 A R i = true) : inL A i = false ∧ inL R i = false := by
  unfold nin2 at h
  split at h
  · cases h
  · exact ⟨by assumption, nin_f h⟩
mutual
def okB (A R : List Nat) : AV → Bool
  | .ptr i _ => nin A i
  | .sl i _ _ _ _ => nin2 A R i
  | .esl i => nin2 A R i
  | .mp i => nin2 A R i
  | .own i _ _ => nin2 A R i
  | .optr i _ _ => nin2 A R i
  | .fn f a b => (match (match f with | .yield l => nin2 A R l | _ => true) with | true => (match oksB A R a with | true => oksB A R b | false => false) | false => false)
  | .ifc _ a => okB A R a
  | .agg l => oksB A R l
  | .tup l => oksB A R l
  | _ => true
def oksB (A R : List Nat) : List AV → Bool
  | [] => true
  | a :: l => (match okB A R a with | true => oksB A R l | false => false)
end
structure SubM (A R : List Nat) (ρ σ : Map) : Prop where
  m : ∀ i p, inL A i = false → inL R i = false → ρ i = some p → σ i = some p
  r : ∀ i B N, inL A i = false → inL R i = true → ρ i = some (B, N) → ∃ N', σ i = some (B, N')
  F : ∀ (b j : Nat) (x : Value), (ρ.F b)[j]? = some x → (σ.F b)[j]? = some x
  V : ∀ i n v, inL A i = false → inL R i = false → ρ.V i n = some v → σ.V i n = some v
theorem SubM.d {A R : List Nat} {ρ σ : Map} (h : SubM A R ρ σ) : Sub ρ.d σ.d := ⟨(fun _ _ e => by cases e), h.F, (fun _ _ _ e => by cases e)⟩
theorem SubM.fz {A R : List Nat} {ρ σ : Map} (h : SubM A R ρ σ) {B o : Nat} {L : List Value} (q : Fz ρ B o L) : Fz σ B o L := fun j x e => h.F B _ x (q j x e)
mutual
theorem okB_ok {A R : List Nat} {ρ σ : Map} (s : SubM A R ρ σ) : ∀ (a : AV) {v : Value}, okB A R a = true → VR ρ a v → VR σ a v
  | .bad, _, _, _ => by simp [VR]
  | .bool b, _, _, q => by simpa [VR] using q
  | .int _ _, _, _, q => by simpa [VR] using q
  | .str l, _, _, q => by simpa [VR] using q
  | .nilptr, _, _, q => by simpa [VR] using q
  | .ptr i o, v, h, q => by
    simp only [okB] at h
    simp only [VR] at q ⊢
    obtain ⟨B, N, e, r⟩ := q
    cases hr : inL R i with
    | true => obtain ⟨N', e'⟩ := s.r i B N (nin_f h) hr e; exact ⟨B, N', e', r⟩
    | false => exact ⟨B, N, s.m i _ (nin_f h) hr e, r⟩
  | .nilsl, _, _, q => by simpa [VR] using q
  | .sl i o l c z, v, h, q => by
    simp only [okB] at h
    simp only [VR] at q ⊢
    obtain ⟨B, N, C, e, r⟩ := q; exact ⟨B, N, C, s.m i _ (nin2_f h).1 (nin2_f h).2 e, r⟩
  | .esl i, v, h, q => by
    simp only [okB] at h
    simp only [VR] at q ⊢
    obtain ⟨B, N, o, C, e, r⟩ := q; exact ⟨B, N, o, C, s.m i _ (nin2_f h).1 (nin2_f h).2 e, r⟩
  | .nilmp, _, _, q => by simpa [VR] using q
  | .mp i, v, h, q => by
    simp only [okB] at h
    simp only [VR] at q ⊢
    obtain ⟨B, N, e, r⟩ := q; exact ⟨B, N, s.m i _ (nin2_f h).1 (nin2_f h).2 e, r⟩
  | .nilfn, _, _, q => by simpa [VR] using q
  | .fn f a b, v, h, q => by
    have h' := h
    simp only [okB] at h'
    split at h'
    · rename_i hf
      split at h'
      · rename_i ha
        simp only [VR] at q ⊢
        obtain ⟨f', F, C, e1, e2, e3, e4⟩ := q
        refine ⟨f', F, C, ?_, oksB_ok s a ha e2, oksB_ok s b h' e3, e4⟩
        cases f <;> simp only [FR] at e1 ⊢
        all_goals first | exact e1 | (obtain ⟨B, N, e, r⟩ := e1; exact ⟨B, N, s.m _ _ (nin2_f hf).1 (nin2_f hf).2 e, r⟩)
      · cases h'
    · cases h'
  | .nilifc, _, _, q => by simpa [VR] using q
  | .ifc t a, v, h, q => by
    simp only [okB] at h
    simp only [VR] at q ⊢
    obtain ⟨x, e, r⟩ := q; exact ⟨x, okB_ok s a h e, r⟩
  | .agg l, v, h, q => by
    simp only [okB] at h
    simp only [VR] at q ⊢
    obtain ⟨x, e, r⟩ := q; exact ⟨x, oksB_ok s l h e, r⟩
  | .tup l, v, h, q => by
    simp only [okB] at h
    simp only [VR] at q ⊢
    obtain ⟨x, e, r⟩ := q; exact ⟨x, oksB_ok s l h e, r⟩
  | .gptr g o, _, _, q => by simpa [VR] using q
  | .anyb, _, _, q => by simpa [VR] using q
  | .big n, _, _, q => by simpa [VR] using q
  | .low n, _, _, q => by simpa [VR] using q
  | .anyi, _, _, q => by simpa [VR] using q
  | .rsl n z l, v, h, q => by
    simp only [VR] at q ⊢
    obtain ⟨h0, k | ⟨B, o, C, L, e1, e2, e3, e4⟩⟩ := q
    · exact ⟨h0, .inl k⟩
    · exact ⟨h0, .inr ⟨B, o, C, L, e1, e2, VRs.mono s.d l e3, s.fz e4⟩⟩
  | .rptr l, v, h, q => by
    simp only [VR] at q ⊢
    obtain ⟨B, o, L, e1, e3, e4⟩ := q
    exact ⟨B, o, L, e1, VRs.mono s.d l e3, s.fz e4⟩
  | .csl, _, _, q => by simpa [VR] using q
  | .own i m z, v, h, q => by
    simp only [okB] at h
    simp only [VR] at q ⊢; exact ⟨s.V _ _ _ (nin2_f h).1 (nin2_f h).2 q.1, q.2⟩
  | .optr i m o, v, h, q => by
    simp only [okB] at h
    simp only [VR] at q ⊢
    obtain ⟨B, C, e1, e2⟩ := q
    exact ⟨B, C, s.V _ _ _ (nin2_f h).1 (nin2_f h).2 e1, e2⟩
theorem oksB_ok {A R : List Nat} {ρ σ : Map} (s : SubM A R ρ σ) : ∀ (l : List AV) {L : List Value}, oksB A R l = true → VRs ρ l L → VRs σ l L
  | [], _, _, q => by simpa [VRs] using q
  | a :: l, L, h, q => by
    have h' := h
    simp only [oksB] at h'
    split at h'
    · rename_i ha
      simp only [VRs] at q ⊢
      obtain ⟨x, r, e1, e2, e3⟩ := q
      exact ⟨x, r, okB_ok s a ha e1, oksB_ok s l h' e2, e3⟩
    · cases h'
end
/-- a block, and what stands in it -/
def ABOk (A R : List Nat) (b : AB) : Prop :=
  match b with
  | .none => True
  | .row r => ((List.range r.n).all fun j => okB A R (r.get j)) = true
  | .loop l => ∃ lst, l.e = T.put und lst .leaf 0 ∧ oksB A R lst = true ∧ nin2 A R l.defers = true
  | .dfr _ => True
  | .arr _ _ _ _ => True
  | _ => False
theorem put_okB {A R : List Nat} : ∀ {lst : List AV}, oksB A R lst = true → ∀ t, okB A R ((T.put und lst (.leaf : T AV) 0).get und t) = true := fun {lst} h t => by
  rw [get_put]
  simp only [Nat.zero_le, if_true, Nat.sub_zero, get_leaf]
  have key : ∀ (l : List AV), oksB A R l = true → ∀ (i : Nat) (a : AV), l[i]? = some a → okB A R a = true := by
    intro l
    induction l with
    | nil => intro _ i a q; simp at q
    | cons x l ih =>
      intro h i a q
      simp only [oksB] at h
      split at h
      · rename_i hx
        cases i with
        | zero => simp at q; subst q; exact hx
        | succ i => exact ih h i a (by simpa using q)
      · cases h
  cases hq : lst[t]? with
  | none => rfl
  | some a => exact key lst h t a hq
theorem ABR.okm {A R : List Nat} {ρ σ : Map} (s : SubM A R ρ σ) {b : AB} (hb : ABOk A R b) {B N : Nat} {w : World} (h : ABR ρ b B N w) : ABR σ b B N w := by
  cases b with
  | none => trivial
  | row r =>
    refine ⟨h.1, h.2.1, h.2.2.1, fun j hj => ?_⟩
    obtain ⟨v, a, q⟩ := h.2.2.2 j hj
    exact ⟨v, a, okB_ok s _ (List.all_eq_true.1 hb j (List.mem_range.2 hj)) q⟩
  | loop l =>
    obtain ⟨lst, e1, e2, e3⟩ := hb
    obtain ⟨fn, tm, D, M, a, q, r⟩ := h
    refine ⟨fn, tm, D, M, a, ⟨q.1, fun t => ?_⟩, s.m _ _ (nin2_f e3).1 (nin2_f e3).2 r⟩
    have := q.2 t
    rw [e1] at this ⊢
    exact okB_ok s _ (put_okB e2 t) this
  | dfr b => exact h
  | arr t z m l =>
    have h : RowOk ρ.d ⟨t, m * z, .leaf, l, none⟩ B N w := h
    exact RowOk.mono h s.d
  | map es c => exact hb.elim
  | sit l p => exact hb.elim
  | mit m a b c => exact hb.elim
  | gl r => exact hb.elim
def HOk (is A R : List Nat) (h : Heap) : Prop := allN h.nxt fun i => inL is i = true ∨ ABOk A R (h.get i)
theorem HOk.at_ {is A R : List Nat} {h : Heap} (q : HOk is A R h) (wf : WF h) {i : Nat} (hi : i ∉ is) : ABOk A R (h.get i) := by
  rcases Nat.lt_or_ge i h.nxt with q' | q'
  · rcases allN_at q q' with r | r
    · exact absurd (inL_mem r) hi
    · exact r
  · rw [wf.fresh i q']; trivial
end Go.Px
end
/- PxVa -/
section
set_option linter.unusedVariables false
set_option linter.unusedSimpArgs false
namespace Go.Px

theorem Row.read_get (r : Row) (n j : Nat) (h : j < n) : (r.read 0 n).getD j .bad = r.get j := by
  rw [Row.read_eq, List.getD_eq_getElem?_getD, Row.readS_at r n 0 j h, Nat.zero_add]; rfl
theorem sg_mem {b : Nat} : ∀ {is : List Nat} {i : Nat}, i ∈ is → ∃ j, j < is.length ∧ sg is b j = i
  | x :: r, i, h => by
    rcases List.mem_cons.1 h with rfl | h
    · exact ⟨0, by simp, rfl⟩
    · obtain ⟨j, j1, j2⟩ := sg_mem (b := b) h
      exact ⟨j + 1, by simpa using j1, by simpa only [sg] using j2⟩
theorem hq_get (N : Nat) (bs : List AB) (i : Nat) : (hq N bs).get i = (bs[i]?).getD .none := by
  show (T.put AB.none bs .leaf 0).get .none i = _
  rw [get_put]
  simp
theorem hq_ab (N : Nat) (bs : List MB) (i : Nat) : (hq N (bs.map MB.ab)).get i = ((bs[i]?).map MB.ab).getD .none := by
  rw [hq_get, List.getElem?_map]
/-- a block out of such a heap -/
theorem hq_mb {N : Nat} {bs : List MB} {i : Nat} {b : AB} (h : (hq N (bs.map MB.ab)).get i = b) (hn : b ≠ .none) : ∃ x, bs[i]? = some x ∧ x.ab = b := by
  rw [hq_ab] at h
  cases e : bs[i]? with
  | none => rw [e] at h; exact absurd h.symm hn
  | some x => rw [e] at h; exact ⟨x, rfl, h⟩
theorem hq_wf {N : Nat} {bs : List MB} (hN : bs.length = N) : WF (hq N (bs.map MB.ab)) := by
  refine ⟨fun i hi => ?_, fun i r q a b => ?_, fun i r q t a b c => ?_, fun q _ => get_leaf none q⟩
  · have hi : N ≤ i := hi
    rw [hq_ab, List.getElem?_eq_none (by omega)]; rfl
  · obtain ⟨x, x1, x2⟩ := hq_mb a (by simp)
    cases x <;> simp only [MB.ab] at x2 <;> cases x2
    cases b
  · obtain ⟨x, x1, x2⟩ := hq_mb a (by simp)
    cases x <;> simp only [MB.ab] at x2 <;> cases x2
    cases b
theorem hq_okm {N : Nat} {bs : List MB} {i : Nat} (h : (hq N (bs.map MB.ab)).ok i) : ∃ x, bs[i]? = some x ∧ (hq N (bs.map MB.ab)).get i = x.ab ∧ x.live = true := by
  have hne : (hq N (bs.map MB.ab)).get i ≠ .none := fun q => by unfold Heap.ok at h; rw [q] at h; exact h
  obtain ⟨x, x1, x2⟩ := hq_mb (b := (hq N (bs.map MB.ab)).get i) rfl hne
  refine ⟨x, x1, x2.symm, ?_⟩
  cases x with
  | no => exact absurd x2.symm hne
  | row t cs => rfl
  | arr t z n l => rfl

/-- which blocks those are -/
def opnOf (ρ : Map) (B : Nat) : Prop := ∃ j N, ρ j = some (B, N)
/-- a callee's numbers -/
def inMap (ρ : Map) (is : List Nat) (b k : Nat) : Map := cutN (pull ρ (sg is b)) k
theorem inMap_m {ρ : Map} {is : List Nat} {b k j : Nat} {p : Nat × Nat} (h : inMap ρ is b k j = some p) : j < k ∧ ρ (sg is b j) = some p := by
  unfold inMap at h
  by_cases hj : j < k
  · rw [cutN_m hj] at h; exact ⟨hj, h⟩
  · rw [cutN_n hj] at h; cases h
theorem MbAt.okk {h : Heap} {i : Nat} {b : MB} (hl : b.live = true) (hb : MbAt h i b) : h.ok i := by
  cases b with
  | no => cases hl
  | row t cs =>
    obtain ⟨r, r1, _, _, r4, _⟩ := hb
    unfold Heap.ok; rw [r1]; simp only []; rw [Heap.row_of r1, r4]; rfl
  | arr t z n l =>
    have hb : h.get i = .arr t z n l := hb
    unfold Heap.ok; rw [hb]; trivial
theorem MbAt.noroot {h : Heap} {i : Nat} {b : MB} (hl : b.live = true) (hb : MbAt h i b) {r : Row} (e : h.get i = .row r) : r.root = none := by
  cases b with
  | no => cases hl
  | row t cs =>
    obtain ⟨r', r1, _, _, r4, _⟩ := hb
    rw [r1] at e; cases e; exact r4
  | arr t z n l =>
    have hb : h.get i = .arr t z n l := hb
    rw [hb] at e; cases e
theorem MbAt.nogl {h : Heap} {i : Nat} {b : MB} (hl : b.live = true) (hb : MbAt h i b) {r : Row} : h.get i ≠ .gl r := by
  cases b with
  | no => cases hl
  | row t cs =>
    obtain ⟨r', r1, _⟩ := hb
    rw [r1]; exact fun e => by cases e
  | arr t z n l =>
    have hb : h.get i = .arr t z n l := hb
    rw [hb]; exact fun e => by cases e

theorem ren_live {f : Nat → Nat} {b : MB} : (b.ren f).live = b.live := by cases b <;> rfl
section
variable {X : Cx} {ρ : Map} {h : Heap} {w : World} (p : PI X ρ h w) {is : List Nat} {bs : List MB}
include p
/-- INTO A CALL -/
theorem PI.enter (hg : ∀ i r, X.c.g0.get i ≠ .gl r) (hap : apart h.nxt is = true) (hb : BlksAt h (sg is h.nxt) is bs) (hlow : lowM bs.length bs = true) {gx : List Value} (hgx : VRs (inMap ρ is h.nxt bs.length) (ptrs bs 0) gx) :
    PI ⟨X.c, w, ρ.F, opnOf (inMap ρ is h.nxt bs.length), none, none, [], ptrs bs 0, gx⟩ (inMap ρ is h.nxt bs.length) (hq bs.length (bs.map MB.ab)) w := by
  have hlen := hb.len
  refine ⟨⟨fun i B N e => p.hr.lt _ B N (inMap_m e).2, fun i B N e q => ?_, fun i j B N M hij e1 e2 k1 k2 => ?_, fun i r q => ?_, p.hr.fz, fun i B N e q => ?_, fun i t z n l q => ?_⟩, hq_wf rfl, ⟨fun i hi => cutN_n (show ¬ i < bs.length from Nat.not_lt.2 hi), fun i r q => absurd q (hg i r)⟩, fun i hi n => if_neg (show ¬ i < bs.length from Nat.not_lt.2 hi), fun i t z n l q m' hm' => ?_, ⟨Same.refl w, fun _ _ => rfl⟩, fun i B N e hs => hs.2 ⟨i, N, e⟩, fun _ _ _ e => e, fun _ _ => rfl, hgx, fun G q => by cases q⟩
  · obtain ⟨hi, e'⟩ := inMap_m e
    obtain ⟨x, x1, x2, x3⟩ := hq_okm q
    obtain ⟨_, y2⟩ := hb.at_ (n := h.nxt) x1
    have hok := MbAt.okk (by rw [ren_live]; exact x3) y2
    have hr := p.hr.ok _ B N e' hok
    rw [x2]
    cases x with
    | no => trivial
    | arr t z n l =>
      have y2 : h.get (sg is h.nxt i) = .arr t z n l := y2
      rw [y2] at hr; exact hr
    | row t cs =>
      obtain ⟨r, r1, r2, r3, r4, r5⟩ := y2
      rw [r1] at hr
      have hr : RowOk ρ r B N w := hr
      rw [rens_length] at r3
      refine ⟨by rw [← r2]; exact hr.1, by rw [← r3]; exact hr.2.1, hr.2.2.1, fun j hj => ?_⟩
      have hj : j < cs.length := hj
      obtain ⟨v, v1, v2⟩ := hr.2.2.2 j (by omega)
      refine ⟨v, v1, ?_⟩
      rw [row_at_i hj]
      have e5 : r.get j = ren (sg is h.nxt) (cs.getD j .bad) := by
        rw [← rens_get, ← r5, Row.read_get r r.n j (by omega)]
      rw [e5] at v2
      exact low_ok _ (lows_at (lowM_at hlow x1) hj) ((vr_ren _ _).1 v2)
  · obtain ⟨x, x1, x2, x3⟩ := hq_okm k1
    obtain ⟨y, y1, y2, y3⟩ := hq_okm k2
    obtain ⟨_, z1⟩ := hb.at_ (n := h.nxt) x1
    obtain ⟨_, z2⟩ := hb.at_ (n := h.nxt) y1
    obtain ⟨r, s, q, a, b, c, _⟩ := p.hr.inj _ _ B N M (fun e => hij (sg_inj hap e)) (inMap_m e1).2 (inMap_m e2).2 (MbAt.okk (by rw [ren_live]; exact x3) z1) (MbAt.okk (by rw [ren_live]; exact y3) z2)
    rw [MbAt.noroot (by rw [ren_live]; exact x3) z1 a] at c; cases c
  · obtain ⟨x, x1, x2⟩ := hq_mb q (by simp)
    cases x <;> simp only [MB.ab] at x2 <;> cases x2
  · obtain ⟨x, x1, x2, x3⟩ := hq_okm q
    obtain ⟨_, z1⟩ := hb.at_ (n := h.nxt) x1
    exact .inl (p.hr.F_row (inMap_m e).2 (MbAt.okk (by rw [ren_live]; exact x3) z1) (fun r => MbAt.nogl (by rw [ren_live]; exact x3) z1))
  · obtain ⟨x, x1, x2⟩ := hq_mb q (by simp)
    cases x <;> simp only [MB.ab] at x2 <;> cases x2
    obtain ⟨_, y2⟩ := hb.at_ (n := h.nxt) x1
    have hi := (List.getElem?_eq_some_iff.1 x1).1
    obtain ⟨h0, ⟨a, b⟩ | ⟨a, B, N, C, e1, e2, e3⟩⟩ := p.hr.av _ t z n l y2
    · exact ⟨h0, .inl ⟨a, (cutN_V hi _).trans b⟩⟩
    · exact ⟨h0, .inr ⟨a, B, N, C, (cutN_m hi).trans e1, (cutN_V hi _).trans e2, e3⟩⟩
  · obtain ⟨x, x1, x2⟩ := hq_mb q (by simp)
    cases x <;> simp only [MB.ab] at x2 <;> cases x2
    obtain ⟨_, y2⟩ := hb.at_ (n := h.nxt) x1
    exact (cutN_V (List.getElem?_eq_some_iff.1 x1).1 _).trans (p.vu _ t z n l y2 m' hm')

/-- a caller's numbers, behind a call -/
def outMap (ρ ρ' : Map) (is : List Nat) (b k : Nat) : Map :=
  ⟨fun i => (match tau is b i with | some j => cutN ρ' k j | none => ρ i), ρ'.F, fun i n => (match tau is b i with | some j => (cutN ρ' k).V j n | none => ρ.V i n)⟩
omit p in
theorem outMap_m {ρ ρ' : Map} {is : List Nat} {b k i j : Nat} (e : tau is b i = some j) : outMap ρ ρ' is b k i = cutN ρ' k j := by unfold outMap; simp only [e]
omit p in
theorem outMap_n {ρ ρ' : Map} {is : List Nat} {b k i : Nat} (e : tau is b i = none) : outMap ρ ρ' is b k i = ρ i := by unfold outMap; simp only [e]
omit p in
theorem outMap_V {ρ ρ' : Map} {is : List Nat} {b k i j : Nat} (e : tau is b i = some j) (n : Nat) : (outMap ρ ρ' is b k).V i n = (cutN ρ' k).V j n := by unfold outMap; simp only [e]
omit p in
theorem outMap_W {ρ ρ' : Map} {is : List Nat} {b k i : Nat} (e : tau is b i = none) (n : Nat) : (outMap ρ ρ' is b k).V i n = ρ.V i n := by unfold outMap; simp only [e]
omit p in
theorem outMap_ren {ρ ρ' : Map} {is : List Nat} {b k : Nat} (hap : apart b is = true) {v : AV} {z : Value} (hl : lowB k v = true) (h : VR ρ' v z) : VR (outMap ρ ρ' is b k) (ren (sg is b) v) z := by
  refine (vr_ren _ _).2 (VR.mono (ρ := cutN ρ' k) (σ := pull (outMap ρ ρ' is b k) (sg is b)) ⟨fun i q e => ?_, fun _ _ _ e => e, fun i n q e => ?_⟩ v (low_ok v hl h))
  · show outMap ρ ρ' is b k (sg is b i) = some q
    rw [outMap_m (tau_sg i hap)]; exact e
  · show (outMap ρ ρ' is b k).V (sg is b i) n = some q
    rw [outMap_V (tau_sg i hap)]; exact e
omit p in
theorem outMap_rens {ρ ρ' : Map} {is : List Nat} {b k : Nat} (hap : apart b is = true) : ∀ {l : List AV} {L : List Value}, lowsB k l = true → VRs ρ' l L → VRs (outMap ρ ρ' is b k) (rens (sg is b) l) L
  | [], L, _, h => by simpa [rens, VRs] using h
  | a :: l, L, hl, h => by
    simp only [lowsB] at hl
    split at hl
    · rename_i ha
      simp only [rens, VRs] at h ⊢
      obtain ⟨x, r, e1, e2, e3⟩ := h
      exact ⟨x, r, outMap_ren hap ha e1, outMap_rens hap hl e2, e3⟩
    · cases hl
/-- OUT OF A CALL -/
theorem PI.back (hg : ∀ i r, X.c.g0.get i ≠ .gl r) (hap : apart h.nxt is = true) (hb : BlksAt h (sg is h.nxt) is bs) {gx : List Value} (hgx : VRs (inMap ρ is h.nxt bs.length) (ptrs bs 0) gx)
    (hI : HOk is (arrI is bs) (rowI is bs) h) (hG : oksB (arrI is bs) (rowI is bs) X.gv = true) (hz : X.g = none ∨ (nin is 0 && nin is 1 && Nat.ble 2 h.nxt) = true) {bs' : List MB} (hle : bs.length ≤ bs'.length) (hlow : lowM bs'.length bs' = true) {ρ' : Map} {w' : World}
    (q : PI ⟨X.c, w, ρ.F, opnOf (inMap ρ is h.nxt bs.length), none, none, [], ptrs bs 0, gx⟩ ρ' (hq bs'.length (bs'.map MB.ab)) w') :
    PI X (outMap ρ ρ' is h.nxt bs'.length) (mixN h.nxt h is (bs'.map fun b => (b.ren (sg is h.nxt)).ab)) w' ∧ SubM (arrI is bs) (rowI is bs) ρ (outMap ρ ρ' is h.nxt bs'.length) := by
  have hlen := hb.len
  have hle' : is.length ≤ (bs'.map fun b => (b.ren (sg is h.nxt)).ab).length := by rw [List.length_map]; omega
  have hnew : ∀ i, h.nxt ≤ i → ρ i = none := fun i hi => p.fr.1 i hi
  have hsome : ∀ {i j}, tau is h.nxt i = some j → sg is h.nxt j = i := fun e => sg_tau e
  have hnone : ∀ {i}, tau is h.nxt i = none → i ∉ is ∧ i < h.nxt := fun {i} e => by
    constructor
    · intro hi
      obtain ⟨j, hj, rfl⟩ := sg_mem (b := h.nxt) hi
      rw [tau_sg j hap] at e; cases e
    · rcases Nat.lt_or_ge i h.nxt with r | r
      · exact r
      · have e2 : sg is h.nxt (is.length + (i - h.nxt)) = i := by rw [sg_ge (by omega)]; omega
        rw [← e2, tau_sg _ hap] at e; cases e
  -- the heap
  have g1 : ∀ {i j}, tau is h.nxt i = some j → ∀ {b}, bs'[j]? = some b → (mixN h.nxt h is (bs'.map fun b => (b.ren (sg is h.nxt)).ab)).get i = (b.ren (sg is h.nxt)).ab := fun {i j} e {b} hb' => by
    rw [mix_get _ _ _ _ _ hle' hap, e]
    simp only [List.getElem?_map, hb', Option.map_some, Option.getD_some]
  have g2 : ∀ {i}, tau is h.nxt i = none → (mixN h.nxt h is (bs'.map fun b => (b.ren (sg is h.nxt)).ab)).get i = h.get i := fun {i} e => by
    rw [mix_get _ _ _ _ _ hle' hap, e]
  have g3 : ∀ {i j}, tau is h.nxt i = some j → bs'[j]? = none → (mixN h.nxt h is (bs'.map fun b => (b.ren (sg is h.nxt)).ab)).get i = .none := fun {i j} e hb' => by
    rw [mix_get _ _ _ _ _ hle' hap, e]
    simp only [List.getElem?_map, hb', Option.map_none, Option.getD_none]
    have := List.getElem?_eq_none_iff.1 hb'
    have e2 := hsome e
    rw [sg_ge (by omega)] at e2
    exact p.wf.fresh i (by omega)
  have gn := mix_nxt is (bs'.map fun b => (b.ren (sg is h.nxt)).ab) h.nxt h hle' rfl
  rw [List.length_map] at gn
  have gt := mix_tip is (bs'.map fun b => (b.ren (sg is h.nxt)).ab) h.nxt h
  generalize mixN h.nxt h is (bs'.map fun b => (b.ren (sg is h.nxt)).ab) = H at *
  -- a place of H that is one of the callee's
  have hin : ∀ {i j}, tau is h.nxt i = some j → H.ok i → ∃ b, bs'[j]? = some b ∧ H.get i = (b.ren (sg is h.nxt)).ab ∧ b.live = true ∧ (hq bs'.length (bs'.map MB.ab)).ok j ∧ (hq bs'.length (bs'.map MB.ab)).get j = b.ab := fun {i j} e o => by
    cases hb' : bs'[j]? with
    | none => unfold Heap.ok at o; rw [g3 e hb'] at o; exact o.elim
    | some b =>
      have hgj : (hq bs'.length (bs'.map MB.ab)).get j = b.ab := by rw [hq_ab, hb']; rfl
      refine ⟨b, rfl, g1 e hb', ?_, ?_, hgj⟩
      · cases b with
        | no => unfold Heap.ok at o; rw [g1 e hb'] at o; exact o.elim
        | row t cs => rfl
        | arr t z n l => rfl
      · cases b with
        | no => unfold Heap.ok at o; rw [g1 e hb'] at o; exact o.elim
        | row t cs =>
          have hgj : (hq bs'.length (bs'.map MB.ab)).get j = .row ⟨t, cs.length, .leaf, cs, none⟩ := hgj
          unfold Heap.ok; rw [hgj]; simp only []; rw [Heap.row_of hgj]; rfl
        | arr t z n l =>
          have hgj : (hq bs'.length (bs'.map MB.ab)).get j = .arr t z n l := hgj
          unfold Heap.ok; rw [hgj]; trivial
  have hoth : ∀ {i}, tau is h.nxt i = none → (H.ok i ↔ h.ok i) := fun e => Heap.ok_same (g2 e) (fun r q _ _ => by rw [gt])
  have hsz : w.heap.size ≤ w'.heap.size := q.ext.1.size
  -- the others' blocks stay
  have other : ∀ {i B N}, tau is h.nxt i = none → ρ i = some (B, N) → h.ok i → ¬ opnOf (inMap ρ is h.nxt bs.length) B := fun {i B N} e e1 o ⟨j, M, ej⟩ => by
    obtain ⟨hj, e2⟩ := inMap_m ej
    have hne : i ≠ sg is h.nxt j := fun ee => by rw [ee, tau_sg j hap] at e; cases e
    obtain ⟨b, hbj⟩ : ∃ b, bs[j]? = some b := ⟨_, List.getElem?_eq_getElem hj⟩
    obtain ⟨y1, y2⟩ := hb.at_ (n := h.nxt) hbj
    obtain ⟨r, s, qq, a, c, d, f⟩ := p.hr.inj i _ B N M hne e1 e2 o (MbAt.okk (by rw [ren_live]; exact y1) y2)
    rw [MbAt.noroot (by rw [ren_live]; exact y1) y2 c] at f; cases f
  have stay : ∀ {i B N}, tau is h.nxt i = none → ρ i = some (B, N) → h.ok i → w'.heap[B]? = w.heap[B]? ∧ ρ'.F B = ρ.F B := fun {i B N} e e1 o => by
    have hB := p.hr.lt i B N e1
    exact ⟨q.ext.2 B ⟨hB, other e e1 o⟩, q.old B ⟨hB, other e e1 o⟩⟩
  -- what is no more shut
  have open_ : ∀ {B}, opnOf (inMap ρ is h.nxt bs.length) B → ¬ X.shut B := fun {B} ⟨j, M, ej⟩ => p.mine _ B M (inMap_m ej).2
  have hs : SubM (arrI is bs) (rowI is bs) ρ (outMap ρ ρ' is h.nxt bs'.length) := by
    refine ⟨fun i pp a r e => ?_, fun i B N a r e => ?_, q.sub, fun i n v a r e => ?_⟩
    · cases ht : tau is h.nxt i with
      | none => rw [outMap_n ht]; exact e
      | some j =>
        have hi : i < h.nxt := by
          rcases Nat.lt_or_ge i h.nxt with x | x
          · exact x
          · rw [hnew i x] at e; cases e
        have hj := tau_lt ht hi
        have hmem : i ∈ is := by
          rcases sg_in is h.nxt j with x | x
          · rw [hsome ht] at x; exact x
          · rw [hsome ht] at x; omega
        rcases arr_or hlen hmem with x | x
        · rw [a] at x; cases x
        · rw [r] at x; cases x
    · obtain ⟨j, t, cs, j1, j2⟩ := row_at_ (n := h.nxt) r
      have hj := (List.getElem?_eq_some_iff.1 j1).1
      have hm := ptrs_mem (n := 0) j1
      rw [Nat.zero_add] at hm
      obtain ⟨m, hm⟩ := List.getElem?_of_mem hm
      have k1 := VRs.iff.1 hgx
      have k2 := VRs.iff.1 q.keep
      have hgl : m < gx.length := by rw [← k1.1]; exact (List.getElem?_eq_some_iff.1 hm).1
      have v1 := k1.2 m _ _ hm (List.getElem?_eq_getElem hgl)
      have v2 := k2.2 m _ _ hm (List.getElem?_eq_getElem hgl)
      simp only [VR] at v1 v2
      obtain ⟨B1, N1, c1, d1⟩ := v1
      obtain ⟨B2, N2, c2, d2⟩ := v2
      rw [d1] at d2
      cases d2
      have := (inMap_m c1).2
      rw [j2, e] at this
      cases this
      refine ⟨N2, ?_⟩
      rw [← j2, outMap_m (tau_sg j hap), cutN_m (by omega)]; exact c2
    · cases ht : tau is h.nxt i with
      | none => rw [outMap_W ht]; exact e
      | some j =>
        have hi : i < h.nxt := by
          rcases Nat.lt_or_ge i h.nxt with x | x
          · exact x
          · rw [p.vf i x] at e; cases e
        have hmem : i ∈ is := by
          rcases sg_in is h.nxt j with x | x
          · rw [hsome ht] at x; exact x
          · rw [hsome ht] at x; omega
        rcases arr_or hlen hmem with x | x
        · rw [a] at x; cases x
        · rw [r] at x; cases x
  have mineNew : ∀ {j B N}, ρ' j = some (B, N) → ¬ X.shut B := fun {j B N} e hsh => by
    have := q.mine j B N e
    refine this ⟨Nat.lt_of_lt_of_le hsh.1 p.ext.1.size, fun o => open_ o hsh⟩
  refine ⟨⟨⟨fun i B N e => ?_, fun i B N e o => ?_, fun i j B N M hij e1 e2 k1 k2 => ?_, fun i r e => ?_, q.hr.fz, fun i B N e o => ?_, fun i t z n l e => ?_⟩, ⟨fun i hi => ?_, fun i r qq a b => ?_, fun i r qq t a b c => ?_, fun qq hqq => ?_⟩, ⟨fun i hi => ?_, fun i r e => absurd e (hg i r)⟩, fun i hi n => ?_, fun i t z n l e m' hm' => ?_, ⟨p.ext.1.trans q.ext.1, fun b hbs => ?_⟩, fun i B N e => ?_, fun b j x e => q.sub b j x (p.sub b j x e), fun b hbs => ?_, oksB_ok hs _ hG p.keep, hz.elim (fun q G e => by rw [q] at e; cases e) fun hz => p.gh.go (fun t z n l e => ?_) q.ext.1 (fun b hbs hno => q.ext.2 b ⟨hbs, fun ⟨j, M, ej⟩ => ?_⟩) (fun i B N e o => ?_) (fun b hbs hno => q.old b ⟨hbs, fun ⟨j, M, ej⟩ => ?_⟩) (fun B N e => .inl ⟨N, ?_⟩) (fun b e => ?_) q.sub⟩, hs⟩
  · cases ht : tau is h.nxt i with
    | none => rw [outMap_n ht] at e; exact Nat.lt_of_lt_of_le (p.hr.lt i B N e) hsz
    | some j =>
      rw [outMap_m ht] at e
      by_cases hj : j < bs'.length
      · rw [cutN_m hj] at e; exact q.hr.lt j B N e
      · rw [cutN_n hj] at e; cases e
  · cases ht : tau is h.nxt i with
    | none =>
      rw [outMap_n ht] at e
      have o' := (hoth ht).1 o
      rw [g2 ht]
      exact ((p.hr.ok i B N e o').block (stay ht e o').1).okm hs (hI.at_ p.wf (hnone ht).1)
    | some j =>
      obtain ⟨b, b1, b2, b3, b4, b5⟩ := hin ht o
      have hj := (List.getElem?_eq_some_iff.1 b1).1
      rw [outMap_m ht, cutN_m hj] at e
      have hr := q.hr.ok j B N e b4
      rw [b5] at hr
      rw [b2]
      cases b with
      | no => trivial
      | arr t z n l => exact hr
      | row t cs =>
        have hr : RowOk ρ' ⟨t, cs.length, .leaf, cs, none⟩ B N w' := hr
        refine ⟨hr.1, by show (rens _ cs).length ≤ N; rw [rens_length]; exact hr.2.1, hr.2.2.1, fun m hm => ?_⟩
        have hm : m < (rens (sg is h.nxt) cs).length := hm
        have hm' : m < cs.length := by rw [rens_length] at hm; exact hm
        obtain ⟨v, v1, v2⟩ := hr.2.2.2 m hm'
        refine ⟨v, v1, ?_⟩
        rw [row_at_i hm'] at v2
        show VR _ (Row.get ⟨t, (rens (sg is h.nxt) cs).length, .leaf, rens (sg is h.nxt) cs, none⟩ m) v
        rw [row_at_i hm, rens_get]
        exact outMap_ren hap (lows_at (lowM_at hlow b1) hm') v2
  · cases ht : tau is h.nxt i with
    | none =>
      rw [outMap_n ht] at e1
      have o1 := (hoth ht).1 k1
      cases hu : tau is h.nxt j with
      | none =>
        rw [outMap_n hu] at e2
        obtain ⟨r, s, qq, a, b, c⟩ := p.hr.inj i j B N M hij e1 e2 o1 ((hoth hu).1 k2)
        exact ⟨r, s, qq, by rw [g2 ht]; exact a, by rw [g2 hu]; exact b, c⟩
      | some l =>
        exfalso
        obtain ⟨b, b1, b2, b3, b4, b5⟩ := hin hu k2
        have hl := (List.getElem?_eq_some_iff.1 b1).1
        rw [outMap_m hu, cutN_m hl] at e2
        exact q.mine l B M e2 ⟨p.hr.lt i B N e1, other ht e1 o1⟩
    | some l =>
      obtain ⟨b, b1, b2, b3, b4, b5⟩ := hin ht k1
      have hl := (List.getElem?_eq_some_iff.1 b1).1
      rw [outMap_m ht, cutN_m hl] at e1
      exfalso
      cases hu : tau is h.nxt j with
      | none =>
        rw [outMap_n hu] at e2
        exact q.mine l B N e1 ⟨p.hr.lt j B M e2, other hu e2 ((hoth hu).1 k2)⟩
      | some l2 =>
        obtain ⟨b', b1', b2', b3', b4', b5'⟩ := hin hu k2
        have hl' := (List.getElem?_eq_some_iff.1 b1').1
        rw [outMap_m hu, cutN_m hl'] at e2
        obtain ⟨r, s, qq, a, x, c, _⟩ := q.hr.inj l l2 B N M (fun e => hij (by rw [← hsome ht, ← hsome hu, e])) e1 e2 b4 b4'
        rw [b5] at a
        cases b <;> simp only [MB.ab] at a <;> cases a
        cases c
  · cases ht : tau is h.nxt i with
    | none =>
      rw [g2 ht] at e
      obtain ⟨N, hN⟩ := p.hr.gl i r e
      exact ⟨N, by rw [outMap_n ht]; exact hN⟩
    | some j =>
      obtain ⟨b, b1, b2, b3, b4, b5⟩ := hin ht (by unfold Heap.ok; rw [e]; trivial)
      rw [b2] at e
      cases b <;> cases e
  · cases ht : tau is h.nxt i with
    | none =>
      rw [outMap_n ht] at e
      have o' := (hoth ht).1 o
      rw [g2 ht]
      show ρ'.F B = [] ∨ _
      rw [(stay ht e o').2]
      exact p.hr.sep i B N e o'
    | some j =>
      obtain ⟨b, b1, b2, b3, b4, b5⟩ := hin ht o
      have hj := (List.getElem?_eq_some_iff.1 b1).1
      rw [outMap_m ht, cutN_m hj] at e
      rcases q.hr.sep j B N e b4 with x | ⟨r, x⟩
      · exact .inl x
      · rw [b5] at x
        cases b <;> cases x
  · cases ht : tau is h.nxt i with
    | none =>
      rw [g2 ht] at e
      obtain ⟨h0, ⟨a, b⟩ | ⟨a, B, N, C, e1, e2, e3⟩⟩ := p.hr.av i t z n l e
      · exact ⟨h0, .inl ⟨a, by rw [outMap_W ht]; exact b⟩⟩
      · exact ⟨h0, .inr ⟨a, B, N, C, by rw [outMap_n ht]; exact e1, by rw [outMap_W ht]; exact e2, e3⟩⟩
    | some j =>
      obtain ⟨b, b1, b2, b3, b4, b5⟩ := hin ht (by unfold Heap.ok; rw [e]; trivial)
      have hj := (List.getElem?_eq_some_iff.1 b1).1
      rw [b2] at e
      cases b with
      | no => cases e
      | row _ _ => cases e
      | arr t' z' n' l' =>
        cases e
        obtain ⟨h0, ⟨a, b⟩ | ⟨a, B, N, C, e1, e2, e3⟩⟩ := q.hr.av j _ _ _ _ b5
        · exact ⟨h0, .inl ⟨a, by rw [outMap_V ht, cutN_V hj]; exact b⟩⟩
        · exact ⟨h0, .inr ⟨a, B, N, C, by rw [outMap_m ht, cutN_m hj]; exact e1, by rw [outMap_V ht, cutN_V hj]; exact e2, e3⟩⟩
  · rw [gn] at hi
    cases ht : tau is h.nxt i with
    | none => have := (hnone ht).2; omega
    | some j =>
      have e2 := hsome ht
      refine g3 ht (List.getElem?_eq_none ?_)
      rcases Nat.lt_or_ge j is.length with x | x
      · have := sg_lt hap x; omega
      · rw [sg_ge x] at e2; omega
  · cases ht : tau is h.nxt i with
    | none => rw [g2 ht] at a; have := p.wf.root i r qq a b; omega
    | some j =>
      cases hb' : bs'[j]? with
      | none => rw [g3 ht hb'] at a; cases a
      | some x =>
        rw [g1 ht hb'] at a
        cases x <;> simp only [MB.ren, MB.ab] at a <;> cases a
        cases b
  · cases ht : tau is h.nxt i with
    | none =>
      rw [g2 ht] at a
      obtain ⟨s, s1, s2, s3⟩ := p.wf.tip i r qq t a b (by rw [← gt]; exact c)
      refine ⟨s, ?_, s2, s3⟩
      cases hu : tau is h.nxt t with
      | none => rw [g2 hu]; exact s1
      | some l =>
        exfalso
        have htn : t < h.nxt := by
          rcases Nat.lt_or_ge t h.nxt with x | x
          · exact x
          · rw [p.wf.fresh t x] at s1; cases s1
        have hl := tau_lt hu htn
        obtain ⟨b', hb'⟩ : ∃ b', bs[l]? = some b' := ⟨_, List.getElem?_eq_getElem (by omega)⟩
        obtain ⟨y1, y2⟩ := hb.at_ (n := h.nxt) hb'
        rw [hsome hu] at y2
        rw [MbAt.noroot (by rw [ren_live]; exact y1) y2 s1] at s2; cases s2
    | some j =>
      cases hb' : bs'[j]? with
      | none => rw [g3 ht hb'] at a; cases a
      | some x =>
        rw [g1 ht hb'] at a
        cases x <;> simp only [MB.ren, MB.ab] at a <;> cases a
        cases b
  · rw [gt]; exact p.wf.tipr qq (by omega)
  · rw [gn] at hi
    cases ht : tau is h.nxt i with
    | none => have := (hnone ht).2; omega
    | some j =>
      have e2 := hsome ht
      rw [outMap_m ht]
      refine cutN_n (show ¬ j < bs'.length from fun x => ?_)
      rcases Nat.lt_or_ge j is.length with y | y
      · have := sg_lt hap y; omega
      · rw [sg_ge y] at e2; omega
  · rw [gn] at hi
    cases ht : tau is h.nxt i with
    | none => have := (hnone ht).2; omega
    | some j =>
      have e2 := hsome ht
      rw [outMap_V ht]
      refine if_neg (show ¬ j < bs'.length from fun x => ?_)
      rcases Nat.lt_or_ge j is.length with y | y
      · have := sg_lt hap y; omega
      · rw [sg_ge y] at e2; omega
  · cases ht : tau is h.nxt i with
    | none => rw [g2 ht] at e; rw [outMap_W ht]; exact p.vu i t z n l e m' hm'
    | some j =>
      obtain ⟨b, b1, b2, b3, b4, b5⟩ := hin ht (by unfold Heap.ok; rw [e]; trivial)
      have hj := (List.getElem?_eq_some_iff.1 b1).1
      rw [b2] at e
      cases b with
      | no => cases e
      | row _ _ => cases e
      | arr t' z' n' l' =>
        cases e
        rw [outMap_V ht, cutN_V hj]
        exact q.vu j _ _ _ _ b5 m' hm'
  · have hlt := Nat.lt_of_lt_of_le hbs.1 p.ext.1.size
    rw [q.ext.2 b ⟨hlt, fun o => open_ o hbs⟩]
    exact p.ext.2 b hbs
  · cases ht : tau is h.nxt i with
    | none => rw [outMap_n ht] at e; exact p.mine i B N e
    | some j =>
      rw [outMap_m ht] at e
      by_cases hj : j < bs'.length
      · rw [cutN_m hj] at e; exact mineNew e
      · rw [cutN_n hj] at e; cases e
  · have hlt := Nat.lt_of_lt_of_le hbs.1 p.ext.1.size
    show ρ'.F b = _
    rw [q.old b ⟨hlt, fun o => open_ o hbs⟩]
    exact p.old b hbs
  · simp only [Bool.and_eq_true] at hz
    have h0 : tau is h.nxt 0 = none := by
      cases ht : tau is h.nxt 0 with
      | none => rfl
      | some j =>
        have h1 := bleT hz.2
        have hj := tau_lt ht (by omega)
        rcases sg_in is h.nxt j with x | x
        · rw [hsome ht] at x
          have := nin_f hz.1.1
          rw [inL_of x] at this; cases this
        · rw [hsome ht] at x; omega
    rw [g2 h0] at e; exact ⟨_, _, _, e⟩
  · obtain ⟨hj, e2⟩ := inMap_m ej
    obtain ⟨b', hbj⟩ : ∃ b, bs[j]? = some b := ⟨_, List.getElem?_eq_getElem hj⟩
    obtain ⟨y1, y2⟩ := hb.at_ (n := h.nxt) hbj
    exact hno _ M e2 (MbAt.okk (by rw [ren_live]; exact y1) y2)
  · cases ht : tau is h.nxt i with
    | none => rw [outMap_n ht] at e; exact .inr ⟨i, N, e, (hoth ht).1 o⟩
    | some j =>
      obtain ⟨b, b1, b2, b3, b4, b5⟩ := hin ht o
      have hj := (List.getElem?_eq_some_iff.1 b1).1
      rw [outMap_m ht, cutN_m hj] at e
      rcases Nat.lt_or_ge B w.heap.size with x | x
      · right
        have hop : opnOf (inMap ρ is h.nxt bs.length) B := Classical.byContradiction fun hn => q.mine j B N e ⟨x, hn⟩
        obtain ⟨j2, M, ej⟩ := hop
        obtain ⟨hj2, e2⟩ := inMap_m ej
        obtain ⟨b', hbj⟩ : ∃ b, bs[j2]? = some b := ⟨_, List.getElem?_eq_getElem hj2⟩
        obtain ⟨y1, y2⟩ := hb.at_ (n := h.nxt) hbj
        exact ⟨_, M, e2, MbAt.okk (by rw [ren_live]; exact y1) y2⟩
      · exact .inl x
  · obtain ⟨hj, e2⟩ := inMap_m ej
    obtain ⟨b', hbj⟩ : ∃ b, bs[j]? = some b := ⟨_, List.getElem?_eq_getElem hj⟩
    obtain ⟨y1, y2⟩ := hb.at_ (n := h.nxt) hbj
    exact hno _ M e2 (MbAt.okk (by rw [ren_live]; exact y1) y2)
  · simp only [Bool.and_eq_true] at hz
    have h0 : tau is h.nxt 1 = none := by
      cases ht : tau is h.nxt 1 with
      | none => rfl
      | some j =>
        have h1 := bleT hz.2
        have hj := tau_lt ht (by omega)
        rcases sg_in is h.nxt j with x | x
        · rw [hsome ht] at x
          have := nin_f hz.1.2
          rw [inL_of x] at this; cases this
        · rw [hsome ht] at x; omega
    rw [outMap_n h0]; exact e
  · have hb1 := p.hr.F_lt e
    refine q.ext.2 b ⟨hb1, fun ⟨j, M, ej⟩ => ?_⟩
    obtain ⟨hj, e2⟩ := inMap_m ej
    obtain ⟨b', hbj⟩ : ∃ b, bs[j]? = some b := ⟨_, List.getElem?_eq_getElem hj⟩
    obtain ⟨y1, y2⟩ := hb.at_ (n := h.nxt) hbj
    exact e (p.hr.F_row e2 (MbAt.okk (by rw [ren_live]; exact y1) y2) (fun r => MbAt.nogl (by rw [ren_live]; exact y1) y2))
end
end Go.Px
end
/- PxVb -/
section
set_option linter.unusedVariables false
set_option linter.unusedSimpArgs false
namespace Go.Px

/-- a pointer to this is among these -/
def hasP (j : Nat) : List AV → Bool
  | [] => false
  | .ptr i _ :: r => (match Nat.beq i j with | true => true | false => hasP j r)
  | _ :: r => hasP j r
/-- each row that is handed over is pointed to: by an argument, or out of a row ahead of it -/
def evidB : List AV → List MB → Nat → Bool
  | _, [], _ => true
  | acc, .row _ cs :: r, j => (match hasP j acc with | true => evidB (cs ++ acc) r (j + 1) | false => false)
  | acc, _ :: r, j => evidB acc r (j + 1)
theorem hasP_mem {j : Nat} : ∀ {l : List AV}, hasP j l = true → ∃ o, AV.ptr j o ∈ l
  | [], h => by cases h
  | a :: r, h => by
    have step : hasP j r = true → ∃ o, AV.ptr j o ∈ a :: r := fun q => by
      obtain ⟨o, ho⟩ := hasP_mem q
      exact ⟨o, List.mem_cons_of_mem _ ho⟩
    cases a <;> simp only [hasP] at h <;> first | exact step h | skip
    split at h
    · rename_i q; rw [← beqT q]; exact ⟨_, List.mem_cons_self⟩
    · exact step h
/-- A CALL OF f: these handed over, at these arguments, it answers this, and leaves these. -/
structure KM (c : Ctx) (f : FuncId) (bs : List MB) (args : List AV) (v : AV) (bs' : List MB) : Prop where
  le : bs.length ≤ bs'.length
  lo : lowM bs.length bs = true
  la : lowsB bs.length args = true
  lm : lowM bs'.length bs' = true
  lv : lowB bs'.length v = true
  ev : evidB args bs 0 = true
  run : ∀ (ρ : Map) (w : World) (A gx : List Value), PI ⟨c, w, ρ.F, opnOf ρ, none, none, [], ptrs bs 0, gx⟩ ρ (hq bs.length (bs.map MB.ab)) w → VRs ρ args A →
    ∃ nx w1, (callFunc f A.toArray).run c.P w = .ok nx w1 ∧ NextOk c.P (fun z w' => ∃ ρ', PI ⟨c, w, ρ.F, opnOf ρ, none, none, [], ptrs bs 0, gx⟩ ρ' (hq bs'.length (bs'.map MB.ab)) w' ∧ VR ρ' v z) nx w1

/-! ## out of a body -/
def MbsAt (h : Heap) : List MB → Nat → Prop
  | [], _ => True
  | b :: r, i => MbAt h i b ∧ MbsAt h r (i + 1)
theorem MbsAt.at_ {h : Heap} : ∀ {bs : List MB} {n j : Nat} {b : MB}, MbsAt h bs n → bs[j]? = some b → MbAt h (n + j) b
  | [], n, j, b, _, e => by simp at e
  | x :: r, n, 0, b, ⟨a, _⟩, e => by simp at e; subst e; exact a
  | x :: r, n, j + 1, b, ⟨_, a⟩, e => by
    have := a.at_ (j := j) (b := b) (by simpa using e)
    rwa [show n + 1 + j = n + (j + 1) by omega] at this
def FinM (c : Ctx) (res : List ResultVar) (v : AV) (bs' : List MB) : Post := fun x s => (x = .normal ∨ x = .ret) ∧ ∃ h' vs, leave s.h s.m = some h' ∧ resA c h' s.e res = some vs ∧ one vs = v ∧ MbsAt h' bs' 0 ∧ Nat.ble bs'.length h'.nxt = true
theorem low_ptrs : ∀ {bs : List MB} {n k : Nat}, n + bs.length ≤ k → lowsB k (ptrs bs n) = true
  | [], n, k, _ => rfl
  | x :: r, n, k, h => by
    have ih := low_ptrs (bs := r) (n := n + 1) (k := k) (by simp only [List.length_cons] at h; omega)
    cases x <;> simp only [ptrs] <;> first | exact ih | skip
    simp only [lowsB, lowB]
    rw [Nat.ble_eq_true_of_le (by simp only [List.length_cons] at h; omega)]; exact ih
/-- what is left, in the order in which it was said -/
theorem PI.canon {X : Cx} {ρ : Map} {h : Heap} {w : World} (p : PI X ρ h w) (hg : ∀ i r, X.c.g0.get i ≠ .gl r) {bs : List MB} (hb : MbsAt h bs 0) (hlow : lowM bs.length bs = true) (hG : lowsB bs.length X.gv = true) (hz : X.g = none) :
    PI X (cutN ρ bs.length) (hq bs.length (bs.map MB.ab)) w := by
  have hcut : ∀ i q, cutN ρ bs.length i = some q → i < bs.length ∧ ρ i = some q := fun i q e => by
    by_cases hi : i < bs.length
    · rw [cutN_m hi] at e; exact ⟨hi, e⟩
    · rw [cutN_n hi] at e; cases e
  have hat : ∀ {i b}, bs[i]? = some b → MbAt h i b := fun {i b} e => by have := hb.at_ e; rwa [Nat.zero_add] at this
  refine ⟨⟨fun i B N e => p.hr.lt _ B N (hcut i _ e).2, fun i B N e q => ?_, fun i j B N M hij e1 e2 k1 k2 => ?_, fun i r q => ?_, p.hr.fz, fun i B N e q => ?_, fun i t z n l q => ?_⟩, hq_wf rfl, ⟨fun i hi => cutN_n (show ¬ i < bs.length from Nat.not_lt.2 hi), fun i r q => absurd q (hg i r)⟩, fun i hi n => if_neg (show ¬ i < bs.length from Nat.not_lt.2 hi), fun i t z n l q m' hm' => ?_, p.ext, fun i B N e => p.mine i B N (hcut i _ e).2, p.sub, p.old, lows_ok _ hG p.keep, fun G e => by rw [hz] at e; cases e⟩
  · obtain ⟨hi, e'⟩ := hcut i _ e
    obtain ⟨x, x1, x2, x3⟩ := hq_okm q
    have y2 := hat x1
    have hr := p.hr.ok _ B N e' (MbAt.okk x3 y2)
    rw [x2]
    cases x with
    | no => trivial
    | arr t z n l =>
      have y2 : h.get i = .arr t z n l := y2
      rw [y2] at hr; exact hr
    | row t cs =>
      obtain ⟨r, r1, r2, r3, r4, r5⟩ := y2
      rw [r1] at hr
      have hr : RowOk ρ r B N w := hr
      refine ⟨by rw [← r2]; exact hr.1, by rw [← r3]; exact hr.2.1, hr.2.2.1, fun j hj => ?_⟩
      have hj : j < cs.length := hj
      obtain ⟨v, v1, v2⟩ := hr.2.2.2 j (by omega)
      refine ⟨v, v1, ?_⟩
      rw [row_at_i hj]
      have e5 : r.get j = cs.getD j .bad := by rw [← r5, Row.read_get r r.n j (by omega)]
      rw [e5] at v2
      exact low_ok _ (lows_at (lowM_at hlow x1) hj) v2
  · obtain ⟨x, x1, x2, x3⟩ := hq_okm k1
    obtain ⟨y, y1, y2, y3⟩ := hq_okm k2
    obtain ⟨r, s, q, a, b, c, _⟩ := p.hr.inj _ _ B N M hij (hcut i _ e1).2 (hcut j _ e2).2 (MbAt.okk x3 (hat x1)) (MbAt.okk y3 (hat y1))
    rw [MbAt.noroot x3 (hat x1) a] at c; cases c
  · obtain ⟨x, x1, x2⟩ := hq_mb q (by simp)
    cases x <;> simp only [MB.ab] at x2 <;> cases x2
  · obtain ⟨x, x1, x2, x3⟩ := hq_okm q
    exact .inl (p.hr.F_row (hcut i _ e).2 (MbAt.okk x3 (hat x1)) (fun r => MbAt.nogl x3 (hat x1)))
  · obtain ⟨x, x1, x2⟩ := hq_mb q (by simp)
    cases x <;> simp only [MB.ab] at x2 <;> cases x2
    have y2 := hat x1
    have hi := (List.getElem?_eq_some_iff.1 x1).1
    obtain ⟨h0, ⟨a, b⟩ | ⟨a, B, N, C, e1, e2, e3⟩⟩ := p.hr.av _ t z n l y2
    · exact ⟨h0, .inl ⟨a, (cutN_V hi _).trans b⟩⟩
    · exact ⟨h0, .inr ⟨a, B, N, C, (cutN_m hi).trans e1, (cutN_V hi _).trans e2, e3⟩⟩
  · obtain ⟨x, x1, x2⟩ := hq_mb q (by simp)
    cases x <;> simp only [MB.ab] at x2 <;> cases x2
    exact (cutN_V (List.getElem?_eq_some_iff.1 x1).1 _).trans (p.vu _ t z n l (hat x1) m' hm')
theorem KM.of {c : Ctx} (k : CtxOk c) (hg0 : ∀ i r, c.g0.get i ≠ .gl r) {f : FuncId} {fn : Func} {body : Code} (hf : c.P.funcs[f]? = some fn) (hb : fn.body = some body) {bs : List MB} {args : List AV} {v : AV} {bs' : List MB} {N : Nat} {ab : List AB} {gv : List AV} (hN : bs.length = N) (hA : bs.map MB.ab = ab) (hP : ptrs bs 0 = gv)
    (hlen : args.length ≤ fn.ntmps) (le : Nat.ble bs.length bs'.length = true) (lo : lowM bs.length bs = true) (la : lowsB bs.length args = true) (lm : lowM bs'.length bs' = true) (lv : lowB bs'.length v = true) (ev : evidB args bs 0 = true)
    (H : ∀ w F opn gx, Go ⟨c, w, F, opn, none, none, [], gv, gx⟩ fn.ntmps none [.code body] (argsL args 0) (hq N ab) [] (FinM c fn.results.toList v bs')) : KM c f bs args v bs' := by
  subst hN; subst hA; subst hP
  refine ⟨bleT le, lo, la, lm, lv, ev, fun ρ w A gx hpi hA => ?_⟩
  have hnm : fn.name ≠ "runtime.NumGoroutine" := by simpa using k.names f fn hf
  refine ⟨.enter f A.toArray, w, by simp [callFunc, hf, hnm, hb, Sem.run], ?_⟩
  refine callsIn_of_wp_marks hf hb trivial ?_
  have h := (H w ρ.F (opnOf ρ) gx).run (T.put und args (env0 und fn.ntmps) 0) (argsL_has args _ 0)
  have ht : Tri ⟨c, w, ρ.F, opnOf ρ, none, none, [], ptrs bs 0, gx⟩ fn.ntmps none body ⟨T.put und args (env0 und fn.ntmps) 0, hq bs.length (bs.map MB.ab), []⟩ (FinM c fn.results.toList v bs') := h
  refine ht none ρ w _ _ rfl hpi (args_er hA hlen) ⟨[], rfl, rfl⟩ fun x s' a' w' ρ' ⟨hx, h', vs, q1, q2, q3, q4, q5⟩ g1 g2 g3 g4 => ?_
  have hfin : LeavesInM Fence.wide 0 c.P fn a'.tmps (EndR fun z w' => ∃ ρ', PI ⟨c, w, ρ.F, opnOf ρ, none, none, [], ptrs bs 0, gx⟩ ρ' (hq bs'.length (bs'.map MB.ab)) w' ∧ VR ρ' v z) a'.defers .returning w' := by
    refine leave_ok g2.hr g2.wf (g4.nil rfl) q1 fun w2 g => ?_
    have g5 := g2.good g (ArrKeep.leave q1)
    obtain ⟨z, z1, z2⟩ := results_ok k g5.hr g3 q2
    rw [q3] at z2
    exact ⟨z, z1, _, g5.canon hg0 q4 lm (low_ptrs (by have := bleT le; omega)) rfl, low_ok v lv z2⟩
  rcases hx with rfl | rfl
  · exact hfin
  · exact hfin
theorem Go.retM {X : Cx} {sz : Nat} {rd : Option Nat} {k : List It} {L : List (Nat × AV)} {h : Heap} {m : List Nat} {c : Ctx} {res : List ResultVar} {vs : List AV} {v : AV} {bs' : List MB} {h' : Heap} (hl : leave h m = some h') (hr : resL L res = some vs) (hv : one vs = v) (hb : MbsAt h' bs' 0) (hn : Nat.ble bs'.length h'.nxt = true) : Go X sz rd (.code .ret :: k) L h m (FinM c res v bs') :=
  Go.ret fun e he => ⟨.inr rfl, h', vs, hl, resL_ok he hr, hv, hb, hn⟩
theorem Go.endM {X : Cx} {sz : Nat} {rd : Option Nat} {L : List (Nat × AV)} {h : Heap} {m : List Nat} {c : Ctx} {res : List ResultVar} {vs : List AV} {v : AV} {bs' : List MB} {h' : Heap} (hl : leave h m = some h') (hr : resL L res = some vs) (hv : one vs = v) (hb : MbsAt h' bs' 0) (hn : Nat.ble bs'.length h'.nxt = true) : Go X sz rd [] L h m (FinM c res v bs') :=
  Go.nil fun e he => ⟨.inl rfl, h', vs, hl, resL_ok he hr, hv, hb, hn⟩

/-! ## at a call -/
def dropO (t : Nat) : List (Nat × AV) → Option (List (Nat × AV))
  | [] => some []
  | (s, v) :: r => (match dropO t r with | some r' => (match Nat.beq t s with | true => some r' | false => some ((s, v) :: r')) | none => none)
/-- slots that say nothing of what is handed over -/
def cleanO (A R : List Nat) : List (Nat × AV) → Option (List (Nat × AV))
  | [] => some []
  | (t, v) :: r => (match cleanO A R r with
    | some r' => (match dropO t r' with
      | some r'' => (match okB A R v with | true => some ((t, v) :: r'') | false => some r'')
      | none => none)
    | none => none)
theorem drop_lk {t : Nat} : ∀ {L L' : List (Nat × AV)}, dropO t L = some L' → lkO L' t = none ∧ ∀ s, s ≠ t → lkO L' s = lkO L s
  | [], L', h => by cases h; exact ⟨rfl, fun _ _ => rfl⟩
  | (s, v) :: r, L', h => by
    simp only [dropO] at h
    split at h
    · rename_i r' hr
      obtain ⟨i1, i2⟩ := drop_lk hr
      split at h
      · rename_i e
        cases h
        have e := beqT e
        subst e
        refine ⟨i1, fun s hs => ?_⟩
        rw [i2 s hs]
        conv => rhs; unfold lkO
        rw [beqF hs]
      · rename_i e
        cases h
        have e := beqN e
        constructor
        · unfold lkO; rw [beqF e]; exact i1
        · intro u hu
          unfold lkO
          rw [i2 u hu]
    · cases h
theorem clean_lk {A R : List Nat} : ∀ {L L' : List (Nat × AV)}, cleanO A R L = some L' → ∀ t v, lkO L' t = some v → lkO L t = some v ∧ okB A R v = true
  | [], L', h, t, v, e => by cases h; cases e
  | (s, u) :: r, L', h, t, v, e => by
    simp only [cleanO] at h
    split at h
    · rename_i r' hr
      split at h
      · rename_i r'' hd
        obtain ⟨d1, d2⟩ := drop_lk hd
        have ih := clean_lk hr
        have key : lkO r'' t = some v → lkO ((s, u) :: r) t = some v ∧ okB A R v = true := fun q => by
          have hts : t ≠ s := fun x => by subst x; rw [d1] at q; cases q
          rw [d2 t hts] at q
          unfold lkO
          rw [beqF hts]
          exact ih t v q
        split at h
        · rename_i hu
          cases h
          unfold lkO at e
          split at e
          · rename_i ht
            cases e
            unfold lkO
            rw [ht]
            exact ⟨rfl, hu⟩
          · exact key e
        · cases h; exact key e
      · cases h
    · cases h
/-- arguments, a nil slice as an array of one's own in which nothing stands -/
def wkA (h : Heap) : List AV → List AV → Prop
  | [], [] => True
  | a :: l, b :: m => (a = b ∨ (a = .nilsl ∧ ∃ i t z, b = .own i 0 z ∧ h.get i = .arr t z 0 [])) ∧ wkA h l m
  | _, _ => False
theorem wk_ok {X : Cx} {ρ : Map} {h : Heap} {w : World} (p : PI X ρ h w) : ∀ {l m : List AV} {L : List Value}, wkA h l m → VRs ρ l L → VRs ρ m L
  | [], [], L, _, h => h
  | [], _ :: _, L, h, _ => h.elim
  | _ :: _, [], L, h, _ => h.elim
  | a :: l, b :: m, L, ⟨h1, h2⟩, h => by
    simp only [VRs] at h ⊢
    obtain ⟨x, r, e1, e2, e3⟩ := h
    refine ⟨x, r, ?_, wk_ok p h2 e2, e3⟩
    rcases h1 with rfl | ⟨rfl, i, t, z, rfl, hi⟩
    · exact e1
    · simp only [VR] at e1 ⊢
      obtain ⟨_, ⟨_, q⟩ | ⟨q, _⟩⟩ := p.hr.av i t z 0 [] hi
      · rw [e1]; exact ⟨q, .inl (by simp)⟩
      · exact absurd rfl q
theorem evid_ok {X : Cx} {ρ : Map} {h : Heap} {w : World} (p : PI X ρ h w) {is : List Nat} {all : List MB} (hb : BlksAt h (sg is h.nxt) is all) (hlow : lowM all.length all = true) : ∀ {bs : List MB} {acc : List AV} {n : Nat}, (∀ j b, bs[j]? = some b → all[n + j]? = some b) → evidB acc bs n = true → (∀ a ∈ acc, ∃ x, VR (inMap ρ is h.nxt all.length) a x) → ∃ gx, VRs (inMap ρ is h.nxt all.length) (ptrs bs n) gx
  | [], acc, n, _, _, _ => ⟨[], by simp [ptrs, VRs]⟩
  | b :: bs, acc, n, hall, he, ha => by
    have hall' : ∀ j b, bs[j]? = some b → all[n + 1 + j]? = some b := fun j b e => by
      have := hall (j + 1) b (by simpa using e)
      rwa [show n + (j + 1) = n + 1 + j by omega] at this
    have h0 := hall 0 b rfl
    rw [Nat.add_zero] at h0
    cases b with
    | no => simp only [evidB] at he; simp only [ptrs]; exact evid_ok p hb hlow hall' he ha
    | arr t z k l => simp only [evidB] at he; simp only [ptrs]; exact evid_ok p hb hlow hall' he ha
    | row t cs =>
      simp only [evidB] at he
      split at he
      · rename_i hp
        obtain ⟨o, ho⟩ := hasP_mem hp
        obtain ⟨x, hx⟩ := ha _ ho
        simp only [VR] at hx
        obtain ⟨B, N, c1, c2⟩ := hx
        obtain ⟨hn, c3⟩ := inMap_m c1
        obtain ⟨_, r, r1, r2, r3, r4, r5⟩ := hb.at_ (n := h.nxt) h0
        have hok : h.ok (sg is h.nxt n) := by unfold Heap.ok; rw [r1]; simp only []; rw [Heap.row_of r1, r4]; rfl
        have hr := p.hr.ok _ B N c3 hok
        rw [r1] at hr
        have hr : RowOk ρ r B N w := hr
        rw [rens_length] at r3
        obtain ⟨gx, hgx⟩ := evid_ok p hb hlow hall' he (fun a hm => by
          rcases List.mem_append.1 hm with hm | hm
          · obtain ⟨j, hj, rfl⟩ := List.getElem_of_mem hm
            obtain ⟨v, v1, v2⟩ := hr.2.2.2 j (by omega)
            have e5 : r.get j = ren (sg is h.nxt) (cs.getD j .bad) := by
              rw [← rens_get, ← r5, Row.read_get r r.n j (by omega)]
            rw [e5] at v2
            refine ⟨v, ?_⟩
            have hlw : lowsB all.length cs = true := lowM_at hlow h0
            have := low_ok _ (lows_at hlw hj) ((vr_ren _ _).1 v2)
            rwa [List.getD_eq_getElem?_getD, List.getElem?_eq_getElem hj] at this
          · exact ha a hm)
        simp only [ptrs]
        refine ⟨.pointer (some ⟨B, 0, none⟩) :: gx, ?_⟩
        simp only [VRs, VR]
        exact ⟨_, _, ⟨B, N, c1, rfl⟩, hgx, rfl⟩
      · cases he
theorem vrs_ex {ρ : Map} {l : List AV} {L : List Value} (h : VRs ρ l L) : ∀ a ∈ l, ∃ x, VR ρ a x := fun a ha => by
  obtain ⟨i, hi⟩ := List.getElem?_of_mem ha
  have hl := VRs.iff.1 h
  have hlt : i < L.length := by rw [← hl.1]; exact (List.getElem?_eq_some_iff.1 hi).1
  exact ⟨_, hl.2 i _ _ hi (List.getElem?_eq_getElem hlt)⟩
def nins2 (A R : List Nat) : List Nat → Bool
  | [] => true
  | d :: m => (match nin2 A R d with | true => nins2 A R m | false => false)
section
variable {X : Cx} {tb : List (Nat × TE)} (E : Env X.c tb) {sz : Nat} {rd : Option Nat} {all : Array Oper} {o : Oper} {rest : List Oper} {k : List It} {L : List (Nat × AV)} {h : Heap} {m : List Nat} {Q : Post}
include E
/-- A CALL, by a contract: 'is': the blocks that are handed over. -/
theorem Ops.callM (is : List Nat) (N : Nat) {cl : Call} {f : Operand} {g : FuncId} {first cap vs args : List AV} {v v' : AV} {bs bs' : List MB} {ab : List AB} {L' : List (Nat × AV)} (hw : Want all L o true) (ho : o.op = .call cl) (hc : cl.callee = .value f) (hfv : evL L f = some (.fn (.func g) first cap))
    (hv : evsL L cl.args.toList = some vs) (hk : KM X.c g bs args v bs') (hN : h.nxt = N) (hwk : wkA h (first ++ vs ++ cap) (rens (sg is N) args)) (hap : apart N is = true) (hb : BlksAt h (sg is N) is bs) (hI : HOk is (arrI is bs) (rowI is bs) h) (hL : cleanO (arrI is bs) (rowI is bs) L = some L') (hm : nins2 (arrI is bs) (rowI is bs) m = true)
    (hrd : (match rd with | some l => nin2 (arrI is bs) (rowI is bs) l | none => true) = true) (hv' : ren (sg is N) v = v') (hab : bs'.map (fun b => (b.ren (sg is N)).ab) = ab) {d : Nat} (hd : o.dst = some d) (hs : Nat.ble (d + 1) sz = true) (n : Ops X sz rd all rest k ((d, v') :: L') (mixN N h is ab) m Q)
    (hG : oksB (arrI is bs) (rowI is bs) X.gv = true := by rfl) (hgz : X.g = none ∨ (nin is 0 && nin is 1 && Nat.ble 2 N) = true := by first | exact .inl rfl | exact .inr rfl) : Ops X sz rd all (o :: rest) k L h m Q := ⟨fun e0 he => by
  subst hN; subst hv'; subst hab
  refine TriOps.cons (hw e0 he) (K := fun s' => RunK X sz rd k Q .normal s') ?_
  intro ro ρ w a next Q' h1 p h3 h4 h5
  refine ⟨fun _ _ => trivial, ?_⟩
  rw [show (wideR ro).round = ro from rfl, Oper.semAt_eq ro a.eval o (by rw [ho]; intro d q; cases q)]
  have hfv' := ev_ok h3 f
  rw [he.ev hfv] at hfv'
  simp only [VR, FR] at hfv'
  obtain ⟨f', F, C, e1, e2, e3, e4⟩ := hfv'
  subst e1
  have hargs := evs_ok h3 cl.args.toList
  rw [he.evs hv] at hargs
  have hA := wk_ok p hwk (VRs.append (VRs.append e2 hargs) e3)
  have hA2 : VRs (inMap ρ is h.nxt bs.length) args _ := lows_ok args hk.la ((vrs_ren _ _).1 hA)
  obtain ⟨gx, hgx⟩ := evid_ok p hb hk.lo (bs := bs) (acc := args) (n := 0) (fun j b e => by rw [Nat.zero_add]; exact e) hk.ev (vrs_ex hA2)
  obtain ⟨nx, w1, q1, q2⟩ := hk.run (inMap ρ is h.nxt bs.length) w _ gx (p.enter E.g hap hb hk.lo hgx) hA2
  have hrun : (execOp a.eval o).run X.c.P w = .ok nx w1 := by
    rw [← q1]
    simp only [execOp, ho, resolve, hc, e4, Deferred.ofValue, Sem.run_bind, Sem.run_pure, Result.andThen_ok, invoke]
    congr 2
    apply Array.ext'; simp
  rw [hrun]
  refine uponIn_of_next q2 fun z w' ⟨ρ', pi', hz⟩ => ?_
  obtain ⟨pp, hs'⟩ := p.back E.g hap hb hgx hI hG hgz hk.le hk.lm pi'
  obtain ⟨e', he', er'⟩ := known_env (σ := outMap ρ ρ' is h.nxt bs'.length) (L := L') (tm := a.tmps) (sz := sz) h3.1 (fun t u q => by
    obtain ⟨c1, c2⟩ := clean_lk hL t u q
    have := h3.2 t
    rw [he t u c1] at this
    exact okB_ok hs' u c2 this)
  refine h5 (ren (sg is h.nxt) v) ⟨e', _, m⟩ z w' _ ⟨e'.set und d _, by rw [hd]; exact setD_some hs, n.run _ (he'.set d _)⟩ ?_ pp er' ?_ (outMap_ren hap hk.lv hz)
  · cases rd with
    | none => exact h1
    | some r =>
      obtain ⟨B, N, x1, x2⟩ := h1
      exact ⟨B, N, hs'.m r _ (nin2_f hrd).1 (nin2_f hrd).2 x1, x2⟩
  · have hmr : ∀ {m : List Nat} {D : List Deferred}, nins2 (arrI is bs) (rowI is bs) m = true → MR ρ m D → MR (outMap ρ ρ' is h.nxt bs'.length) m D := by
      intro m
      induction m with
      | nil => intro D _ q; exact q
      | cons d m ih =>
        intro D hh q
        simp only [nins2] at hh
        split at hh
        · rename_i hd
          obtain ⟨B, N, r, x1, x2, x3⟩ := q
          exact ⟨B, N, r, hs'.m d _ (nin2_f hd).1 (nin2_f hd).2 x1, ih hh x2, x3⟩
        · cases hh
    obtain ⟨D1, h5, h6⟩ := h4
    exact ⟨D1, hmr hm h5, h6⟩⟩
end
/-- an array of one's own in which nothing stands, that no slot has -/
theorem Chg.tokNew {X : Cx} {sz : Nat} {rd : Option Nat} {L : List (Nat × AV)} {h : Heap} {m : List Nat} (n0 ty z : Nat) (hn0 : h.nxt = n0) (hz : X.g = none ∨ Nat.ble 1 n0 = true := by first | exact .inl rfl | exact .inr rfl) : Chg X sz rd L h L (newAt n0 h (.arr ty z 0 [])) m := fun ro ρ w e a h1 p h3 he h4 => by
  rw [← new_at hn0]
  rw [← hn0] at hz
  let ρ' : Map := ⟨ρ.m, ρ.F, fun j q => if j = h.nxt ∧ q = 0 then some (.slice none 0 0) else ρ.V j q⟩
  have v1 : ρ'.V h.nxt 0 = some (.slice none 0 0) := if_pos ⟨rfl, rfl⟩
  have v2 : ∀ j q, ¬ (j = h.nxt ∧ q = 0) → ρ'.V j q = ρ.V j q := fun j q a => if_neg a
  have hs : Sub ρ ρ' := ⟨fun _ _ e => e, fun _ _ _ e => e, fun j q v e => by
    by_cases hh : j = h.nxt ∧ q = 0
    · rw [hh.1, p.vf h.nxt (Nat.le_refl _)] at e; cases e
    · rw [v2 j q hh]; exact e⟩
  have hg : ∀ j, j ≠ h.nxt → (h.new (.arr ty z 0 [])).get j = h.get j := fun j q => by rw [Heap.get_new, if_neg q]
  have hn : (h.new (.arr ty z 0 [])).get h.nxt = .arr ty z 0 [] := by rw [Heap.get_new, if_pos rfl]
  have ho : ∀ j, j ≠ h.nxt → ((h.new (.arr ty z 0 [])).ok j ↔ h.ok j) := fun j q => Heap.ok_same (hg j q) (fun _ _ _ _ => rfl)
  have hne : ∀ i B N, ρ i = some (B, N) → i ≠ h.nxt := fun i B N e q => by rw [q, p.fr.1 h.nxt (Nat.le_refl _)] at e; cases e
  refine ⟨ρ', e, h1.mono hs, ⟨⟨p.hr.lt, fun i B N e q => ?_, fun i j B N M hij e1 e2 k1 k2 => ?_, fun i r q => ?_, p.hr.fz, fun i B N e q => ?_, fun i t' z' n l q => ?_⟩, ⟨fun i hi => ?_, fun i r q e1 e2 => ?_, fun i r q t e1 e2 e3 => ?_, fun q hq => p.wf.tipr q (Nat.le_of_succ_le hq)⟩, ⟨fun i hi => p.fr.1 i (Nat.le_of_succ_le hi), fun i r q => ?_⟩, fun i hi n => ?_, fun i t' z' n l q m' hm => ?_, p.ext, p.mine, p.sub, p.old, p.keep.mono hs, hz.elim (fun q G e => by rw [q] at e; cases e) fun q => p.gh.go (fun t z n l e => by rw [hg 0 (by have := bleT q; omega)] at e; exact ⟨_, _, _, e⟩) (Same.refl w) (fun _ _ _ => rfl) (fun i B N e o => .inr ⟨i, N, e, (ho i (hne i B N e)).1 o⟩) (fun _ _ _ => rfl) (fun B N e => .inl ⟨N, e⟩) (fun _ _ => rfl) (fun _ _ _ e => e)⟩, h3.mono hs, he, h4.mono hs⟩
  · have hi := hne i B N e
    rw [hg i hi]; exact (p.hr.ok i B N e ((ho i hi).1 q)).mono hs
  · have hi := hne i B N e1
    have hj := hne j B M e2
    obtain ⟨r, s, q, a, b, c⟩ := p.hr.inj i j B N M hij e1 e2 ((ho i hi).1 k1) ((ho j hj).1 k2)
    exact ⟨r, s, q, by rw [hg i hi]; exact a, by rw [hg j hj]; exact b, c⟩
  · by_cases hi : i = h.nxt
    · subst hi; rw [hn] at q; cases q
    · rw [hg i hi] at q; exact p.hr.gl i r q
  · have hi := hne i B N e
    rw [hg i hi]; exact p.hr.sep i B N e ((ho i hi).1 q)
  · by_cases hi : i = h.nxt
    · subst hi; rw [hn] at q; cases q
      exact ⟨by simp, .inl ⟨rfl, v1⟩⟩
    · rw [hg i hi] at q; exact (p.hr.av i t' z' n l q).mono hs
  · have hi' : h.nxt + 1 ≤ i := hi
    rw [hg i (by omega)]; exact p.wf.fresh i (by omega)
  · by_cases hi : i = h.nxt
    · subst hi; rw [hn] at e1; cases e1
    · rw [hg i hi] at e1; exact Nat.lt_succ_of_lt (p.wf.root i r q e1 e2)
  · by_cases hi : i = h.nxt
    · subst hi; rw [hn] at e1; cases e1
    · rw [hg i hi] at e1
      obtain ⟨s, a, c⟩ := p.wf.tip i r q t e1 e2 e3
      exact ⟨s, by rw [hg t (fun k => by subst k; rw [p.wf.fresh _ (Nat.le_refl _)] at a; cases a)]; exact a, c⟩
  · have := p.fr.2 i r q
    rw [hg i (fun k => by subst k; rw [p.wf.fresh _ (Nat.le_refl _)] at this; cases this)]; exact this
  · have hi' : h.nxt + 1 ≤ i := hi
    rw [v2 i n (fun a => by omega)]; exact p.vf i (by omega) n
  · by_cases hi : i = h.nxt
    · subst hi; rw [hn] at q; cases q
      rw [v2 _ m' (fun a => by omega)]; exact p.vf _ (Nat.le_refl _) m'
    · rw [hg i hi] at q
      rw [v2 i m' (fun a => hi a.1)]; exact p.vu i t' z' n l q m' hm
end Go.Px
end
