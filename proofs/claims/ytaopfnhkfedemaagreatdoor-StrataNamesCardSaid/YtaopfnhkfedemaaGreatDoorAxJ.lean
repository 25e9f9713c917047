/-
  AxJ: '==' whole; conversions of numbers; binary operations; lookups.
-/
import Derived.Test.YtaopfnhkfedemaaGreatDoorAxI
set_option linter.unusedVariables false
set_option linter.unusedSimpArgs false
namespace Go.Ax

/-- the model's walk through an array's cells -/
theorem run_cells {P : Program} (g : Nat → Sem Bool) (w : World) (len : Nat) : ∀ (l : List Nat) (b : Bool),
    (∃ m, m ≤ l.length ∧ (∀ (j : Nat) i, j < m → l[j]? = some i → (g i).run P w = .ok true w) ∧ ((b = true ∧ m = l.length) ∨ (b = false ∧ ∃ i, l[m]? = some i ∧ (g i).run P w = .ok false w))) →
    (forIn (m := Sem) l ((none : Option Bool), ()) fun i __s => (do
        let x ← g i
        if (!x) = true then pure (ForInStep.done (some false, ())) else pure (ForInStep.yield (none, ())))).run P w
      = .ok (match b with | true => (none, ()) | false => (some false, ())) w
  | [], b, ⟨m, hm, h1, h2⟩ => by
    rcases h2 with ⟨rfl, _⟩ | ⟨rfl, f, hf, _⟩
    · simp
    · simp at hf
  | f :: fs, b, ⟨m, hm, h1, h2⟩ => by
    rw [List.forIn_cons, Sem.run_bind, Sem.run_bind]
    cases m with
    | zero =>
      rcases h2 with ⟨rfl, h⟩ | ⟨rfl, f', hf, hg⟩
      · simp at h
      · simp at hf; subst hf
        rw [hg]; simp
    | succ m =>
      rw [h1 0 f (by omega) rfl]
      simp only [Result.andThen_ok, Bool.not_true, Bool.false_eq_true, if_false, Sem.run_pure]
      refine run_cells g w len fs b ⟨m, by simp at hm; omega, fun j f' hj hf => h1 (j + 1) f' (by omega) (by simpa using hf), ?_⟩
      rcases h2 with ⟨rfl, h⟩ | ⟨rfl, f', hf, hg⟩
      · exact .inl ⟨rfl, by simp at h; exact h⟩
      · exact .inr ⟨rfl, f', by simpa using hf, hg⟩

section
variable {c : Ctx} (k : CtxOk c)
include k

theorem eqCells_ok {ρ : Map} {n D : Nat} {t : TypeId}
    (ih : ∀ (t : TypeId) (x y : AV) (X Y : Value) (b : Bool), eqv c n t x y = some b → VR ρ x X → VR ρ y Y → ∀ w, (Op.equalIn D t X Y).run c.P w = .ok b w)
    {xs ys : List AV} {XS YS : List Value} (hx : VRs ρ xs XS) (hy : VRs ρ ys YS) (hag : c.isAgg t = some false) (w : World) : ∀ (m i : Nat) (b : Bool), eqCells (eqv c n) t xs ys m i = some b →
    ∃ q, q ≤ m ∧ (∀ (j : Nat), j < q → (do let x ← part t XS.toArray (i + j); let y ← part t YS.toArray (i + j); Op.equalIn D t x y : Sem Bool).run c.P w = .ok true w) ∧
      ((b = true ∧ q = m) ∨ (b = false ∧ q < m ∧ (do let x ← part t XS.toArray (i + q); let y ← part t YS.toArray (i + q); Op.equalIn D t x y : Sem Bool).run c.P w = .ok false w))
  | 0, i, b, e => by cases e; exact ⟨0, Nat.le_refl _, fun j h => by omega, .inl ⟨rfl, rfl⟩⟩
  | m + 1, i, b, e => by
    have e' : (match nth xs i with
        | some u => (match nth ys i with
          | some v => (match eqv c n t u v with | some true => eqCells (eqv c n) t xs ys m (i + 1) | some false => some false | none => none)
          | none => none)
        | none => none) = some b := e
    cases h1 : nth xs i with
    | none => rw [h1] at e'; cases e'
    | some u =>
      rw [h1] at e'
      simp only [] at e'
      cases h2 : nth ys i with
      | none => rw [h2] at e'; cases e'
      | some v =>
        rw [h2] at e'
        simp only [] at e'
        have step : ∀ q, eqv c n t u v = some q → (do let x ← part t XS.toArray (i + 0); let y ← part t YS.toArray (i + 0); Op.equalIn D t x y : Sem Bool).run c.P w = .ok q w := fun q h3 => by
          obtain ⟨X, a1, a2⟩ := part_ok k hx (t := t) (off := i) (v := u) (by unfold partA; rw [hag]; exact h1)
          obtain ⟨Y, b1, b2⟩ := part_ok k hy (t := t) (off := i) (v := v) (by unfold partA; rw [hag]; exact h2)
          simp only [Nat.add_zero, Sem.run_bind, a1, b1, Result.andThen_ok]
          exact ih _ _ _ _ _ _ h3 a2 b2 w
        split at e'
        · rename_i hq
          obtain ⟨q, m1, m2, m3⟩ := eqCells_ok ih hx hy hag w m (i + 1) b e'
          refine ⟨q + 1, by omega, fun j hj => ?_, ?_⟩
          · cases j with
            | zero => exact step true hq
            | succ j => have := m2 j (by omega); rwa [show i + 1 + j = i + (j + 1) by omega] at this
          · rcases m3 with ⟨a, b⟩ | ⟨a, b, d⟩
            · exact .inl ⟨a, by omega⟩
            · exact .inr ⟨a, by omega, by rwa [show i + 1 + q = i + (q + 1) by omega] at d⟩
        · rename_i hq
          cases e'
          exact ⟨0, Nat.zero_le _, fun j hj => by omega, .inr ⟨rfl, by omega, step false hq⟩⟩
        · cases e'

theorem eqv_ok {ρ : Map} : ∀ (n : Nat) (t : TypeId) (x y : AV) (X Y : Value) (b : Bool) (D : Nat), eqv c n t x y = some b → VR ρ x X → VR ρ y Y → n ≤ D → ∀ w, (Op.equalIn D t X Y).run c.P w = .ok b w
  | 0, t, x, y, X, Y, b, D, e, _, _, _, w => by cases e
  | n + 1, t, x, y, X, Y, b, 0, e, hx, hy, hD, w => by omega
  | n + 1, t, x, y, X, Y, b, D + 1, e, hx, hy, hD, w => by
    have ih : ∀ (t : TypeId) (x y : AV) (X Y : Value) (b : Bool), eqv c n t x y = some b → VR ρ x X → VR ρ y Y → ∀ w, (Op.equalIn D t X Y).run c.P w = .ok b w :=
      fun t x y X Y b e h1 h2 w => eqv_ok n t x y X Y b D e h1 h2 (by omega) w
    have e' : eqv1 c (eqv c n) t x y = some b := e
    unfold eqv1 at e'
    cases hu : c.under t with
    | none => rw [hu] at e'; cases e'
    | some d =>
      rw [hu] at e'
      have hd := under_eq k hu
      cases d <;> simp only [] at e' <;> try (cases e'; done)
      case bool =>
        split at e'
        · exact eqPlain_ok hd e' hx hy (.inl ⟨rfl, _, rfl⟩) w
        · cases e'
      case int =>
        split at e'
        · exact eqPlain_ok hd e' hx hy (.inr (.inl ⟨_, rfl, _, _, rfl⟩)) w
        · cases e'
      case string =>
        split at e'
        · exact eqPlain_ok hd e' hx hy (.inr (.inr ⟨rfl, _, rfl⟩)) w
        · cases e'
      case pointer p =>
        split at e'
        · rename_i ps hps
          exact eqNil_ok hd hx hy (.inl ⟨_, rfl, ⟨ps, fun w => run_size k hps w⟩, e'⟩) w
        · cases e'
      case slice => exact eqNil_ok hd hx hy (.inr (.inl ⟨_, rfl, e'⟩)) w
      case map => exact eqNil_ok hd hx hy (.inr (.inr (.inl ⟨_, _, rfl, e'⟩))) w
      case func => exact eqNil_ok hd hx hy (.inr (.inr (.inr ⟨_, _, _, rfl, e'⟩))) w
      case interface =>
        unfold eqIfc at e'
        split at e' <;> try (cases e'; done)
        · split at e' <;> try (cases e'; done)
          cases e'
          simp only [VR] at hx hy
          obtain ⟨u, _, rfl⟩ := hy
          subst hx
          simp [Op.equalIn, run_underlying hd]
        · rename_i t1 u
          split at e' <;> try (cases e'; done)
          · cases e'
            simp only [VR] at hx hy
            obtain ⟨U, _, rfl⟩ := hx
            subst hy
            simp [Op.equalIn, run_underlying hd]
          · rename_i t2 v
            simp only [VR] at hx hy
            obtain ⟨U, hU, rfl⟩ := hx
            obtain ⟨V, hV, rfl⟩ := hy
            split at e'
            · rename_i hne
              cases e'
              have hne := beqN hne
              simp [Op.equalIn, run_underlying hd, hne]
            · rename_i heq
              have heq := beqT heq
              subst heq
              split at e'
              · rename_i i hi
                split at e'
                · rename_i hc
                  have h1 := ih t1 u v U V b e' hU hV w
                  simp [Op.equalIn, run_underlying hd, run_info k hi, hc, h1]
                · cases e'
              · cases e'
      case struct fs =>
        split at e'
        · cases e'
        · rename_i hq
          obtain ⟨q1, _, q3⟩ := k.eqs t hq
          split at e'
          · rename_i xs
            split at e'
            · rename_i ys
              simp only [VR] at hx hy
              obtain ⟨XS, hx, rfl⟩ := hx
              obtain ⟨YS, hy, rfl⟩ := hy
              obtain ⟨m, m1, m2, m3⟩ := eqFields_ok k ih hx hy w fs.toList b e'
              have hf := run_fields (P := c.P) (fun f => do let x ← part f.type XS.toArray f.offset; let y ← part f.type YS.toArray f.offset; Op.equalIn D f.type x y) w fs.toList (fun _ => true) (q3 fs hd) (fun _ _ _ => trivial) b ⟨m, m1, m2, m3⟩
              simp only [Op.equalIn, Sem.run_bind, run_underlying hd, Result.andThen_ok, run_program, q1, Bool.false_eq_true, if_false]
              rw [← Array.forIn_toList]
              simp only [bind_assoc] at hf
              rw [hf]
              cases b <;> simp
            · cases e'
          · cases e'
      case array m el =>
        split at e'
        · cases e'
        · split at e'
          · rename_i hag
            split at e'
            · rename_i s hsz
              split at e'
              · rename_i hs1
                have hs1 := beqT hs1
                subst hs1
                split at e'
                · rename_i xs
                  split at e'
                  · rename_i ys
                    simp only [VR] at hx hy
                    obtain ⟨XS, hx, rfl⟩ := hx
                    obtain ⟨YS, hy, rfl⟩ := hy
                    obtain ⟨q, m1, m2, m3⟩ := eqCells_ok k ih hx hy hag w m 0 b e'
                    have hf := run_cells (P := c.P) (fun i => do let x ← part el XS.toArray (i * 1); let y ← part el YS.toArray (i * 1); Op.equalIn D el x y) w m (List.range m) b
                      ⟨q, by simpa using m1, fun j i hj hi => by
                        have : i = j := by
                          have := (List.getElem?_eq_some_iff.1 hi).2
                          simpa using this.symm
                        subst this
                        simpa using m2 i hj, by
                        rcases m3 with ⟨a, b⟩ | ⟨a, b, d⟩
                        · exact .inl ⟨a, by simpa using b⟩
                        · exact .inr ⟨a, q, by simp [b], by simpa using d⟩⟩
                    simp only [Op.equalIn, Sem.run_bind, run_underlying hd, Result.andThen_ok, run_size k hsz]
                    simp only [Std.Legacy.Range.forIn_eq_forIn_range', Std.Legacy.Range.size, Nat.sub_zero, Nat.add_one_sub_one, Nat.div_one, ← List.range_eq_range']
                    simp only [bind_assoc] at hf
                    rw [hf]
                    cases b <;> simp
                  · cases e'
                · cases e'
              · cases e'
            · cases e'
          · cases e'

/-- what two operands of '==' look like, where the type tells -/
inductive Shapes : Value → Value → Prop where
  | bool (a b : Bool) : Shapes (.bool a) (.bool b)
  | ptr (a b : Option Addr) : Shapes (.pointer a) (.pointer b)
  | sl (a b : Option Addr) (l m n o : Nat) : Shapes (.slice a l m) (.slice b n o)
  | mp (a b : Option Nat) : Shapes (.map a) (.map b)
  | if1 (t : TypeId) (v : Value) : Shapes .nilIface (.iface t v)
  | if2 (t : TypeId) (v : Value) : Shapes (.iface t v) .nilIface
  | if3 (t t' : TypeId) (u v : Value) : Shapes (.iface t u) (.iface t' v)
  | fn1 : Shapes .nilFunc .nilFunc
  | fn2 (f : Fn) (a b : Array Value) : Shapes .nilFunc (.func f a b)
  | fn3 (f : Fn) (a b : Array Value) : Shapes (.func f a b) .nilFunc

theorem eqv_shapes {ρ : Map} {n : Nat} {t : TypeId} {x y : AV} {X Y : Value} {b : Bool} (e : eqv c (n + 1) t x y = some b) (hx : VR ρ x X) (hy : VR ρ y Y) (hni : ∀ j a, x ≠ .int j a) (hns : ∀ a, x ≠ .str a) :
    Shapes X Y ∨ ((∃ xs ys, X = .agg xs ∧ Y = .agg ys) ∧ c.P.eqGuardType c.P.depth t = false) := by
  have e' : eqv1 c (eqv c n) t x y = some b := e
  unfold eqv1 at e'
  cases hu : c.under t with
  | none => rw [hu] at e'; cases e'
  | some d =>
    rw [hu] at e'
    cases d <;> simp only [] at e' <;> try (cases e'; done)
    case bool =>
      split at e'
      · unfold eqPlain at e'
        simp only [] at e'
        split at e'
        · simp only [VR] at hx hy; subst hx; subst hy; exact .inl (.bool _ _)
        · cases e'
      · cases e'
    case pointer p =>
      split at e' <;> try (cases e'; done)
      unfold eqPtr at e'
      split at e' <;> try (cases e'; done)
      · split at e' <;> try (cases e'; done)
        · simp only [VR] at hx hy; subst hx; subst hy; exact .inl (.ptr _ _)
        · simp only [VR] at hx hy; subst hx; obtain ⟨B, N, hp, rfl⟩ := hy; exact .inl (.ptr _ _)
        · simp only [VR] at hx hy; subst hx; subst hy; exact .inl (.ptr _ _)
      · split at e' <;> try (cases e'; done)
        · simp only [VR] at hx hy; subst hy; obtain ⟨B, N, hp, rfl⟩ := hx; exact .inl (.ptr _ _)
        · simp only [VR] at hx hy
          obtain ⟨B, N, hp, rfl⟩ := hx
          obtain ⟨C, M, hq, rfl⟩ := hy
          exact .inl (.ptr _ _)
      · split at e' <;> try (cases e'; done)
        · simp only [VR] at hx hy; subst hy; subst hx; exact .inl (.ptr _ _)
    case slice =>
      unfold eqSl at e'
      split at e' <;> try (cases e'; done)
      · split at e' <;> try (cases e'; done)
        · simp only [VR] at hx hy; subst hx; subst hy; exact .inl (.sl _ _ _ _ _ _)
        · simp only [VR] at hx hy; subst hx; obtain ⟨B, N, C, hp, rfl, _⟩ := hy; exact .inl (.sl _ _ _ _ _ _)
        · simp only [VR] at hx hy; subst hx; obtain ⟨B, N, o, C, hp, rfl⟩ := hy; exact .inl (.sl _ _ _ _ _ _)
      · split at e' <;> try (cases e'; done)
        · simp only [VR] at hx hy; subst hy; obtain ⟨B, N, C, hp, rfl, _⟩ := hx; exact .inl (.sl _ _ _ _ _ _)
      · split at e' <;> try (cases e'; done)
        · simp only [VR] at hx hy; subst hy; obtain ⟨B, N, o, C, hp, rfl⟩ := hx; exact .inl (.sl _ _ _ _ _ _)
    case map =>
      unfold eqMp at e'
      split at e' <;> try (cases e'; done)
      · split at e' <;> try (cases e'; done)
        · simp only [VR] at hx hy; subst hx; subst hy; exact .inl (.mp _ _)
        · simp only [VR] at hx hy; subst hx; obtain ⟨B, N, hp, rfl⟩ := hy; exact .inl (.mp _ _)
      · split at e' <;> try (cases e'; done)
        · simp only [VR] at hx hy; subst hy; obtain ⟨B, N, hp, rfl⟩ := hx; exact .inl (.mp _ _)
    case func =>
      unfold eqFn at e'
      split at e' <;> try (cases e'; done)
      · split at e' <;> try (cases e'; done)
        · simp only [VR] at hx hy; subst hx; subst hy; exact .inl .fn1
        · simp only [VR] at hx hy; subst hx; obtain ⟨f, F, C, _, _, _, rfl⟩ := hy; exact .inl (.fn2 _ _ _)
      · split at e' <;> try (cases e'; done)
        · simp only [VR] at hx hy; subst hy; obtain ⟨f, F, C, _, _, _, rfl⟩ := hx; exact .inl (.fn3 _ _ _)
    case interface =>
      unfold eqIfc at e'
      split at e' <;> try (cases e'; done)
      · split at e' <;> try (cases e'; done)
        simp only [VR] at hx hy
        obtain ⟨u, _, rfl⟩ := hy
        subst hx
        exact .inl (.if1 _ _)
      · split at e' <;> try (cases e'; done)
        · simp only [VR] at hx hy
          obtain ⟨U, _, rfl⟩ := hx
          subst hy
          exact .inl (.if2 _ _)
        · simp only [VR] at hx hy
          obtain ⟨U, hU, rfl⟩ := hx
          obtain ⟨V, hV, rfl⟩ := hy
          exact .inl (.if3 _ _ _ _)
    case struct fs =>
      split at e'
      · cases e'
      · rename_i hq
        obtain ⟨_, q2, _⟩ := k.eqs t hq
        split at e'
        · split at e'
          · simp only [VR] at hx hy
            obtain ⟨XS, hx, rfl⟩ := hx
            obtain ⟨YS, hy, rfl⟩ := hy
            exact .inr ⟨⟨_, _, rfl, rfl⟩, q2⟩
          · cases e'
        · cases e'
    case array m el =>
      split at e'
      · cases e'
      · rename_i hq
        obtain ⟨_, q2, _⟩ := k.eqs t hq
        split at e' <;> try (cases e'; done)
        split at e' <;> try (cases e'; done)
        split at e' <;> try (cases e'; done)
        split at e' <;> try (cases e'; done)
        split at e' <;> try (cases e'; done)
        simp only [VR] at hx hy
        obtain ⟨XS, hx, rfl⟩ := hx
        obtain ⟨YS, hy, rfl⟩ := hy
        exact .inr ⟨⟨_, _, rfl, rfl⟩, q2⟩

theorem bin_ok {ρ : Map} {op : BinOp} {t t2 : TypeId} {x y v : AV} {X Y : Value} (e : oBin c op t x y = some v) (hx : VR ρ x X) (hy : VR ρ y Y) (p q : Operand) (w : World) :
    ∃ z, (do eqGuard op t p q X Y; binOp op t X Y : Sem Value).run c.P w = .ok z w ∧ VR ρ v z := by
  unfold oBin at e
  split at e
  · -- integers
    rename_i kk a
    split at e
    · rename_i j b
      simp only [VR] at hx hy; subst hx; subst hy
      have hg : (eqGuard op t p q (.int kk a) (.int j b)).run c.P w = .ok () w := by
        unfold eqGuard; cases op <;> simp
      simp only [Sem.run_bind, hg, Result.andThen_ok]
      split at e
      · exact shiftOp_ok e t w ρ
      · exact shiftOp_ok e t w ρ
      · rename_i h1 h2
        split at e
        · rename_i hk
          obtain rfl := (ikEq_eq _ _).1 hk
          exact intOp_ok e t w ρ (fun e => h1 e) (fun e => h2 e)
        · cases e
    · rename_i n
      unfold bigOp at e
      split at e
      · split at e
        · rename_i hk
          obtain rfl := (ikEq_eq _ _).1 hk
          split at e
          · rename_i hlt
            cases e
            simp only [VR] at hx hy; subst hx
            obtain ⟨m, hm, rfl⟩ := hy
            rw [ilt_eq] at hlt
            have hle : a ≤ m := by
              have : ¬ ((n : Int) < a) := by simpa using hlt
              omega
            have hg : (eqGuard .leq t p q (.int .i64 a) (.int .i64 m)).run c.P w = .ok () w := by
              unfold eqGuard; simp
            simp only [Sem.run_bind, hg, Result.andThen_ok]
            refine ⟨.bool true, ?_, by simp only [VR]⟩
            have := intOp_ok (P := c.P) (op := .leq) (k := .i64) (a := a) (b := m) (v := .bool true) (by simp [intOp, ilt_eq]; omega) t w ρ (fun e => by cases e) (fun e => by cases e)
            obtain ⟨z, z1, z2⟩ := this
            simp only [VR] at z2
            subst z2; exact z1
          · cases e
        · cases e
      · cases e
    · rename_i n
      unfold lowOp at e
      split at e
      · split at e
        · rename_i hk
          obtain rfl := (ikEq_eq _ _).1 hk
          split at e
          · rename_i hlt
            cases e
            simp only [VR] at hx hy; subst hx
            obtain ⟨m, hm, rfl⟩ := hy
            rw [ilt_eq] at hlt
            have hle : m < a := by
              have : (n : Int) < a := by simpa using hlt
              omega
            have hg : (eqGuard .leq t p q (.int .i64 a) (.int .i64 m)).run c.P w = .ok () w := by
              unfold eqGuard; simp
            simp only [Sem.run_bind, hg, Result.andThen_ok]
            refine ⟨.bool false, ?_, by simp only [VR]⟩
            have := intOp_ok (P := c.P) (op := .leq) (k := .i64) (a := a) (b := m) (v := .bool false) (by simp [intOp, ilt_eq]; omega) t w ρ (fun e => by cases e) (fun e => by cases e)
            obtain ⟨z, z1, z2⟩ := this
            simp only [VR] at z2
            subst z2; exact z1
          · cases e
        · cases e
      · cases e
    · cases e
  · rename_i a
    split at e
    · rename_i b
      simp only [VR] at hx hy; subst hx; subst hy
      have hg : (eqGuard op t p q (.string (bs a)) (.string (bs b))).run c.P w = .ok () w := by
        unfold eqGuard; cases op <;> simp
      simp only [Sem.run_bind, hg, Result.andThen_ok]
      exact strOp_ok e t w ρ
    · cases e
  · rename_i hni hns
    -- by the type
    have key : ∀ b, eqv c 6 t x y = some b → (∀ w, (Op.equal t X Y).run c.P w = .ok b w) ∧ (eqGuard op t p q X Y).run c.P w = .ok () w ∧ (∀ w, (binOp .eql t X Y).run c.P w = .ok (.bool b) w) ∧ (∀ w, (binOp .neq t X Y).run c.P w = .ok (.bool (!b)) w) := fun b hb => by
      have h1 : ∀ w, (Op.equal t X Y).run c.P w = .ok b w := fun w => eqv_ok k 6 t x y X Y b 10000 hb hx hy (by omega) w
      rcases eqv_shapes k hb hx hy (fun j a e => hni j a e) (fun a e => hns a e) with hs | ⟨⟨xs, ys, rfl, rfl⟩, hg⟩
      · refine ⟨h1, ?_, fun w => ?_, fun w => ?_⟩
        · cases hs <;> (unfold eqGuard; cases op <;> simp)
        · cases hs <;> simp [binOp, h1]
        · cases hs <;> simp [binOp, h1]
      · refine ⟨h1, ?_, fun w => ?_, fun w => ?_⟩
        · unfold eqGuard; cases op <;> simp [hg]
        · simp [binOp, h1]
        · simp [binOp, h1]
    split at e
    · split at e
      · rename_i b hb
        cases e
        obtain ⟨_, h2, h3, _⟩ := key b hb
        exact ⟨.bool b, by simp only [Sem.run_bind, h2, Result.andThen_ok, h3], by simp only [VR]⟩
      · cases e
    · split at e
      · rename_i b hb
        cases e
        obtain ⟨_, h2, _, h3⟩ := key b hb
        exact ⟨.bool (!b), by simp only [Sem.run_bind, h2, Result.andThen_ok, h3], by simp only [VR]⟩
      · cases e
    · cases e

/-- with which of the two is a constant -/
theorem binX_ok {ρ : Map} {op : BinOp} {t t2 : TypeId} {x y v : AV} {X Y : Value} {p q : Operand} (e : oBinX c op t (constB p q) x y = some v) (hx : VR ρ x X) (hy : VR ρ y Y) (w : World) :
    ∃ z, (do eqGuard op t p q X Y; binOp op t X Y : Sem Value).run c.P w = .ok z w ∧ VR ρ v z := by
  unfold oBinX at e
  split at e
  · unfold oBinNil at e
    split at e
    · simp only [VR] at hx hy; subst hx; subst hy
      split at e
      · cases e
      · rename_i hc
        split at e
        · rename_i d hd
          have hd := under_eq k hd
          split at e
          · rename_i ms
            have heq0 : ∀ (D : Nat) w, (Op.equalIn (D + 1) t .nilIface .nilIface).run c.P w = .ok true w := fun D w => by
              simp [Op.equalIn, run_underlying hd]
            have heq : ∀ w, (Op.equal t .nilIface .nilIface).run c.P w = .ok true w := fun w => heq0 9999 w
            have hgd : ∀ op', (eqGuard op' t p q .nilIface .nilIface).run c.P w = .ok () w := fun op' => by
              unfold eqGuard
              cases op' <;> cases p <;> cases q <;> first | (cases hc; done) | simp
            split at e
            · cases e
              refine ⟨.bool true, ?_, by simp only [VR]⟩
              simp only [Sem.run_bind, hgd, Result.andThen_ok]
              simp [binOp, heq]
            · cases e
              refine ⟨.bool false, ?_, by simp only [VR]⟩
              simp only [Sem.run_bind, hgd, Result.andThen_ok]
              simp [binOp, heq]
            · cases e
          · cases e
        · cases e
    · exact bin_ok k (t2 := t) e hx hy p q w
  · exact bin_ok k (t2 := t) e hx hy p q w
end
end Go.Ax
