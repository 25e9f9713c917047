/-
  AxI: '==', lengths, conversions of numbers; lookups.
-/
import Derived.Test.YtaopfnhkfedemaaGreatDoorAxH
set_option linter.unusedVariables false
set_option linter.unusedSimpArgs false
namespace Go.Ax

section
variable {c : Ctx} (k : CtxOk c)
include k

theorem len_ok {ρ : Map} {h : Heap} {w : World} (hr : HR ρ h w) {t : TypeId} {x v : AV} {y : Value} (e : oLen c h t x = some v) (hx : VR ρ x y) (ts : Array TypeId) (ht : ts[0]? = some t) (ty : TypeId) (rest : List Value) :
    ∃ z, (Builtin.len_ ts ty (y :: rest).toArray).run c.P w = .ok z w ∧ VR ρ v z := by
  unfold oLen at e
  split at e
  · rename_i l
    simp only [VR] at hx; subst hx
    split at e
    · rename_i d hd
      split at e
      · cases e; exact ⟨.int .i64 (l.length : Int), by simp [Builtin.len_, ht, run_under k hd, goInt, bs_size], by simp only [VR]; rfl⟩
      · cases e
    · cases e
  · simp only [VR] at hx; subst hx
    split at e
    · rename_i d hd
      split at e
      · cases e; exact ⟨.int .i64 0, by simp [Builtin.len_, ht, run_under k hd, goInt], by simp only [VR]⟩
      · cases e
    · cases e
  · simp only [VR] at hx
    obtain ⟨B, N, o, C, hp, rfl⟩ := hx
    split at e
    · rename_i d hd
      split at e
      · cases e; exact ⟨.int .i64 0, by simp [Builtin.len_, ht, run_under k hd, goInt], by simp only [VR]⟩
      · cases e
    · cases e
  · rename_i id off len cap z
    simp only [VR] at hx
    obtain ⟨B, N, C, hp, rfl, _⟩ := hx
    split at e
    · rename_i d hd
      split at e
      · cases e; exact ⟨.int .i64 (len : Int), by simp [Builtin.len_, ht, run_under k hd, goInt], by simp only [VR]; rfl⟩
      · cases e
    · cases e
  · simp only [VR] at hx; subst hx
    split at e
    · rename_i d hd
      split at e
      · cases e; exact ⟨.int .i64 0, by simp [Builtin.len_, ht, run_under k hd, goInt], by simp only [VR]⟩
      · cases e
    · cases e
  · rename_i id
    simp only [VR] at hx
    obtain ⟨B, N, hp, rfl⟩ := hx
    split at e
    · rename_i d hd
      split at e
      · split at e
        · rename_i es clock hm
          cases e
          have := hr.ok id B N hp (by simp [Heap.ok, hm])
          rw [hm] at this
          obtain ⟨ES, h1, h2⟩ := this
          refine ⟨.int .i64 (ES.size : Int), by simp [Builtin.len_, ht, run_under k hd, goInt, getObj, Sem.run, h1], ?_⟩
          simp only [VR]; rw [h2.1]; simp
        · cases e
      · cases e
    · cases e
  · cases e

theorem cap_ok {ρ : Map} {w : World} {t : TypeId} {x v : AV} {y : Value} (e : oCap c t x = some v) (hx : VR ρ x y) (ts : Array TypeId) (ht : ts[0]? = some t) (ty : TypeId) (rest : List Value) :
    ∃ z, (Builtin.cap_ ts ty (y :: rest).toArray).run c.P w = .ok z w ∧ VR ρ v z := by
  unfold oCap at e
  split at e
  · rename_i d hd
    split at e
    · split at e
      · cases e
        simp only [VR] at hx; subst hx
        exact ⟨.int .i64 0, by simp [Builtin.cap_, ht, run_under k hd, goInt], by simp only [VR]⟩
      · rename_i id off len kk z
        simp only [VR] at hx
        obtain ⟨B, N, C, hp, rfl, hle, hk, hn⟩ := hx
        refine ⟨.int .i64 (C : Int), by simp [Builtin.cap_, ht, run_under k hd, goInt], ?_⟩
        split at e
        · rename_i kk
          cases e
          rw [← hk _ rfl]; simp only [VR]; rfl
        · cases e; simp only [VR]
      · simp only [VR] at hx
        obtain ⟨B, N, o, C, hp, rfl⟩ := hx
        cases e
        exact ⟨.int .i64 (C : Int), by simp [Builtin.cap_, ht, run_under k hd, goInt], by simp only [VR]⟩
      · cases e
    · cases e
  · cases e

omit k in
theorem mm1_ok {P : Program} {ρ : Map} {mx : Bool} {a b v : AV} {x y : Value} (e : mm1 mx a b = some v) (hx : VR ρ a x) (hy : VR ρ b y) (w : World) :
    ∃ z, ((if mx then Builtin.max2 else Builtin.min2) x y : Sem Value).run P w = .ok z w ∧ VR ρ v z := by
  unfold mm1 at e
  split at e
  · rename_i k m
    split at e
    · rename_i j n
      cases e
      simp only [VR] at hx hy; subst hx; subst hy
      cases mx with
      | true =>
        refine ⟨.int k (if n > m then n else m), by simp [Builtin.max2], ?_⟩
        simp only [VR, ilt_eq]
        by_cases hc : m < n
        · rw [if_pos hc]; simp [hc]
        · rw [if_neg hc]; simp [hc]
      | false =>
        refine ⟨.int k (if n < m then n else m), by simp [Builtin.min2], ?_⟩
        simp only [VR, ilt_eq]
        by_cases hc : n < m
        · rw [if_pos hc]; simp [hc]
        · rw [if_neg hc]; simp [hc]
    · cases e
  · cases e
omit k in
theorem min_ok {P : Program} {ρ : Map} (mx : Bool) : ∀ (l : List AV) (L : List Value) (a : AV) (y : Value) (v : AV), VRs ρ l L → VR ρ a y → oMinMax mx (a :: l) = some v →
    ∀ w, ∃ z, (L.foldlM (if mx then Builtin.max2 else Builtin.min2) y : Sem Value).run P w = .ok z w ∧ VR ρ v z
  | [], L, a, y, v, h, hy, e, w => by
    simp only [VRs] at h; subst h
    cases e
    exact ⟨y, by simp, hy⟩
  | b :: l, L, a, y, v, h, hy, e, w => by
    simp only [VRs] at h
    obtain ⟨x, r, hx, hl, rfl⟩ := h
    have e' : (match mm1 mx a b with | some u => oMinMax mx (u :: l) | none => none) = some v := e
    split at e'
    · rename_i u hu
      obtain ⟨z1, h1, h2⟩ := mm1_ok (P := P) hu hy hx w
      obtain ⟨z, h3, h4⟩ := min_ok (P := P) mx l r u z1 v hl h2 e' w
      refine ⟨z, ?_, h4⟩
      rw [List.foldlM_cons, Sem.run_bind, h1]; exact h3
    · cases e'

/-! ### '==' -/
omit k in
theorem eqPlain_ok {P : Program} {ρ : Map} {x y : AV} {X Y : Value} {b : Bool} {t : TypeId} {d : TypeDesc} {D : Nat} (hd : P.underlying t = some d) (e : eqPlain x y = some b) (hx : VR ρ x X) (hy : VR ρ y Y)
    (hk : (d = .bool ∧ ∃ a, x = .bool a) ∨ (∃ j, d = .int j ∧ ∃ i a, x = .int i a) ∨ (d = .string ∧ ∃ a, x = .str a)) (w : World) : (Op.equalIn (D + 1) t X Y).run P w = .ok b w := by
  unfold eqPlain at e
  rcases hk with ⟨rfl, a, rfl⟩ | ⟨j, rfl, i, a, rfl⟩ | ⟨rfl, a, rfl⟩ <;> simp only [] at e <;> split at e
  · cases e
    simp only [VR] at hx hy; subst hx; subst hy
    simp [Op.equalIn, run_underlying hd]
  · cases e
  · rename_i m n
    split at e
    · rename_i hk2
      cases e
      obtain rfl := (ikEq_eq _ _).1 hk2
      simp only [VR] at hx hy; subst hx; subst hy
      simp [Op.equalIn, run_underlying hd, ieq_eq]
    · cases e
  · cases e
  · cases e
    simp only [VR] at hx hy; subst hx; subst hy
    simp only [Op.equalIn, Sem.run_bind, run_underlying hd, Result.andThen_ok, Sem.run_pure]
    congr 1
    rw [strEq_eq]
    have : ∀ p q : List Nat, (bs p == bs q) = (p.map UInt8.ofNat == q.map UInt8.ofNat) := fun p q => by
      have e1 : (bs p == bs q) = ((bs p).data == (bs q).data) := rfl
      rw [e1, Bool.eq_iff_iff, beq_iff_eq, beq_iff_eq]
      constructor
      · intro h
        have : (bs p).data.toList = (bs q).data.toList := by rw [h]
        simpa [bs] using this
      · intro h; simp only [bs, h]
    exact this _ _
  · cases e

omit k in
theorem eqNil_ok {P : Program} {ρ : Map} {x y : AV} {X Y : Value} {b : Bool} {t : TypeId} {d : TypeDesc} {D : Nat} (hd : P.underlying t = some d) (hx : VR ρ x X) (hy : VR ρ y Y)
    (hk : (∃ p, d = .pointer p ∧ (∃ s, ∀ w, (sizeOf p).run P w = .ok s w) ∧ eqPtr x y = some b) ∨ (∃ p, d = .slice p ∧ eqSl x y = some b) ∨ (∃ p q, d = .map p q ∧ eqMp x y = some b) ∨ (∃ p q r, d = .func p q r ∧ eqFn x y = some b)) (w : World) : (Op.equalIn (D + 1) t X Y).run P w = .ok b w := by
  rcases hk with ⟨p, rfl, ⟨ps, hps⟩, e⟩ | ⟨p, rfl, e⟩ | ⟨p, q, rfl, e⟩ | ⟨p, q, r, rfl, e⟩
  · unfold eqPtr at e
    split at e <;> try (cases e; done)
    · split at e <;> try (cases e; done)
      · cases e; simp only [VR] at hx hy; subst hx; subst hy; simp [Op.equalIn, run_underlying hd]
      · cases e; simp only [VR] at hx hy; subst hx; obtain ⟨B, N, hp, rfl⟩ := hy; simp [Op.equalIn, run_underlying hd]
      · cases e; simp only [VR] at hx hy; subst hx; subst hy; simp [Op.equalIn, run_underlying hd]
    · split at e <;> try (cases e; done)
      · cases e; simp only [VR] at hx hy; subst hy; obtain ⟨B, N, hp, rfl⟩ := hx; simp [Op.equalIn, run_underlying hd]
      · split at e
        · rename_i hij
          split at e
          · rename_i hoq
            cases e
            simp only [VR] at hx hy
            obtain ⟨B, N, hp, rfl⟩ := hx
            obtain ⟨C, M, hq, rfl⟩ := hy
            have h1 := beqT hij
            have h2 := beqT hoq
            subst h1; subst h2
            rw [hp] at hq; cases hq
            by_cases hs : ps = 0
            · simp [Op.equalIn, run_underlying hd, hps, hs]
            · simp [Op.equalIn, run_underlying hd, hps, hs, sameAddr]
          · cases e
        · cases e
    · split at e <;> try (cases e; done)
      · cases e; simp only [VR] at hx hy; subst hy; subst hx; simp [Op.equalIn, run_underlying hd]
  · unfold eqSl at e
    split at e <;> try (cases e; done)
    · split at e <;> try (cases e; done)
      · cases e; simp only [VR] at hx hy; subst hx; subst hy; simp [Op.equalIn, run_underlying hd]
      · cases e; simp only [VR] at hx hy; subst hx; obtain ⟨B, N, C, hp, rfl, _⟩ := hy; simp [Op.equalIn, run_underlying hd]
      · cases e; simp only [VR] at hx hy; subst hx; obtain ⟨B, N, o, C, hp, rfl⟩ := hy; simp [Op.equalIn, run_underlying hd]
    · split at e <;> try (cases e; done)
      · cases e; simp only [VR] at hx hy; subst hy; obtain ⟨B, N, C, hp, rfl, _⟩ := hx; simp [Op.equalIn, run_underlying hd]
    · split at e <;> try (cases e; done)
      · cases e; simp only [VR] at hx hy; subst hy; obtain ⟨B, N, o, C, hp, rfl⟩ := hx; simp [Op.equalIn, run_underlying hd]
  · unfold eqMp at e
    split at e <;> try (cases e; done)
    · split at e <;> try (cases e; done)
      · cases e; simp only [VR] at hx hy; subst hx; subst hy; simp [Op.equalIn, run_underlying hd]
      · cases e; simp only [VR] at hx hy; subst hx; obtain ⟨B, N, hp, rfl⟩ := hy; simp [Op.equalIn, run_underlying hd]
    · split at e <;> try (cases e; done)
      · cases e; simp only [VR] at hx hy; subst hy; obtain ⟨B, N, hp, rfl⟩ := hx; simp [Op.equalIn, run_underlying hd]
  · unfold eqFn at e
    split at e <;> try (cases e; done)
    · split at e <;> try (cases e; done)
      · cases e; simp only [VR] at hx hy; subst hx; subst hy; simp [Op.equalIn, run_underlying hd]
      · cases e; simp only [VR] at hx hy; subst hx; obtain ⟨f, F, C, _, _, _, rfl⟩ := hy; simp [Op.equalIn, run_underlying hd]
    · split at e <;> try (cases e; done)
      · cases e; simp only [VR] at hx hy; subst hy; obtain ⟨f, F, C, _, _, _, rfl⟩ := hx; simp [Op.equalIn, run_underlying hd]

omit k in
/-- the model's walk through fields -/
theorem run_fields {P : Program} (g : Field → Sem Bool) (w : World) : ∀ (fs : List Field) (r : Field → Bool) , (∀ f ∈ fs, f.name ≠ "_") → (∀ f ∈ fs, (fs.all r = true ∨ True) → True) →
    ∀ (b : Bool), (∃ m, m ≤ fs.length ∧ (∀ (j : Nat) f, j < m → fs[j]? = some f → (g f).run P w = .ok true w) ∧ ((b = true ∧ m = fs.length) ∨ (b = false ∧ ∃ f, fs[m]? = some f ∧ (g f).run P w = .ok false w))) →
    (forIn (m := Sem) fs ((none : Option Bool), ()) fun f __s => if f.name ≠ "_" then (do
        let x ← g f
        if (!x) = true then pure (ForInStep.done (some false, ())) else pure (ForInStep.yield (none, ()))) else pure (ForInStep.yield (none, ()))).run P w
      = .ok (match b with | true => (none, ()) | false => (some false, ())) w
  | [], r, _, _, b, ⟨m, hm, h1, h2⟩ => by
    rcases h2 with ⟨rfl, _⟩ | ⟨rfl, f, hf, _⟩
    · simp
    · simp at hf
  | f :: fs, r, hn, _, b, ⟨m, hm, h1, h2⟩ => by
    rw [List.forIn_cons, Sem.run_bind, if_pos (hn f (by simp)), Sem.run_bind]
    cases m with
    | zero =>
      rcases h2 with ⟨rfl, h⟩ | ⟨rfl, f', hf, hg⟩
      · simp at h
      · simp at hf; subst hf
        rw [hg]; simp
    | succ m =>
      rw [h1 0 f (by omega) rfl]
      simp only [Result.andThen_ok, Bool.not_true, Bool.false_eq_true, if_false, Sem.run_pure]
      refine run_fields g w fs r (fun f hf => hn f (by simp [hf])) (fun _ _ _ => trivial) b ⟨m, by simp at hm; omega, fun j f' hj hf => h1 (j + 1) f' (by omega) (by simpa using hf), ?_⟩
      rcases h2 with ⟨rfl, h⟩ | ⟨rfl, f', hf, hg⟩
      · exact .inl ⟨rfl, by simp at h; exact h⟩
      · exact .inr ⟨rfl, f', by simpa using hf, hg⟩

theorem eqFields_ok {ρ : Map} {n D : Nat}
    (ih : ∀ (t : TypeId) (x y : AV) (X Y : Value) (b : Bool), eqv c n t x y = some b → VR ρ x X → VR ρ y Y → ∀ w, (Op.equalIn D t X Y).run c.P w = .ok b w)
    {xs ys : List AV} {XS YS : List Value} (hx : VRs ρ xs XS) (hy : VRs ρ ys YS) (w : World) : ∀ (fs : List Field) (b : Bool), eqFields c (eqv c n) xs ys fs = some b →
    ∃ m, m ≤ fs.length ∧ (∀ (j : Nat) f, j < m → fs[j]? = some f → (do let x ← part f.type XS.toArray f.offset; let y ← part f.type YS.toArray f.offset; Op.equalIn D f.type x y : Sem Bool).run c.P w = .ok true w) ∧
      ((b = true ∧ m = fs.length) ∨ (b = false ∧ ∃ f, fs[m]? = some f ∧ (do let x ← part f.type XS.toArray f.offset; let y ← part f.type YS.toArray f.offset; Op.equalIn D f.type x y : Sem Bool).run c.P w = .ok false w))
  | [], b, e => by cases e; exact ⟨0, Nat.le_refl _, fun j f h => by omega, .inl ⟨rfl, rfl⟩⟩
  | f :: fs, b, e => by
    have step : ∀ (u v : AV) (q : Bool), partA c xs f.type f.offset = some u → partA c ys f.type f.offset = some v → eqv c n f.type u v = some q →
        (do let x ← part f.type XS.toArray f.offset; let y ← part f.type YS.toArray f.offset; Op.equalIn D f.type x y : Sem Bool).run c.P w = .ok q w := fun u v q h1 h2 h3 => by
      obtain ⟨X, a1, a2⟩ := part_ok k hx h1
      obtain ⟨Y, b1, b2⟩ := part_ok k hy h2
      simp only [Sem.run_bind, a1, b1, Result.andThen_ok]
      exact ih _ _ _ _ _ _ h3 a2 b2 w
    have cont : ∀ (u v : AV), partA c xs f.type f.offset = some u → partA c ys f.type f.offset = some v → (match eqv c n f.type u v with | some true => eqFields c (eqv c n) xs ys fs | some false => some false | none => none) = some b →
        ∃ m, m ≤ (f :: fs).length ∧ (∀ (j : Nat) f', j < m → (f :: fs)[j]? = some f' → (do let x ← part f'.type XS.toArray f'.offset; let y ← part f'.type YS.toArray f'.offset; Op.equalIn D f'.type x y : Sem Bool).run c.P w = .ok true w) ∧
          ((b = true ∧ m = (f :: fs).length) ∨ (b = false ∧ ∃ f', (f :: fs)[m]? = some f' ∧ (do let x ← part f'.type XS.toArray f'.offset; let y ← part f'.type YS.toArray f'.offset; Op.equalIn D f'.type x y : Sem Bool).run c.P w = .ok false w)) := fun u v h1 h2 h3 => by
      split at h3
      · rename_i hq
        obtain ⟨m, m1, m2, m3⟩ := eqFields_ok ih hx hy w fs b h3
        refine ⟨m + 1, by simp; omega, fun j f' hj hf => ?_, ?_⟩
        · cases j with
          | zero => simp at hf; subst hf; exact step u v true h1 h2 hq
          | succ j => exact m2 j f' (by omega) (by simpa using hf)
        · rcases m3 with ⟨a, b⟩ | ⟨a, f', b, d⟩
          · exact .inl ⟨a, by simp [b]⟩
          · exact .inr ⟨a, f', by simpa using b, d⟩
      · rename_i hq
        cases h3
        exact ⟨0, Nat.zero_le _, fun j f' hj => by omega, .inr ⟨rfl, f, rfl, step u v false h1 h2 hq⟩⟩
      · cases h3
    have e' : (match c.isAgg f.type with
      | some false => (match nth xs f.offset with
        | some u => (match nth ys f.offset with
          | some v => (match eqv c n f.type u v with | some true => eqFields c (eqv c n) xs ys fs | some false => some false | none => none)
          | none => none)
        | none => none)
      | some true => (match c.size f.type with
        | some s => (match eqv c n f.type (.agg ((xs.drop f.offset).take s)) (.agg ((ys.drop f.offset).take s)) with | some true => eqFields c (eqv c n) xs ys fs | some false => some false | none => none)
        | none => none)
      | none => none) = some b := e
    cases hag : c.isAgg f.type with
    | none => rw [hag] at e'; cases e'
    | some g =>
      rw [hag] at e'
      cases g with
      | false =>
        simp only [] at e'
        cases h1 : nth xs f.offset with
        | none => rw [h1] at e'; cases e'
        | some u =>
          rw [h1] at e'
          simp only [] at e'
          cases h2 : nth ys f.offset with
          | none => rw [h2] at e'; cases e'
          | some v =>
            rw [h2] at e'
            exact cont u v (by unfold partA; rw [hag]; exact h1) (by unfold partA; rw [hag]; exact h2) e'
      | true =>
        simp only [] at e'
        cases hs : c.size f.type with
        | none => rw [hs] at e'; cases e'
        | some s =>
          rw [hs] at e'
          exact cont _ _ (by unfold partA; rw [hag]; simp only []; rw [hs]) (by unfold partA; rw [hag]; simp only []; rw [hs]) e'
end
end Go.Ax
