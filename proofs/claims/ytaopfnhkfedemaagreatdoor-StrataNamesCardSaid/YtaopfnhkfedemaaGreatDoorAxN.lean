/-
  AxN: maps: lookups, entries, iterators.
-/
import Derived.Test.YtaopfnhkfedemaaGreatDoorAxM
set_option linter.unusedVariables false
set_option linter.unusedSimpArgs false
namespace Go.Ax
open Go.MapKept (IsKey bytes_beq run_checkKey run_findKey)

theorem setObj_ok {P : Program} {w : World} {r : Nat} {o : Obj} (o' : Obj) (h : w.heap[r]? = some o) (hc : ∀ c t f, o ≠ .cells c t f) : (setObj r o').run P w = .ok () (w.putObj r o') := by
  cases o <;> first | exact absurd rfl (hc _ _ _) | simp [setObj, Sem.run, h, World.putObj]

/-- a number or a text -/
def PK (d : TypeDesc) (a : AV) (K : Value) : Prop := (∃ j n, d = .int j ∧ a = .int j n ∧ K = .int j n) ∨ ∃ l, d = .string ∧ a = .str l ∧ K = .string (bs l)
theorem PK.isKey {d : TypeDesc} {a : AV} {K : Value} (h : PK d a K) : IsKey d K := by
  rcases h with ⟨j, n, rfl, _, rfl⟩ | ⟨l, rfl, _, rfl⟩ <;> simp [IsKey]
theorem bs_eq {a b : List Nat} (h : strEq a b = true) : bs a = bs b := by
  rw [strEq_eq] at h
  have : a.map UInt8.ofNat = b.map UInt8.ofNat := by simpa using h
  simp only [bs, this]
theorem bs_ne {a b : List Nat} (h : strEq a b = false) : ¬ bs a = bs b := fun e => by
  rw [strEq_eq] at h
  have : (bs a).data.toList = (bs b).data.toList := by rw [e]
  simp [bs] at this
  simp [this] at h
theorem keyEq_ok {ρ : Map} {d : TypeDesc} {a b : AV} {K E : Value} {q : Bool} (h : PK d a K) (e : keyEq a b = some q) (hb : VR ρ b E) : Instr.sameNow d K E = some q ∧ (q = true → E = K) := by
  rcases h with ⟨j, n, rfl, rfl, rfl⟩ | ⟨l, rfl, rfl, rfl⟩
  · unfold keyEq at e
    simp only [] at e
    split at e
    · rename_i i m
      split at e
      · rename_i hk
        cases e
        obtain rfl := (ikEq_eq _ _).1 hk
        simp only [VR] at hb; subst hb
        refine ⟨by simp [Instr.sameNow, ieq_eq], fun q => ?_⟩
        rw [ieq_eq] at q
        have : n = m := by simpa using q
        rw [this]
      · cases e
    · cases e
  · unfold keyEq at e
    simp only [] at e
    split at e
    · rename_i y
      cases e
      simp only [VR] at hb; subst hb
      cases hq : strEq l y with
      | true =>
        refine ⟨?_, fun _ => by rw [bs_eq hq]⟩
        have := bs_eq hq
        simp [Instr.sameNow, this, bytes_beq]
      | false =>
        refine ⟨?_, fun q => by cases q⟩
        have := bs_ne hq
        simp only [Instr.sameNow, Option.some.injEq]
        rw [Bool.eq_false_iff]
        intro hc
        exact this ((bytes_beq _ _).1 hc)
    · cases e

theorem find_ok {ρ : Map} {d : TypeDesc} {a : AV} {K : Value} (h : PK d a K) : ∀ (es : List (AV × AV × Nat)) (ES : List MapEntry) (i : Nat) (r : Option (Nat × AV × Nat)), MapR ρ es ES → findA a es i = some r →
    (r = none ∧ Instr.findNow d K ES i = some none) ∨ ∃ j v b k E, r = some (i + j, v, b) ∧ es[j]? = some (k, v, b) ∧ ES[j]? = some E ∧ Instr.findNow d K ES i = some (some (i + j, E.val)) ∧ E.key = K
  | [], ES, i, r, hm, e => by
    cases e
    have : ES = [] := List.length_eq_zero_iff.1 hm.1.symm
    subst this
    exact .inl ⟨rfl, rfl⟩
  | p :: es, [], i, r, hm, e => by simp [MapR] at hm
  | p :: es, E :: ES, i, r, hm, e => by
    have e' : (match keyEq a p.1 with
      | some true => some (some (i, p.2))
      | some false => findA a es (i + 1)
      | none => none) = some r := e
    obtain ⟨k1, k2, k3⟩ := hm.2 0 p E rfl rfl
    have hm' : MapR ρ es ES := ⟨by simpa using hm.1, fun j p' E' q1 q2 => hm.2 (j + 1) p' E' (by simpa using q1) (by simpa using q2)⟩
    split at e'
    · rename_i hq
      obtain ⟨s1, s2⟩ := keyEq_ok h hq k1
      cases e'
      exact .inr ⟨0, p.2.1, p.2.2, p.1, E, rfl, rfl, rfl, by simp [Instr.findNow, s1], s2 rfl⟩
    · rename_i hq
      obtain ⟨s1, s2⟩ := keyEq_ok h hq k1
      rcases find_ok h es ES (i + 1) r hm' e' with ⟨h1, h2⟩ | ⟨j, v, b, kk, E', h1, h2, h3, h4, h5⟩
      · exact .inl ⟨h1, by simp [Instr.findNow, s1, h2]⟩
      · exact .inr ⟨j + 1, v, b, kk, E', by rw [h1]; congr 2; omega, by simpa using h2, by simpa using h3, by simp [Instr.findNow, s1, h4]; omega, h5⟩
    · cases e'

theorem MapR.set {ρ : Map} {es : List (AV × AV × Nat)} {ES : List MapEntry} (h : MapR ρ es ES) (i : Nat) {k v : AV} {b : Nat} {E : MapEntry} (h1 : VR ρ k E.key) (h2 : VR ρ v E.val) (h3 : E.born = b) :
    MapR ρ (es.set i (k, v, b)) (ES.set i E) := by
  refine ⟨by simp [h.1], fun j p e a1 a2 => ?_⟩
  rw [List.getElem?_set] at a1 a2
  by_cases hij : i = j
  · subst hij
    rw [if_pos rfl] at a1 a2
    split at a1
    · split at a2
      · cases a1; cases a2; exact ⟨h1, h2, h3⟩
      · cases a2
    · cases a1
  · rw [if_neg hij] at a1 a2; exact h.2 j p e a1 a2
theorem MapR.push {ρ : Map} {es : List (AV × AV × Nat)} {ES : List MapEntry} (h : MapR ρ es ES) {k v : AV} {b : Nat} {E : MapEntry} (h1 : VR ρ k E.key) (h2 : VR ρ v E.val) (h3 : E.born = b) :
    MapR ρ (es ++ [(k, v, b)]) (ES ++ [E]) := by
  refine ⟨by simp [h.1], fun j p e a1 a2 => ?_⟩
  have hl := h.1
  by_cases hj : j < es.length
  · rw [List.getElem?_append_left hj] at a1
    rw [List.getElem?_append_left (by omega)] at a2
    exact h.2 j p e a1 a2
  · rw [List.getElem?_append_right (by omega)] at a1
    rw [List.getElem?_append_right (by omega)] at a2
    have hj0 : j - es.length = 0 := by
      have := (List.getElem?_eq_some_iff.1 a1).1
      simp at this; omega
    rw [hj0] at a1
    rw [← hl, hj0] at a2
    simp at a1 a2
    subst a1; subst a2
    exact ⟨h1, h2, h3⟩
theorem MapR.erase {ρ : Map} : ∀ {es : List (AV × AV × Nat)} {ES : List MapEntry}, MapR ρ es ES → ∀ i, MapR ρ (es.eraseIdx i) (ES.eraseIdx i)
  | [], ES, h, i => by
    have : ES = [] := List.length_eq_zero_iff.1 h.1.symm
    subst this; simpa using h
  | p :: es, [], h, i => by simp [MapR] at h
  | p :: es, E :: ES, h, 0 => ⟨by simpa using h.1, fun j p' E' q1 q2 => h.2 (j + 1) p' E' (by simpa using q1) (by simpa using q2)⟩
  | p :: es, E :: ES, h, i + 1 => by
    have hm' : MapR ρ es ES := ⟨by simpa using h.1, fun j p' E' q1 q2 => h.2 (j + 1) p' E' (by simpa using q1) (by simpa using q2)⟩
    have ih := MapR.erase hm' i
    refine ⟨by simpa using ih.1, fun j p' E' q1 q2 => ?_⟩
    cases j with
    | zero => exact h.2 0 p' E' (by simpa using q1) (by simpa using q2)
    | succ j => exact ih.2 j p' E' (by simpa using q1) (by simpa using q2)

/-- what the model finds -/
theorem findKey_ok {P : Program} {ρ : Map} {kt : TypeId} {d : TypeDesc} {a : AV} {K : Value} (hd : P.underlying kt = some d) (h : PK d a K) (w : World) {es : List (AV × AV × Nat)} {ES : List MapEntry} {r : Option (Nat × AV × Nat)} (hm : MapR ρ es ES) (e : findA a es 0 = some r) :
    (r = none ∧ (Instr.findKey kt K ES).run P w = .ok none w) ∨ ∃ j v b k E, r = some (j, v, b) ∧ es[j]? = some (k, v, b) ∧ ES[j]? = some E ∧ (Instr.findKey kt K ES).run P w = .ok (some (j, E.val)) w ∧ E.key = K ∧ VR ρ v E.val ∧ E.born = b := by
  rcases find_ok h es ES 0 r hm e with ⟨h1, h2⟩ | ⟨j, v, b, k, E, h1, h2, h3, h4, h5⟩
  · exact .inl ⟨h1, run_findKey hd h2⟩
  · obtain ⟨_, q, q2⟩ := hm.2 j _ _ h2 h3
    rw [Nat.zero_add] at h1 h4
    exact .inr ⟨j, v, b, k, E, h1, h2, h3, run_findKey hd h4, h5, q, q2⟩

theorem HR.mapAt {ρ : Map} {h : Heap} {w : World} (hr : HR ρ h w) {i B N : Nat} {es : List (AV × AV × Nat)} {clock : Nat} (e : h.get i = .map es clock) (p : ρ i = some (B, N)) :
    ∃ ES, w.heap[B]? = some (.map ES clock) ∧ MapR ρ es ES.toList := by
  have := hr.ok i B N p (by simp [Heap.ok, e])
  rw [e] at this; exact this

theorem putMap_ok {ρ : Map} {h : Heap} {w : World} (hr : HR ρ h w) (wf : WF h) {i B N : Nat} {es es' : List (AV × AV × Nat)} {ES : Array MapEntry} {clock clock' : Nat} (e : h.get i = .map es clock) (p : ρ i = some (B, N))
    (hm : MapR ρ es' ES.toList) : Good ρ h w ρ (h.put i (.map es' clock')) (w.putObj B (.map ES clock')) :=
  Good.putBlock hr wf p _ _ _ e rfl (by simp) rfl ⟨ES, putObj_at _ (hr.lt i B N p), hm⟩

section
variable {c : Ctx} (k : CtxOk c)
include k

theorem okKey_ok {ρ : Map} {kt : TypeId} {a : AV} {K : Value} (e : okKey c kt a = true) (h : VR ρ a K) : ∃ d, c.P.underlying kt = some d ∧ PK d a K := by
  unfold okKey at e
  split at e
  · rename_i d hd
    refine ⟨d, under_eq k hd, ?_⟩
    split at e
    · split at e
      · rename_i i n
        obtain rfl := (ikEq_eq _ _).1 e
        simp only [VR] at h; subst h
        exact .inl ⟨_, n, rfl, rfl, rfl⟩
      · cases e
    · split at e
      · simp only [VR] at h; subst h
        exact .inr ⟨_, rfl, rfl, rfl⟩
      · cases e
    · cases e
  · cases e

theorem lookup_ok {ρ : Map} {h : Heap} {w : World} (hr : HR ρ h w) {t : TypeId} {x kk v : AV} {X K : Value} {ok : Bool} (e : oLookup c h t x kk ok = some v) (hx : VR ρ x X) (hk : VR ρ kk K) :
    ∃ z, (Instr.lookup t X K ok).run c.P w = .ok z w ∧ VR ρ v z := by
  unfold oLookup at e
  split at e
  · rename_i d hd
    have hu := under_eq k hd
    split at e
    · rename_i kt el
      split at e
      · cases e
      · rename_i hok
        obtain ⟨dk, hdk, pk⟩ := okKey_ok k hok hk
        split at e
        · cases e
        · rename_i r hf
          unfold lookFind at hf
          split at hf
          · simp only [VR] at hx; subst hx
            rcases findKey_ok hdk pk w (ρ := ρ) (ES := []) ⟨rfl, fun i p e a => by simp at a⟩ (show findA kk [] 0 = some r from hf) with ⟨rfl, h2⟩ | ⟨j, u, b, k', E, rfl, h2, h3, _⟩
            · unfold lookAns at e
              simp only [] at e
              split at e
              · rename_i z hz
                cases e
                obtain ⟨Z, z1, z2, _⟩ := run_zero k hz ρ
                cases ok with
                | true => exact ⟨.tuple #[Z, .bool false], by simp [Instr.lookup, run_underlying hu, run_checkKey hdk pk.isKey, h2, z1], by simp only [okPair, VR]; exact ⟨[Z, .bool false], by simp [VRs, VR, z2], rfl⟩⟩
                | false => exact ⟨Z, by simp [Instr.lookup, run_underlying hu, run_checkKey hdk pk.isKey, h2, z1], z2⟩
              · cases e
            · simp at h2
          · rename_i id
            simp only [VR] at hx
            obtain ⟨B, N, hp, rfl⟩ := hx
            split at hf
            · rename_i es clock hm
              obtain ⟨ES, m1, m2⟩ := hr.mapAt hm hp
              have g : (getObj B).run c.P w = .ok (.map ES clock) w := Go.MapKept.run_getObj_map m1
              rcases findKey_ok hdk pk w m2 hf with ⟨rfl, h2⟩ | ⟨j, u, b, k', E, rfl, h2, h3, h4, h5, q, _⟩
              · unfold lookAns at e
                simp only [] at e
                split at e
                · rename_i z hz
                  cases e
                  obtain ⟨Z, z1, z2, _⟩ := run_zero k hz ρ
                  cases ok with
                  | true => exact ⟨.tuple #[Z, .bool false], by simp [Instr.lookup, run_underlying hu, g, run_checkKey hdk pk.isKey, h2, z1], by simp only [okPair, VR]; exact ⟨[Z, .bool false], by simp [VRs, VR, z2], rfl⟩⟩
                  | false => exact ⟨Z, by simp [Instr.lookup, run_underlying hu, g, run_checkKey hdk pk.isKey, h2, z1], z2⟩
                · cases e
              · unfold lookAns at e
                simp only [] at e
                cases e
                cases ok with
                | true => exact ⟨.tuple #[E.val, .bool true], by simp [Instr.lookup, run_underlying hu, g, run_checkKey hdk pk.isKey, h4], by simp only [okPair, VR]; exact ⟨[E.val, .bool true], by simp [VRs, VR]; exact q, rfl⟩⟩
                | false => exact ⟨E.val, by simp [Instr.lookup, run_underlying hu, g, run_checkKey hdk pk.isKey, h4], q⟩
            · cases hf
          · cases hf
    · cases e
  · cases e

omit k in
theorem sameBits_key {d : TypeDesc} {a : AV} {K : Value} (h : PK d a K) (n : Nat) : Instr.sameBits n K K = true := by
  rcases h with ⟨j, m, _, _, rfl⟩ | ⟨l, _, _, rfl⟩
  · cases n <;> simp [Instr.sameBits]
  · have : (bs l == bs l) = true := (bytes_beq _ _).2 rfl
    cases n <;> simpa [Instr.sameBits] using this

omit k in
theorem keyStays {P : Program} {d : TypeDesc} {a : AV} {K : Value} (h : PK d a K) (w : World) : (Instr.keyThatStays K K).run P w = .ok K w := by
  unfold Instr.keyThatStays
  rw [if_pos (sameBits_key h _)]
  rfl

omit k in
theorem toList_modify {α : Type} (xs : Array α) (i : Nat) (f : α → α) {x : α} (h : xs.toList[i]? = some x) : (xs.modify i f).toList = xs.toList.set i (f x) := by
  apply List.ext_getElem?
  intro j
  rw [Array.getElem?_toList, Array.getElem?_modify, List.getElem?_set]
  have hi := (List.getElem?_eq_some_iff.1 h).1
  by_cases e : i = j
  · subst e
    rw [if_pos rfl, if_pos rfl]
    rw [Array.getElem?_toList] at h
    rw [h]
    simp at hi
    simp [hi]
  · rw [if_neg e, if_neg e, Array.getElem?_toList]

theorem mapUpdate_ok {ρ : Map} {h h' : Heap} {w : World} (hr : HR ρ h w) (wf : WF h) {t : TypeId} {x kk v : AV} {X K V : Value} (e : oMapUpdate c h t x kk v = some h') (hx : VR ρ x X) (hk : VR ρ kk K) (hv : VR ρ v V) :
    ∃ w', (Instr.mapUpdate t X K V).run c.P w = .ok () w' ∧ Good ρ h w ρ h' w' := by
  unfold oMapUpdate at e
  split at e
  · rename_i d hd
    have hu := under_eq k hd
    split at e
    · rename_i kt el
      split at e
      · cases e
      · rename_i hok
        obtain ⟨dk, hdk, pk⟩ := okKey_ok k hok hk
        split at e
        · rename_i id
          simp only [VR] at hx
          obtain ⟨B, N, hp, rfl⟩ := hx
          split at e
          · rename_i es clock hm
            obtain ⟨ES, m1, m2⟩ := hr.mapAt hm hp
            have g : (getObj B).run c.P w = .ok (.map ES clock) w := Go.MapKept.run_getObj_map m1
            have gs : ∀ o', (setObj B o').run c.P w = .ok () (w.putObj B o') := fun o' => setObj_ok o' m1 (fun _ _ _ q => by cases q)
            split at e
            · rename_i i u b hf
              cases e
              rcases findKey_ok hdk pk w m2 hf with ⟨q, _⟩ | ⟨j, u', b', k', E, q1, h2, h3, h4, h5, q, hb⟩
              · cases q
              · cases q1
                refine ⟨_, ?_, putMap_ok hr wf hm hp (clock' := clock) (ES := ES.modify i fun e => { e with key := K, val := V }) ?_⟩
                · have e3 : ES[i]? = some E := by simpa using h3
                  simp [Instr.mapUpdate, run_underlying hu, g, run_checkKey hdk pk.isKey, h4, e3, h5, keyStays pk, gs]
                · rw [toList_modify _ _ _ h3]
                  exact m2.set i hk hv hb
            · rename_i hf
              cases e
              rcases findKey_ok hdk pk w m2 hf with ⟨_, h2⟩ | ⟨j, u', b', k', E, q1, _⟩
              · refine ⟨_, ?_, putMap_ok hr wf hm hp (clock' := clock + 1) (ES := ES.push { key := K, val := V, born := clock }) ?_⟩
                · simp [Instr.mapUpdate, run_underlying hu, g, run_checkKey hdk pk.isKey, h2, gs]
                · rw [Array.toList_push]
                  exact m2.push hk hv rfl
              · cases q1
            · cases e
          · cases e
        · cases e
    · cases e
  · cases e

theorem mapEntry_ok {ρ : Map} {h h' : Heap} {w : World} (hr : HR ρ h w) (wf : WF h) {t : TypeId} {x kk v : AV} {X K : Value} (e : oMapEntry c h t x kk = some (v, h')) (hx : VR ρ x X) (hk : VR ρ kk K) :
    ∃ z w', (Instr.mapEntry t X K).run c.P w = .ok z w' ∧ Good ρ h w ρ h' w' ∧ VR ρ v z := by
  unfold oMapEntry at e
  split at e
  · rename_i d hd
    have hu := under_eq k hd
    split at e
    · rename_i kt el
      split at e
      · cases e
      · rename_i hok
        obtain ⟨dk, hdk, pk⟩ := okKey_ok k hok hk
        split at e
        · rename_i id
          simp only [VR] at hx
          obtain ⟨B, N, hp, rfl⟩ := hx
          split at e
          · rename_i es clock hm
            obtain ⟨ES, m1, m2⟩ := hr.mapAt hm hp
            have g : (getObj B).run c.P w = .ok (.map ES clock) w := Go.MapKept.run_getObj_map m1
            have gs : ∀ o', (setObj B o').run c.P w = .ok () (w.putObj B o') := fun o' => setObj_ok o' m1 (fun _ _ _ q => by cases q)
            split at e
            · rename_i i u b hf
              cases e
              rcases findKey_ok hdk pk w m2 hf with ⟨q, _⟩ | ⟨j, u', b', k', E, q1, h2, h3, h4, h5, q, hb⟩
              · cases q
              · cases q1
                have e3 : ES[i]? = some E := by simpa using h3
                refine ⟨.tuple #[E.val, goInt E.born], _, ?_, putMap_ok hr wf hm hp (clock' := clock) (ES := ES.modify i fun e => { e with key := K }) ?_, ?_⟩
                · simp [Instr.mapEntry, run_underlying hu, g, run_checkKey hdk pk.isKey, h4, e3, h5, keyStays pk, gs]
                · rw [toList_modify _ _ _ h3]
                  exact m2.set i hk q hb
                · simp only [VR]
                  exact ⟨[E.val, goInt E.born], by simp [VRs, VR, goInt, hb]; exact q, rfl⟩
            · rename_i hf
              split at e
              · rename_i z hz
                cases e
                obtain ⟨Z, z1, z2, _⟩ := run_zero k hz ρ
                rcases findKey_ok hdk pk w m2 hf with ⟨_, h2⟩ | ⟨j, u', b', k', E, q1, _⟩
                · refine ⟨.tuple #[Z, goInt clock], _, ?_, putMap_ok hr wf hm hp (clock' := clock + 1) (ES := ES.push { key := K, val := Z, born := clock }) ?_, ?_⟩
                  · simp [Instr.mapEntry, run_underlying hu, g, run_checkKey hdk pk.isKey, h2, z1, gs]
                  · rw [Array.toList_push]
                    exact m2.push hk z2 rfl
                  · simp only [VR]
                    exact ⟨[Z, goInt clock], by simp [VRs, VR, goInt]; exact z2, rfl⟩
                · cases q1
              · cases e
            · cases e
          · cases e
        · cases e
    · cases e
  · cases e
end
end Go.Ax
