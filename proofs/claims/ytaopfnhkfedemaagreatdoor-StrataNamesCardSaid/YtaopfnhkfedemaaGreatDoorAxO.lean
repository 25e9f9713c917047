/-
  AxO: entries by stamp; deletes; iterators.
-/
import Derived.Test.YtaopfnhkfedemaaGreatDoorAxN
set_option linter.unusedVariables false
set_option linter.unusedSimpArgs false
namespace Go.Ax
open Go.MapKept (IsKey bytes_beq run_checkKey run_findKey)

theorem stamp_ok {ρ : Map} {b : Nat} : ∀ (es : List (AV × AV × Nat)) (ES : List MapEntry) (i n : Nat), MapR ρ es ES → stampA b es i = some n →
    ∃ j p E, n = i + j ∧ es[j]? = some p ∧ ES[j]? = some E ∧ ES.findIdx? (fun e => (e.born : Int) == (b : Int)) = some j ∧ ES.find? (fun e => e.born == b) = some E
  | [], ES, i, n, hm, e => by cases e
  | p :: es, [], i, n, hm, e => by simp [MapR] at hm
  | p :: es, E :: ES, i, n, hm, e => by
    have e' : (match Nat.beq p.2.2 b with | true => some i | false => stampA b es (i + 1)) = some n := e
    obtain ⟨_, _, k3⟩ := hm.2 0 p E rfl rfl
    have hm' : MapR ρ es ES := ⟨by simpa using hm.1, fun j p' E' q1 q2 => hm.2 (j + 1) p' E' (by simpa using q1) (by simpa using q2)⟩
    split at e'
    · rename_i hq
      have hq := beqT hq
      cases e'
      have hb : E.born = b := by rw [k3, hq]
      exact ⟨0, p, E, rfl, rfl, rfl, by simp [List.findIdx?_cons, hb], by simp [List.find?_cons, hb]⟩
    · rename_i hq
      have hq := beqN hq
      have hb : ¬ E.born = b := by rw [k3]; exact hq
      obtain ⟨j, p', E', h1, h2, h3, h4, h5⟩ := stamp_ok es ES (i + 1) n hm' e'
      refine ⟨j + 1, p', E', by omega, by simpa using h2, by simpa using h3, ?_, ?_⟩
      · have hb2 : ((E.born : Int) == (b : Int)) = false := by simp; omega
        rw [List.findIdx?_cons, hb2, h4]; rfl
      · rw [List.find?_cons]
        have : (E.born == b) = false := by simpa using hb
        rw [this]; exact h5

theorem HR.iterAt {ρ : Map} {h : Heap} {w : World} (hr : HR ρ h w) {i B N : Nat} {m : Option Nat} {since last : Nat} {seen : List Nat} (e : h.get i = .mit m since seen last) (p : ρ i = some (B, N)) :
    ∃ M, (m = none → M = none) ∧ (∀ i, m = some i → ∃ C K, ρ i = some (C, K) ∧ M = some C) ∧ w.heap[B]? = some (.mapIter M since seen.toArray last) := by
  have := hr.ok i B N p (by simp [Heap.ok, e])
  rw [e] at this
  obtain ⟨M, h1, h2⟩ := this
  cases m with
  | none => exact ⟨M, fun _ => h1, fun i q => (by cases q), h2⟩
  | some j => exact ⟨M, fun q => (by cases q), fun i q => (by cases q; exact h1), h2⟩

theorem entryStore_ok {P : Program} {ρ : Map} {h h' : Heap} {w : World} (hr : HR ρ h w) (wf : WF h) {x s v : AV} {X S V : Value} (e : oEntryStore h x s v = some h') (hx : VR ρ x X) (hs : VR ρ s S) (hv : VR ρ v V) (t : TypeId) :
    ∃ w', (Instr.entryStore t X S V).run P w = .ok () w' ∧ Good ρ h w ρ h' w' := by
  unfold oEntryStore at e
  split at e
  · rename_i id
    simp only [VR] at hx
    obtain ⟨B, N, hp, rfl⟩ := hx
    split at e
    · rename_i ik n
      simp only [VR] at hs; subst hs
      split at e
      · rename_i b
        split at e
        · rename_i es clock hm
          obtain ⟨ES, m1, m2⟩ := hr.mapAt hm hp
          have g : (getObj B).run P w = .ok (.map ES clock) w := Go.MapKept.run_getObj_map m1
          have gs : ∀ o', (setObj B o').run P w = .ok () (w.putObj B o') := fun o' => setObj_ok o' m1 (fun _ _ _ q => by cases q)
          split at e
          · rename_i i hi
            split at e
            · rename_i k' v' b' hn
              cases e
              rw [nth_eq] at hn
              obtain ⟨j, p, E, h1, h2, h3, h4, _⟩ := stamp_ok es ES.toList 0 i m2 hi
              obtain rfl : i = j := by omega
              rw [h2] at hn; cases hn
              obtain ⟨q1, q2, q3⟩ := m2.2 i _ _ h2 h3
              refine ⟨_, ?_, putMap_ok hr wf hm hp (clock' := clock) (ES := ES.modify i fun e => { e with val := V }) ?_⟩
              · have h4' : ES.findIdx? (fun e => (e.born : Int) == (b : Int)) = some i := (by obtain ⟨l⟩ := ES; simpa using h4)
                simp [Instr.entryStore, g, asInt, asIntOf, gs, h4']
              · rw [toList_modify _ _ _ h3]
                exact m2.set i q1 hv q3
            · cases e
          · cases e
        · cases e
      · cases e
    · cases e
  · cases e

theorem iter_alloc {ρ : Map} {h : Heap} {w : World} (hr : HR ρ h w) (wf : WF h) (fr : ρ h.nxt = none) (m : Option Nat) (M : Option Nat) (since : Nat) (last : Nat) (hm0 : m = none → M = none) (hm1 : ∀ i, m = some i → ∃ C K, ρ i = some (C, K) ∧ M = some C) :
    Good ρ h w (upd ρ h.nxt (w.heap.size, 0)) (h.new (.mit m since [] last)) (w.alloc (.mapIter M since #[] last)) := by
  refine Good.newBlock hr wf fr _ _ 0 (fun r e => by cases e) ⟨M, ?_, by rw [alloc_at]⟩
  cases m with
  | none => exact hm0 rfl
  | some i => obtain ⟨C, K, a, b⟩ := hm1 _ rfl; exact ⟨C, K, upd_sub fr _ _ a, b⟩

theorem next_ok {P : Program} {ρ : Map} {h h' : Heap} {w : World} (hr : HR ρ h w) (wf : WF h) {x v : AV} {X : Value} {str : Bool} (e : oNext h x str = some (v, h')) (hx : VR ρ x X) (t : TypeId) :
    ∃ z w', (Instr.next X str t).run P w = .ok z w' ∧ Good ρ h w ρ h' w' ∧ VR ρ v z := by
  unfold oNext at e
  split at e
  · rename_i id off
    simp only [VR] at hx
    obtain ⟨B, N, hp, rfl⟩ := hx
    split at e
    · cases e
    · rename_i h0
      obtain rfl : off = 0 := beqT h0
      split at e
      · cases e
      · split at e
        · rename_i m since seen last hit
          obtain ⟨M, hM0, hM1, i1⟩ := hr.iterAt hit hp
          have gi : (getObj B).run P w = .ok (.mapIter M since seen.toArray last) w := by simp [getObj, Sem.run, i1]
          have gs : ∀ o', (setObj B o').run P w = .ok () (w.putObj B o') := fun o' => setObj_ok o' i1 (fun _ _ _ q => by cases q)
          have over : VR ρ (.tup [.bool false]) (.tuple #[.bool false]) := by simp only [VR]; exact ⟨[.bool false], by simp [VRs, VR], rfl⟩
          split at e
          · cases e
            have hM := hM0 rfl
            subst hM
            exact ⟨.tuple #[.bool false], w, by simp [Instr.next, gi], Good.refl hr wf, over⟩
          · rename_i mi
            obtain ⟨C, K, hmi, rfl⟩ := hM1 _ rfl
            split at e
            · rename_i es clock hm
              obtain ⟨ES, m1, m2⟩ := hr.mapAt hm hmi
              have g : (getObj C).run P w = .ok (.map ES clock) w := Go.MapKept.run_getObj_map m1
              split at e
              · cases e
                have hES : ES = #[] := by
                  have := m2.1; simp at this; exact Array.size_eq_zero_iff.1 this.symm
                subst hES
                refine ⟨.tuple #[.bool false], w, ?_, Good.refl hr wf, over⟩
                simp [Instr.next, gi, g, Question.forced]
              · rename_i en rest
                split at e
                · cases e
                · have hE : ∃ E, ES = #[E] := by
                    have := m2.1
                    simp at this
                    exact ⟨ES[0], by
                      apply Array.ext
                      · simp [← this]
                      · intro i a b
                        have : i = 0 := by simp at b; omega
                        subst this; simp⟩
                  obtain ⟨E, rfl⟩ := hE
                  obtain ⟨q1, q2, q3⟩ := m2.2 0 en E rfl rfl
                  obtain ⟨ek, ev, eb⟩ := en
                  simp only at q1 q2 q3
                  subst q3
                  split at e
                  · split at e
                    · rename_i hlt
                      have hlt : E.born + 1 ≤ since := bleT hlt
                      cases e
                      refine ⟨.tuple #[.bool true, E.key, E.val], w.putObj B (.mapIter (some C) since #[E.born] clock), ?_, ?_, ?_⟩
                      · have h1 : E.born < since := by omega
                        have h2 : ¬ since ≤ E.born := by omega
                        simp [Instr.next, gi, g, Question.forced, h1, h2, gs, List.filter_cons]
                      · exact Good.putBlock hr wf hp _ _ _ hit rfl (by simp) rfl ⟨some C, ⟨C, K, hmi, rfl⟩, putObj_at _ (hr.lt _ _ _ hp)⟩
                      · simp only [VR]; exact ⟨[.bool true, E.key, E.val], by simp [VRs, VR]; exact ⟨q1, q2⟩, rfl⟩
                    · cases e
                  · rename_i s more
                    split at e
                    · cases e
                    · split at e
                      · cases e
                      · rename_i hs
                        have hs := beqT hs
                        split at e
                        · rename_i hl
                          have hl : E.born + 1 ≤ last := bleT hl
                          cases e
                          refine ⟨.tuple #[.bool false], w, ?_, Good.refl hr wf, over⟩
                          have h1 : ¬ last ≤ E.born := by omega
                          have h3 : E.born < last := by omega
                          subst hs
                          simp [Instr.next, gi, g, Question.forced, h1, h3, List.filter_cons]
                        · cases e
            · cases e
        · cases e
  · cases e

theorem entry_ok {P : Program} {ρ : Map} {h : Heap} {w : World} (hr : HR ρ h w) {x v : AV} {X : Value} (e : oEntry h x = some v) (hx : VR ρ x X) :
    ∃ z, (Instr.entry X).run P w = .ok z w ∧ VR ρ v z := by
  unfold oEntry at e
  split at e
  · rename_i id off
    simp only [VR] at hx
    obtain ⟨B, N, hp, rfl⟩ := hx
    split at e
    · cases e
    · rename_i h0
      obtain rfl : off = 0 := beqT h0
      split at e
      · rename_i m since seen last hit
        obtain ⟨M, hM0, hM1, i1⟩ := hr.iterAt hit hp
        have gi : (getObj B).run P w = .ok (.mapIter M since seen.toArray last) w := by simp [getObj, Sem.run, i1]
        split at e
        · cases e
        · rename_i mi
          obtain ⟨C, K, hmi, rfl⟩ := hM1 _ rfl
          split at e
          · rename_i es clock hm
            obtain ⟨ES, m1, m2⟩ := hr.mapAt hm hmi
            have g : (getObj C).run P w = .ok (.map ES clock) w := Go.MapKept.run_getObj_map m1
            split at e
            · cases e
            · rename_i hc
              have hc := beqT hc
              subst hc
              split at e
              · rename_i s
                split at e
                · rename_i i hi
                  split at e
                  · rename_i k' v' b' hn
                    cases e
                    rw [nth_eq] at hn
                    obtain ⟨j, p, E, h1, h2, h3, _, h5⟩ := stamp_ok es ES.toList 0 i m2 hi
                    obtain rfl : i = j := by omega
                    rw [h2] at hn; cases hn
                    obtain ⟨q1, q2, q3⟩ := m2.2 i _ _ h2 h3
                    have h5' : ES.find? (fun e => e.born == s) = some E := by rw [← Array.find?_toList]; exact h5
                    refine ⟨.tuple #[E.key, E.val], ?_, by simp only [VR]; exact ⟨[E.key, E.val], by simp [VRs]; exact ⟨q1, q2⟩, rfl⟩⟩
                    simp [Instr.entry, gi, g, h5']
                  · cases e
                · cases e
              · cases e
          · cases e
      · cases e
  · cases e

section
variable {c : Ctx} (k : CtxOk c)
include k

theorem range_ok {ρ : Map} {h h' : Heap} {w : World} (hr : HR ρ h w) (wf : WF h) (fr : ρ h.nxt = none) {t : TypeId} {x v : AV} {X : Value} (e : oRange c h t x = some (v, h')) (hx : VR ρ x X) :
    ∃ z w' ρ', (Instr.range t X).run c.P w = .ok z w' ∧ Good ρ h w ρ' h' w' ∧ VR ρ' v z := by
  unfold oRange at e
  split at e
  · rename_i d hd
    have hu := under_eq k hd
    split at e
    · split at e
      · cases e
        simp only [VR] at hx; subst hx
        exact ⟨.pointer (some ⟨w.heap.size, 0, none⟩), _, _, by simp [Instr.range, run_underlying hu], iter_alloc hr wf fr none none 0 0 (fun _ => rfl) (fun _ q => by cases q), by simp only [VR]; exact ⟨_, _, upd_same _ _ _, rfl⟩⟩
      · rename_i id
        simp only [VR] at hx
        obtain ⟨B, N, hp, rfl⟩ := hx
        split at e
        · rename_i es clock hm
          cases e
          obtain ⟨ES, m1, m2⟩ := hr.mapAt hm hp
          have g : (getObj B).run c.P w = .ok (.map ES clock) w := Go.MapKept.run_getObj_map m1
          exact ⟨.pointer (some ⟨w.heap.size, 0, none⟩), _, _, by simp [Instr.range, run_underlying hu, g], iter_alloc hr wf fr (some id) (some B) clock clock (fun q => by cases q) (fun _ q => by cases q; exact ⟨B, N, hp, rfl⟩), by simp only [VR]; exact ⟨_, _, upd_same _ _ _, rfl⟩⟩
        · cases e
      · cases e
    · cases e
  · cases e

theorem delete_ok {ρ : Map} {h h' : Heap} {w : World} (hr : HR ρ h w) (wf : WF h) {t : TypeId} {x kk : AV} {X K : Value} (e : oDelete c h t x kk = some h') (hx : VR ρ x X) (hk : VR ρ kk K)
    (ts : Array TypeId) (ht : ts[0]? = some t) (ty : TypeId) (rest : List Value) :
    ∃ w', (Builtin.delete_ ts ty (X :: K :: rest).toArray).run c.P w = .ok (.tuple #[]) w' ∧ Good ρ h w ρ h' w' := by
  unfold oDelete at e
  split at e
  · rename_i d hd
    have hu := under_eq k hd
    split at e
    · rename_i kt el
      split at e
      · cases e
      · rename_i hok
        obtain ⟨dk, hdk, pk⟩ := okKey_ok k hok hk
        split at e
        · cases e
          simp only [VR] at hx; subst hx
          exact ⟨w, by simp [Builtin.delete_, ht, run_underlying hu, run_checkKey hdk pk.isKey], Good.refl hr wf⟩
        · rename_i id
          simp only [VR] at hx
          obtain ⟨B, N, hp, rfl⟩ := hx
          split at e
          · rename_i es clock hm
            obtain ⟨ES, m1, m2⟩ := hr.mapAt hm hp
            have g : (getObj B).run c.P w = .ok (.map ES clock) w := Go.MapKept.run_getObj_map m1
            have gs : ∀ o', (setObj B o').run c.P w = .ok () (w.putObj B o') := fun o' => setObj_ok o' m1 (fun _ _ _ q => by cases q)
            split at e
            · rename_i i u hf
              cases e
              rcases findKey_ok hdk pk w m2 hf with ⟨q, _⟩ | ⟨j, u', b', k', E, q1, h2, h3, h4, h5, q, hb⟩
              · cases q
              · cases q1
                refine ⟨_, ?_, putMap_ok hr wf hm hp (clock' := clock) (ES := ES.eraseIdxIfInBounds i) ?_⟩
                · simp [Builtin.delete_, ht, run_underlying hu, g, run_checkKey hdk pk.isKey, h4, gs]
                · rw [Array.toList_eraseIdxIfInBounds]; exact m2.erase i
            · rename_i hf
              cases e
              rcases findKey_ok hdk pk w m2 hf with ⟨_, h2⟩ | ⟨j, u', b', k', E, q1, _⟩
              · have hsame : w.putObj B (.map ES clock) = w := by
                  have hlt := hr.lt _ _ _ hp
                  unfold World.putObj
                  have : w.heap.setIfInBounds B (.map ES clock) = w.heap := by
                    apply Array.ext_getElem?
                    intro j
                    rw [Array.getElem?_setIfInBounds]
                    by_cases hj : B = j
                    · subst hj; rw [if_pos rfl, if_pos hlt, m1]
                    · rw [if_neg hj]
                  rw [this]
                refine ⟨w, ?_, Good.refl hr wf⟩
                simp [Builtin.delete_, ht, run_underlying hu, g, run_checkKey hdk pk.isKey, h2, gs, hsame]
              · cases q1
            · cases e
          · cases e
        · cases e
    · cases e
  · cases e
end
end Go.Ax
