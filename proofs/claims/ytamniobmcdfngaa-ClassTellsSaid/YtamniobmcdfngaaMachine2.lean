/- The abstract machine: regions whose order is drawn: any order comes to the same. -/
import Derived.Test.YtamniobmcdfngaaMachine1
import Derived.Orders
import Derived.ChangeArms
import Derived.Carry
import Derived.OpenShut
import Derived.ChangeOld
set_option linter.unusedSimpArgs false
set_option linter.unusedVariables false
/- The abstract machine: regions whose order is drawn: any order comes to the same. -/
namespace Go.Abs
open Go.RowKit

theorem loadOf_loc {tg : Tg} {isA : Bool} {n : Nat} {ts ts2 : List AV} {h h2 : AHeap} {u v : AV} (hw : tg ≠ .any) (hl : loadOf tg isA n ts h u = some v)
    (h1 : ∀ p, tg = .reg p → tget ts2 p = tget ts p) (h3 : ∀ t, tg = .tag t → AgreeOn t h h2) : loadOf tg isA n ts2 h2 u = some v := by
  unfold loadOf at hl ⊢
  cases u <;> try (simp at hl; done)
  case rp p st off =>
    simp only at hl ⊢
    cases tg with
    | any => exact absurd rfl hw
    | tag t =>
      split at hl
      · simp [tgReg] at hl
      · simp at hl
    | reg q =>
      have hq : q = p := by
        split at hl
        · split at hl
          · rename_i hc; simpa [tgReg] using hc.2
          · simp at hl
        · simp at hl
      subst hq
      rw [h1 q rfl]; exact hl
  case ptr b ver off =>
    simp only at hl ⊢
    cases tg with
    | any => exact absurd rfl hw
    | reg q =>
      split at hl
      · simp [tgOk] at hl
      · simp at hl
    | tag t =>
      split at hl
      · rename_i fz tag cells hrow
        split at hl
        · rename_i hc
          have := tgOk_tag hc
          subst this
          rw [(h3 _ rfl b ver fz cells).1 hrow]
          simp only
          rw [if_pos hc]; exact hl
        · simp at hl
      · simp at hl
  case pp cells => exact hl

theorem slots_aev {o : AOp} {ts ts2 : List AV} (h : ∀ p ∈ slotsR o, tget ts2 p = tget ts p) : ∀ x ∈ opdsA o, aev ts2 x = aev ts x := fun x hx =>
  aev_congr fun p hp => h p (by unfold slotsR; exact List.mem_append_left _ (List.mem_flatMap.2 ⟨x, hx, hp⟩))

theorem memA_loc {mode : FuncId → Mode} {o : AOp} {ts : List AV} {h : AHeap} {v : AV} {ts' : List AV} {h' : AHeap} (hm : isMem o = true) (hw : wild o = false) (h1 : memA o ts h = some (v, ts', h')) :
    ∃ W, ts' = applyW W ts ∧ (∀ x ∈ W, x.1 ∈ slotsW o) ∧ ∀ ts2 h2, (∀ p ∈ slotsR o, tget ts2 p = tget ts p) → Agree (heapR mode o) (heapW mode o) h h2 →
      memA o ts2 h2 = some (v, applyW W ts2, if isNo (heapW mode o) then h2 else h') := by
  by_cases hs : simpleMem o = true
  · have := memA_ts hs h1
    subst this
    refine ⟨[], rfl, fun x hx => by simp at hx, fun ts2 h2 ha hag => ?_⟩
    have hx := slots_aev ha
    have hh : h2 = h := by
      unfold Agree at hag
      cases hW : heapW mode o with
      | tag t => rw [hW] at hag; exact hag
      | all => rw [hW] at hag; exact hag
      | no =>
        rw [hW] at hag
        cases hR : heapR mode o with
        | all => rw [hR] at hag; exact hag
        | no =>
          cases o <;> first | (simp [heapR] at hR; done) | (simp [heapW] at hW; done) | (simp [isMem] at hm; done) | skip
          · rename_i reg _ _; cases reg <;> simp [heapW, isMem] at hW hm
          · rename_i reg _ _; cases reg <;> simp [heapW, isMem] at hW hm
          · rename_i rw _ _ _ _ _; cases rw <;> simp [heapW, isMem] at hW hm
          · simp [simpleMem] at hs
          · simp [simpleMem] at hs
        | tag t =>
          cases o <;> first | (simp [heapR] at hR; done) | (simp [heapW] at hW; done) | (simp [simpleMem] at hs; done) | skip
          rename_i f xs
          simp [isMem] at hm
    subst hh
    rw [memA_slots hs hx, h1]
    simp only [Option.map_some, applyW]
    by_cases hn : isNo (heapW mode o) = true
    · rw [if_pos hn, memA_read hn hm h1]
    · rw [if_neg hn]
  · cases o with
    | load tg a n x =>
      simp only [memA, Option.map_eq_some_iff, Prod.mk.injEq] at h1
      obtain ⟨v1, hl, rfl, rfl, rfl⟩ := h1
      refine ⟨[], rfl, fun x hx => by simp at hx, fun ts2 h2 ha hag => ?_⟩
      have hx := slots_aev ha x (by simp [opdsA])
      have hno : isNo (heapW mode (.load tg a n x)) = true := by simp [heapW, isNo]
      rw [if_pos hno]
      have hne : tg ≠ .any := by intro e; subst e; simp [wild] at hw
      have := loadOf_loc (ts2 := ts2) (h2 := h2) hne hl (fun p hp => by subst hp; exact ha p (by simp [slotsR])) (fun t ht => by
        subst ht
        simpa [Agree, heapW, heapR] using hag)
      simp only [memA, hx, this, Option.map_some, applyW]
    | store tg n x y =>
      cases tg with
      | any => simp [wild] at hw
      | tag t =>
        have hn : isNo (heapW mode (.store (.tag t) n x y)) = false := by simp [heapW, isNo]
        have hts : ts' = ts ∧ ∀ ts2, (∀ z ∈ opdsA (.store (.tag t) n x y), aev ts2 z = aev ts z) → memA (.store (.tag t) n x y) ts2 h = some (v, ts2, h') := by
          simp only [memA] at h1
          split at h1
          · rename_i hc0
            split at h1
            · split at h1
              · split at h1
                · rename_i hc; simp [tgReg] at hc
                · simp at h1
              · simp at h1
            · rename_i b ver off hb
              split at h1
              · rename_i fz tag cells hrow
                split at h1
                · rename_i hc
                  simp only [Option.some.injEq, Prod.mk.injEq] at h1
                  obtain ⟨rfl, rfl, rfl⟩ := h1
                  refine ⟨rfl, fun ts2 hx => ?_⟩
                  have e1 := hx x (by simp [opdsA])
                  have e2 := hx y (by simp [opdsA])
                  simp only [memA, e1, e2]
                  rw [if_pos hc0, hb]
                  simp only
                  rw [hrow]
                  simp only
                  rw [if_pos hc]
                · simp at h1
              · simp at h1
            · simp at h1
          · simp at h1
        obtain ⟨rfl, hts⟩ := hts
        refine ⟨[], rfl, fun x hx => by simp at hx, fun ts2 h2 ha hag => ?_⟩
        have hh : h2 = h := by simpa [Agree, heapW, heapR] using hag
        subst hh
        rw [hts ts2 (slots_aev ha), hn]; rfl
      | reg p =>
        have hn : isNo (heapW mode (.store (.reg p) n x y)) = true := by simp [heapW, isNo]
        simp only [memA] at h1
        split at h1
        · rename_i hc0
          split at h1
          · rename_i q st off hb
            split at h1
            · rename_i st' cells hreg
              split at h1
              · rename_i hc
                simp only [Option.some.injEq, Prod.mk.injEq] at h1
                obtain ⟨rfl, rfl, rfl⟩ := h1
                have hq : p = q := by simpa [tgReg] using hc.2.1
                subst hq
                refine ⟨[(p, .reg st (cells.take off ++ cellsOf (aev ts y) ++ cells.drop (off + n)))], rfl, fun x hx => ?_, fun ts2 h2 ha hag => ?_⟩
                · simp at hx; subst hx; simp [slotsW]
                · have hx := slots_aev ha
                  have e1 := hx x (by simp [opdsA])
                  have e2 := hx y (by simp [opdsA])
                  have e3 := ha p (by simp [slotsR])
                  rw [hn]
                  simp only [memA, e1, e2]
                  rw [if_pos hc0, hb]
                  simp only
                  rw [e3, hreg]
                  simp only
                  rw [if_pos hc]
                  rfl
              · simp at h1
            · simp at h1
          · split at h1
            · split at h1
              · rename_i hc; simp [tgOk] at hc
              · simp at h1
            · simp at h1
          · simp at h1
        · simp at h1
    | _ => simp [simpleMem] at hs

/-- A pure call that is handed nothing of the memory leaves it as it is. -/
def CallPure (C : Machine) (call : CallF) : Prop :=
  ∀ f args h v h', C.mode f = .pure → noRefs args = true → call f args h = some (v, h') → h' = h ∧ ∀ h2, call f args h2 = some (v, h2)

section
variable {C : Machine} {call : CallF} {al : List AOper}

theorem guard_congr {o : AOper} {ts ts2 : List AV} (h : ∀ p ∈ guardSlot al o, tget ts2 p = tget ts p) : wantedA al ts2 o = wantedA al ts o := by
  unfold wantedA
  unfold guardSlot at h
  cases hg : o.guard with
  | none => rfl
  | some q =>
    obtain ⟨j, want⟩ := q
    rw [hg] at h
    simp only at h ⊢
    unfold yieldedA
    cases hd : (al[j]?).bind (·.dst) with
    | none => rfl
    | some d =>
      rw [hd] at h
      simp only
      rw [h d (by simp)]

def putW (d : Option Nat) (v : AV) : List (Nat × AV) := match d with | some x => [(x, v)] | none => []
theorem putA_W (d : Option Nat) (ts : List AV) (v : AV) : putA d ts v = applyW (putW d v) ts := by cases d <;> rfl

/-- What one operation depends on and changes. -/
theorem opA_loc (hp : CallPure C call) {o : AOper} {s s' : St} (hwild : wild o.op = false) (h : opA C true call al o s = some s') :
    ∃ W δ, s'.t = applyW W s.t ∧ s'.c = s.c + δ ∧ (isReg o.op = false → δ = 0) ∧ (∀ x ∈ W, x.1 ∈ puts o) ∧ (isNo (heapW C.mode o.op) = true → s'.h = s.h) ∧ (∀ t, heapW C.mode o.op = .tag t → KeepsBut t s.h s'.h) ∧
      ∀ s2 : St, (∀ p ∈ looks al o, tget s2.t p = tget s.t p) → (isReg o.op = true → s2.c = s.c) → Agree (heapR C.mode o.op) (heapW C.mode o.op) s.h s2.h →
        opA C true call al o s2 = some ⟨applyW W s2.t, if isNo (heapW C.mode o.op) then s2.h else (if wantedA al s.t o then s'.h else s2.h), s2.c + δ⟩ := by
  unfold opA at h
  have hlook : ∀ s2 : St, (∀ p ∈ looks al o, tget s2.t p = tget s.t p) → (∀ p ∈ slotsR o.op, tget s2.t p = tget s.t p) ∧ wantedA al s2.t o = wantedA al s.t o := fun s2 hl =>
    ⟨fun p hp => hl p (List.mem_append_left _ hp), guard_congr fun p hp => hl p (List.mem_append_right _ hp)⟩
  by_cases hw : wantedA al s.t o = true
  · rw [if_pos hw] at h
    split at h
    · rename_i v t' h' ho
      injection h with h
      subst h
      simp only
      have fin : ∀ (W : List (Nat × AV)), t' = applyW W s.t → (∀ x ∈ W, x.1 ∈ slotsW o.op) → (isNo (heapW C.mode o.op) = true → h' = s.h) → (∀ t, heapW C.mode o.op = .tag t → KeepsBut t s.h h') →
          (∀ s2 : St, (∀ p ∈ slotsR o.op, tget s2.t p = tget s.t p) → (isReg o.op = true → s2.c = s.c) → Agree (heapR C.mode o.op) (heapW C.mode o.op) s.h s2.h →
            operA C true call s2.c o.op s2.t s2.h = some (v, applyW W s2.t, if isNo (heapW C.mode o.op) then s2.h else h')) →
          ∃ W δ, putA o.dst t' v = applyW W s.t ∧ nextC o.op s.c = s.c + δ ∧ (isReg o.op = false → δ = 0) ∧ (∀ x ∈ W, x.1 ∈ puts o) ∧ (isNo (heapW C.mode o.op) = true → h' = s.h) ∧ (∀ t, heapW C.mode o.op = .tag t → KeepsBut t s.h h') ∧
            ∀ s2 : St, (∀ p ∈ looks al o, tget s2.t p = tget s.t p) → (isReg o.op = true → s2.c = s.c) → Agree (heapR C.mode o.op) (heapW C.mode o.op) s.h s2.h →
              opA C true call al o s2 = some ⟨applyW W s2.t, if isNo (heapW C.mode o.op) then s2.h else (if wantedA al s.t o then h' else s2.h), s2.c + δ⟩ := by
        intro W e1 e2 e3 e4 e5
        refine ⟨W ++ putW o.dst v, if isReg o.op then 1 else 0, ?_, ?_, ?_, ?_, e3, e4, fun s2 q1 q2 q3 => ?_⟩
        · rw [putA_W, applyW_append, e1]
        · unfold nextC; split <;> rfl
        · intro h; rw [h]; rfl
        · intro x hx
          rcases List.mem_append.1 hx with hx | hx
          · exact List.mem_append_left _ (e2 x hx)
          · refine List.mem_append_right _ ?_
            cases hd : o.dst with
            | none => rw [hd] at hx; simp [putW] at hx
            | some d => rw [hd] at hx; simp [putW] at hx; subst hx; simp
        · obtain ⟨a1, a2⟩ := hlook s2 q1
          unfold opA
          rw [a2, if_pos hw, e5 s2 a1 q2 q3]
          simp only [if_true, hw]
          rw [putA_W, applyW_append]
          congr 2
          unfold nextC; split <;> rfl
      unfold operA at ho
      split at ho
      · rename_i f args hao
        by_cases hcond : ((argsA s.t args).all keeps && (!true || C.mode f == .shared || C.mode f == .fresh || noRefs (argsA s.t args))) = true
        · rw [if_pos hcond] at ho
          simp only [Option.map_eq_some_iff] at ho
          obtain ⟨⟨v', h''⟩, hcl, ho⟩ := ho
          injection ho with e1 ho; injection ho with e2 e3
          subst e1; subst e2; subst e3
          have args2 : ∀ s2 : St, (∀ p ∈ slotsR o.op, tget s2.t p = tget s.t p) → argsA s2.t args = argsA s.t args := fun s2 hl => argsA_congr fun x hx => slots_aev hl x (by rw [hao]; exact hx)
          by_cases hmode : C.mode f = .pure
          · have hno : isNo (heapW C.mode o.op) = true := by rw [hao]; simp [heapW, hmode, isNo]
            have hnr : noRefs (argsA s.t args) = true := by
              simp only [Bool.and_eq_true, Bool.or_eq_true, hmode] at hcond
              simpa using hcond.2
            obtain ⟨p1, p2⟩ := hp f _ _ _ _ hmode hnr hcl
            refine fin [] rfl (fun x hx => by simp at hx) (fun _ => p1) (fun t ht => by rw [hao] at ht; simp [heapW, hmode] at ht) fun s2 q1 q2 q3 => ?_
            rw [hno]
            unfold operA
            rw [hao]
            simp only
            rw [args2 s2 q1, if_pos hcond, p2 s2.h]
            rfl
          · have hmode' : (C.mode f == Mode.pure) = false := by simpa using hmode
            have hall : heapW C.mode o.op = .all := by rw [hao]; simp [heapW, hmode]
            refine fin [] rfl (fun x hx => by simp at hx) (fun h0 => by rw [hall] at h0; simp [isNo] at h0) (fun t ht => by rw [hall] at ht; simp at ht) fun s2 q1 q2 q3 => ?_
            rw [hall] at q3 ⊢
            have hh : s2.h = s.h := by simpa [Agree] using q3
            unfold operA
            rw [hao]
            simp only
            rw [args2 s2 q1, if_pos hcond, hh, hcl]
            rfl
        · rw [if_neg hcond] at ho; simp at ho
      · rename_i x args hao
        rw [hao] at hwild
        simp [wild] at hwild
      · rename_i hn1 hn2
        have noCall : ∀ s2 : St, operA C true call s2.c o.op s2.t s2.h = if isMem o.op then memA o.op s2.t s2.h else (pureA s2.c o.op s2.t).map (·, s2.t, s2.h) := by
          intro s2
          unfold operA
          split
          · rename_i f args hao; exact absurd hao (hn1 f args)
          · rename_i f args hao; exact absurd hao (hn2 f args)
          · rfl
        by_cases hm : isMem o.op = true
        · rw [if_pos hm] at ho
          obtain ⟨W, w1, w2, w3⟩ := memA_loc (mode := C.mode) hm hwild ho
          refine fin W w1 w2 (fun h0 => memA_read h0 hm ho) (fun t ht => memA_keeps ht hm ho) fun s2 q1 q2 q3 => ?_
          rw [noCall s2, if_pos hm]
          exact w3 s2.t s2.h q1 q3
        · rw [if_neg hm] at ho
          simp only [Option.map_eq_some_iff] at ho
          obtain ⟨v', hpu, ho⟩ := ho
          injection ho with e1 ho; injection ho with e2 e3
          subst e1; subst e2; subst e3
          have hno : isNo (heapW C.mode o.op) = true := by
            cases hop : o.op <;> rw [hop] at hm <;> first | rfl | (simp [isMem] at hm; done) | skip
            all_goals first
              | (rename_i reg _ _; cases reg <;> first | rfl | (simp [isMem] at hm; done))
              | (rename_i rw _ _ _ _ _; cases rw <;> first | rfl | (simp [isMem] at hm; done))
              | (rename_i f args; exact absurd hop (hn1 f args))
              | (rename_i f args; exact absurd hop (hn2 f args))
          refine fin [] rfl (fun x hx => by simp at hx) (fun _ => rfl) (fun t ht => by rw [ht] at hno; simp [isNo] at hno) fun s2 q1 q2 q3 => ?_
          rw [noCall s2, if_neg hm, hno, pureA_congr (slots_aev q1) q2, hpu]
          rfl
    · simp at h
  · rw [if_neg hw] at h
    injection h with h
    subst h
    refine ⟨putW o.dst undefA, 0, putA_W _ _ _, rfl, fun _ => rfl, fun x hx => ?_, fun _ => rfl, fun _ _ => fun _ _ _ _ _ _ => Iff.rfl, fun s2 q1 q2 q3 => ?_⟩
    · refine List.mem_append_right _ ?_
      cases hd : o.dst with
      | none => rw [hd] at hx; simp [putW] at hx
      | some d => rw [hd] at hx; simp [putW] at hx; subst hx; simp
    · obtain ⟨a1, a2⟩ := hlook s2 q1
      unfold opA
      rw [a2, if_neg hw]
      simp only [hw, if_false, Bool.false_eq_true, ite_self, Nat.add_zero]
      rw [putA_W]
end
end Go.Abs

/- The abstract machine: regions whose order is drawn: operations that do not touch each other change places; the model's draw. -/
namespace Go.Abs
open Go.RowKit

section
variable {C : Machine} {call : CallF} {al : List AOper}

theorem disj_spec {a b : List Nat} (h : disj a b = true) : ∀ x ∈ a, x ∉ b := by
  intro x hx
  simp only [disj, List.all_eq_true, Bool.not_eq_true', List.contains_eq_mem, decide_eq_false_iff_not] at h
  exact h x hx

theorem opA_comm (hp : CallPure C call) {x y : AOper} (hi : indep C.mode al x y = true) {s s1 s2 : St} (h1 : opA C true call al x s = some s1) (h2 : opA C true call al y s1 = some s2) :
    ∃ s1', opA C true call al y s = some s1' ∧ opA C true call al x s1' = some s2 := by
  simp only [indep, Bool.and_eq_true, Bool.or_eq_true, Bool.not_eq_true', Bool.and_eq_false_iff] at hi
  obtain ⟨⟨⟨⟨⟨⟨⟨wx, wy⟩, d1⟩, d2⟩, d3⟩, hh1⟩, hh2⟩, hr⟩ := hi
  obtain ⟨W1, δ1, t1, c1, r1, p1, n1, k1, f1⟩ := opA_loc hp wx h1
  obtain ⟨W2, δ2, t2, c2, r2, p2, n2, k2, f2⟩ := opA_loc hp wy h2
  have g1 := disj_spec d1
  have g2 := disj_spec d2
  have g3 := disj_spec d3
  have l1 : ∀ p ∈ looks al y, tget s.t p = tget s1.t p := fun p hpl => by
    rw [t1, tget_applyW]
    intro z hz e
    exact g1 z.1 (p1 z hz) (e ▸ hpl)
  have gw1 : wantedA al s1.t y = wantedA al s.t y := guard_congr fun p hpp => (l1 p (List.mem_append_right _ hpp)).symm
  have a1 : Agree (heapR C.mode y.op) (heapW C.mode y.op) s1.h s.h := by
    by_cases hx : isNo (heapW C.mode x.op) = true
    · rw [n1 hx]; exact Agree.refl _ _ _
    · rcases hh1 with hh1 | ⟨hy, hcl⟩
      · exact absurd hh1 hx
      · cases hW : heapW C.mode y.op with
        | tag t => rw [hW] at hy; simp [isNo] at hy
        | all => rw [hW] at hy; simp [isNo] at hy
        | no =>
          cases hR : heapR C.mode y.op with
          | no => trivial
          | all =>
            rw [hR] at hcl
            cases hX : heapW C.mode x.op with
            | no => rw [hX] at hx; simp [isNo] at hx
            | tag t => rw [hX] at hcl; simp [clash] at hcl
            | all => rw [hX] at hcl; simp [clash] at hcl
          | tag u =>
            rw [hR] at hcl
            cases hX : heapW C.mode x.op with
            | no => rw [hX] at hx; simp [isNo] at hx
            | all => rw [hX] at hcl; simp [clash] at hcl
            | tag t =>
              rw [hX] at hcl
              simp [clash] at hcl
              have := k1 t hX u (fun e => hcl e.symm)
              exact fun b ver fz cells => (this b ver fz cells).symm
  have e1 := f2 s l1 (fun hry => by
    have hx : isReg x.op = false := by
      rcases hr with hr | hr
      · exact hr
      · rw [hr] at hry; simp at hry
    rw [c1, r1 hx]; rfl) a1
  refine ⟨_, e1, ?_⟩
  have l2 : ∀ p ∈ looks al x, tget (applyW W2 s.t) p = tget s.t p := fun p hpl => by
    rw [tget_applyW]
    intro z hz e
    exact g2 z.1 (p2 z hz) (e ▸ hpl)
  have a2 : Agree (heapR C.mode x.op) (heapW C.mode x.op) s.h (if isNo (heapW C.mode y.op) then s.h else (if wantedA al s1.t y then s2.h else s.h)) := by
    by_cases hy : isNo (heapW C.mode y.op) = true
    · rw [if_pos hy]; exact Agree.refl _ _ _
    · rw [if_neg hy]
      have hx : isNo (heapW C.mode x.op) = true := by
        rcases hh1 with hh1 | ⟨hy', _⟩
        · exact hh1
        · exact absurd hy' hy
      have hcl : clash (heapW C.mode y.op) (heapR C.mode x.op) = false := by
        rcases hh2 with hh2 | hh2
        · exact absurd hh2 hy
        · exact hh2
      by_cases hwt : wantedA al s1.t y = true
      · rw [if_pos hwt]
        have hs1 := n1 hx
        cases hW : heapW C.mode x.op with
        | tag t => rw [hW] at hx; simp [isNo] at hx
        | all => rw [hW] at hx; simp [isNo] at hx
        | no =>
          cases hR : heapR C.mode x.op with
          | no => trivial
          | all =>
            rw [hR] at hcl
            cases hY : heapW C.mode y.op with
            | no => rw [hY] at hy; simp [isNo] at hy
            | tag t => rw [hY] at hcl; simp [clash] at hcl
            | all => rw [hY] at hcl; simp [clash] at hcl
          | tag u =>
            rw [hR] at hcl
            cases hY : heapW C.mode y.op with
            | no => rw [hY] at hy; simp [isNo] at hy
            | all => rw [hY] at hcl; simp [clash] at hcl
            | tag t =>
              rw [hY] at hcl
              simp [clash] at hcl
              have := k2 t hY u (fun e => hcl e.symm)
              rw [hs1] at this
              exact fun b ver fz cells => this b ver fz cells
      · rw [if_neg hwt]; exact Agree.refl _ _ _
  have e2 := f1 ⟨applyW W2 s.t, if isNo (heapW C.mode y.op) then s.h else (if wantedA al s1.t y then s2.h else s.h), s.c + δ2⟩ l2 (fun hrx => by
    have hy : isReg y.op = false := by
      rcases hr with hr | hr
      · rw [hr] at hrx; simp at hrx
      · exact hr
    show s.c + δ2 = s.c
    rw [r2 hy]; rfl) a2
  rw [e2]
  congr 1
  have ht : applyW W1 (applyW W2 s.t) = s2.t := by
    rw [t2, t1]
    exact applyW_comm W1 W2 (fun a ha b hb e => g3 a.1 (p1 a ha) (e ▸ p2 b hb)) s.t
  have hc : s.c + δ2 + δ1 = s2.c := by rw [c2, c1]; omega
  have hskip : ∀ {z : AOper} {u u' : St}, opA C true call al z u = some u' → wantedA al u.t z = false → u'.h = u.h := by
    intro z u u' hz hzw
    unfold opA at hz
    rw [hzw] at hz
    simp only [Bool.false_eq_true, if_false, Option.some.injEq] at hz
    rw [← hz]
  have hheap : (if isNo (heapW C.mode x.op) then (if isNo (heapW C.mode y.op) then s.h else (if wantedA al s1.t y then s2.h else s.h)) else (if wantedA al s.t x then s1.h else (if isNo (heapW C.mode y.op) then s.h else (if wantedA al s1.t y then s2.h else s.h)))) = s2.h := by
    by_cases hx : isNo (heapW C.mode x.op) = true
    · rw [if_pos hx]
      have hs1 := n1 hx
      by_cases hy : isNo (heapW C.mode y.op) = true
      · rw [if_pos hy, n2 hy, hs1]
      · rw [if_neg hy]
        by_cases hwt : wantedA al s1.t y = true
        · rw [if_pos hwt]
        · rw [if_neg hwt, hskip h2 (by simpa using hwt), hs1]
    · rw [if_neg hx]
      have hy : isNo (heapW C.mode y.op) = true := by
        rcases hh1 with hh1 | ⟨hy', _⟩
        · exact absurd hh1 hx
        · exact hy'
      rw [if_pos hy]
      by_cases hwt : wantedA al s.t x = true
      · rw [if_pos hwt, n2 hy]
      · rw [if_neg hwt, n2 hy, hskip h1 (by simpa using hwt)]
  cases s2
  simp only [St.mk.injEq]
  exact ⟨ht, hheap, hc⟩

theorem opsA_move (hp : CallPure C call) {x : AOper} : ∀ (L1 L2 : List AOper) (s s' : St), (∀ z ∈ L1, indep C.mode al z x = true) → opsA C true call al (L1 ++ x :: L2) s = some s' →
    ∃ s1, opA C true call al x s = some s1 ∧ opsA C true call al (L1 ++ L2) s1 = some s'
  | [], L2, s, s', _, h => by
    simp only [List.nil_append, opsA] at h ⊢
    split at h
    · rename_i s1 h1; exact ⟨s1, h1, h⟩
    · simp at h
  | z :: L1, L2, s, s', hi, h => by
    simp only [List.cons_append, opsA] at h
    split at h
    · rename_i sz hz
      obtain ⟨s1', h1, h2⟩ := opsA_move hp L1 L2 sz s' (fun w hw => hi w (List.mem_cons_of_mem _ hw)) h
      obtain ⟨sx, q1, q2⟩ := opA_comm hp (hi z (List.mem_cons_self ..)) hz h1
      refine ⟨sx, q1, ?_⟩
      simp only [List.cons_append, opsA, q2]
      exact h2
    · simp at h
end

/-! ### what must have come before -/
def AncOk (ops : List Oper) (A : List Nat) : Prop :=
  ∀ (i : Nat) (o : Oper), ops[i]? = some o → ∀ j, (A.getD i 0).testBit j = true → j ∈ edgesOf o ∨ ∃ e ∈ edgesOf o, (A.getD e 0).testBit j = true

theorem anc1_mem {acc : List Nat} {j : Nat} : ∀ {es : List Nat}, (anc1 acc es).testBit j = true → j ∈ es ∨ ∃ e ∈ es, (acc.getD e 0).testBit j = true
  | [], h => by simp [anc1] at h
  | e :: es, h => by
    simp only [anc1, Nat.testBit_or, Bool.or_eq_true] at h
    rcases h with (h | h) | h
    · rw [Nat.testBit_two_pow] at h
      have : e = j := by simpa using h
      exact .inl (by rw [this]; exact List.mem_cons_self ..)
    · exact .inr ⟨e, List.mem_cons_self .., h⟩
    · rcases anc1_mem h with h | ⟨x, hx, h⟩
      · exact .inl (List.mem_cons_of_mem _ h)
      · exact .inr ⟨x, List.mem_cons_of_mem _ hx, h⟩

theorem ancsOf_prefix : ∀ (r : List Oper) (acc : List Nat) (i : Nat) (l : Nat), acc[i]? = some l → (ancsOf r acc)[i]? = some l
  | [], _, _, _, h => h
  | o :: r, acc, i, l, h => by
    simp only [ancsOf]
    refine ancsOf_prefix r _ i l ?_
    rw [List.getElem?_append_left (List.getElem?_eq_some_iff.1 h).1]; exact h

theorem ancsOf_ok : ∀ (r done : List Oper) (acc : List Nat), acc.length = done.length → chkEdges r done.length = true → ∀ (i : Nat) (o : Oper), r[i]? = some o →
    ∀ j, ((ancsOf r acc).getD (done.length + i) 0).testBit j = true → j ∈ edgesOf o ∨ ∃ e ∈ edgesOf o, ((ancsOf r acc).getD e 0).testBit j = true
  | [], _, _, _, _, i, o, h => by simp at h
  | o0 :: r, done, acc, hl, hc, i, o, h => by
    simp only [chkEdges, Bool.and_eq_true, List.all_eq_true, decide_eq_true_eq] at hc
    cases i with
    | zero =>
      simp at h; subst h
      intro j hj
      simp only [ancsOf, Nat.add_zero] at hj ⊢
      have key : (acc ++ [anc1 acc (edgesOf o0)])[done.length]? = some (anc1 acc (edgesOf o0)) := by
        rw [← hl]; simp
      rw [List.getD_eq_getElem?_getD, ancsOf_prefix _ _ _ _ key, Option.getD_some] at hj
      rcases anc1_mem hj with hj | ⟨e, he, hj⟩
      · exact .inl hj
      · refine .inr ⟨e, he, ?_⟩
        have hlt : e < acc.length := by rw [hl]; exact hc.1 e he
        have h1 : acc[e]? = some acc[e] := List.getElem?_eq_getElem hlt
        have h2 : (acc ++ [anc1 acc (edgesOf o0)])[e]? = some acc[e] := by rw [List.getElem?_append_left hlt]; exact h1
        rw [List.getD_eq_getElem?_getD, ancsOf_prefix _ _ _ _ h2]
        rw [List.getD_eq_getElem?_getD, h1] at hj
        exact hj
    | succ i =>
      have := ancsOf_ok r (done ++ [o0]) (acc ++ [anc1 acc (edgesOf o0)]) (by simp [hl]) (by simpa using hc.2) i o (by simpa using h)
      simp only [List.length_append, List.length_cons, List.length_nil, Nat.zero_add] at this
      rw [show done.length + (i + 1) = done.length + 1 + i by omega]
      exact this

theorem anc_listed {ops : List Oper} {A : List Nat} (hA : AncOk ops A) {L : Nat → Prop} (hdown : ∀ i o, L i → ops[i]? = some o → ∀ e ∈ edgesOf o, L e) (hedge : ∀ i o, ops[i]? = some o → ∀ e ∈ edgesOf o, e < i) :
    ∀ (i : Nat) (o : Oper), ops[i]? = some o → (∀ e ∈ edgesOf o, L e) → ∀ j, (A.getD i 0).testBit j = true → L j := by
  intro i
  induction i using Nat.strongRecOn with
  | _ i ih =>
    intro o ho hr j hj
    rcases hA i o ho j hj with hj | ⟨e, he, hj⟩
    · exact hr j hj
    · have hlt := hedge i o ho e he
      cases hoe : ops[e]? with
      | none =>
        have h1 := (List.getElem?_eq_some_iff.1 ho).1
        have := List.getElem?_eq_none_iff.1 hoe
        omega
      | some oe => exact ih e hlt oe hoe (hdown e oe (hr e he) hoe) j hj

theorem chkPairs_spec {mode : FuncId → Mode} {al : List AOper} {A : List Nat} : ∀ (r : List AOper) (i : Nat), al.drop i = r → chkPairs mode al r A i = true →
    ∀ m y, i ≤ m → al[m]? = some y → ∀ j, j < m → (A.getD m 0).testBit j = true ∨ ∃ x, al[j]? = some x ∧ indep mode al x y = true
  | [], i, hd, _, m, y, him, hy, _, _ => by
    have h1 := (List.getElem?_eq_some_iff.1 hy).1
    have := List.drop_eq_nil_iff.1 hd
    omega
  | z :: r, i, hd, h, m, y, him, hy, j, hj => by
    simp only [chkPairs, Bool.and_eq_true, List.all_eq_true, List.mem_range, Bool.or_eq_true] at h
    by_cases him' : i = m
    · subst him'
      have hz : z = y := by
        have : (al.drop i)[0]? = some z := by rw [hd]; rfl
        rw [List.getElem?_drop, Nat.add_zero, hy] at this
        exact (Option.some.inj this).symm
      subst hz
      rcases h.1 j hj with h1 | h1
      · exact .inl h1
      · right
        cases hx : al[j]? with
        | none => rw [hx] at h1; simp at h1
        | some x => rw [hx] at h1; exact ⟨x, rfl, h1⟩
    · refine chkPairs_spec r (i + 1) ?_ h.2 m y (by omega) hy j hj
      have h1 : al.drop (i + 1) = (al.drop i).drop 1 := by rw [List.drop_drop]
      rw [h1, hd]; rfl

theorem chkEdges_spec : ∀ (r : List Oper) (i : Nat), chkEdges r i = true → ∀ m o, r[m]? = some o → ∀ e ∈ edgesOf o, e < i + m
  | [], _, _, _, _, h => by simp at h
  | o0 :: r, i, h, m, o, hm => by
    simp only [chkEdges, Bool.and_eq_true, List.all_eq_true, decide_eq_true_eq] at h
    cases m with
    | zero => simp at hm; subst hm; simpa using h.1
    | succ m =>
      intro e he
      have := chkEdges_spec r (i + 1) h.2 m o (by simpa using hm) e he
      omega

theorem mem_edges {o : Oper} {e : Nat} : e ∈ edgesOf o ↔ ∃ d ∈ o.after, Region.binds .any d = true ∧ d.on = e := by
  unfold edgesOf
  rw [List.mem_map]
  constructor
  · rintro ⟨d, hd, rfl⟩
    rw [List.mem_filter] at hd
    exact ⟨d, by simpa using hd.1, hd.2, rfl⟩
  · rintro ⟨d, h1, h2, rfl⟩
    exact ⟨d, List.mem_filter.2 ⟨by simpa using h1, h2⟩, rfl⟩

/-- The operations that are left, in the text's order. -/
def left (n : Nat) (listed : Array Bool) : List Nat := (List.range n).filter fun i => !listed.getD i true

theorem left_split {n i : Nat} {listed : Array Bool} (hi : i < n) (hl : listed.getD i true = false) (hsz : listed.size = n) :
    ∃ L1 L2, left n listed = L1 ++ i :: L2 ∧ left n (listed.setIfInBounds i true) = L1 ++ L2 ∧ ∀ j ∈ L1, j < i ∧ listed.getD j true = false := by
  have hr : List.range n = List.range i ++ i :: (List.range' (i + 1) (n - i - 1)) := by
    obtain ⟨m, hm⟩ : ∃ m, n - i = m + 1 := ⟨n - i - 1, by omega⟩
    have h1 : List.range n = List.range' 0 (i + (n - i)) := by rw [List.range_eq_range']; congr 1; omega
    have h2 : List.range' 0 i ++ List.range' (0 + i) (n - i) = List.range' 0 (i + (n - i)) := by first | exact List.range'_append_1 | exact List.range'_append_1 _ _ _ | simp
    rw [h1, ← h2, List.range_eq_range', Nat.zero_add, hm, List.range'_succ]
    rfl
  refine ⟨(List.range i).filter fun j => !listed.getD j true, (List.range' (i + 1) (n - i - 1)).filter fun j => !listed.getD j true, ?_, ?_, fun j hj => ?_⟩
  · unfold left
    rw [hr, List.filter_append, List.filter_cons_of_pos (by simp [hl])]
  · unfold left
    rw [hr, List.filter_append, List.filter_cons_of_neg]
    · congr 1
      · refine List.filter_congr fun j hj => ?_
        have : j < i := List.mem_range.1 hj
        rw [Go.getD_set_ne true (by omega)]
      · refine List.filter_congr fun j hj => ?_
        have := List.mem_range'_1.1 hj
        rw [Go.getD_set_ne true (by omega)]
    · have : (listed.setIfInBounds i true).getD i true = true := by simp [hsz, hi]
      simp [this]
  · rw [List.mem_filter] at hj
    exact ⟨List.mem_range.1 hj.1, by simpa using hj.2⟩
end Go.Abs

/- The abstract machine: the model's draw of a region's order; the machine's runs are true. -/
namespace Go.Abs
open Go.RowKit

theorem mapM_congr' {α β : Type} {f g : α → Option β} : ∀ {l : List α}, (∀ x ∈ l, f x = g x) → l.mapM f = l.mapM g
  | [], _ => rfl
  | x :: l, h => by
    simp only [List.mapM_cons]
    rw [h x (List.mem_cons_self ..), mapM_congr' fun y hy => h y (List.mem_cons_of_mem _ hy)]

theorem res_noRef (h h2 : AHeap) : ∀ (n : Nat) (v : AV), noRef v = true → res n h v = res n h2 v := by
  intro n
  induction n with
  | zero => intro v _; rfl
  | succ n ih =>
    intro v hv
    have list : ∀ cs, noRefs cs = true → cs.mapM (res n h) = cs.mapM (res n h2) := fun cs hcs => mapM_congr' fun x hx => ih x ((noRefs_iff _).1 hcs x hx)
    cases v <;> simp only [noRef] at hv <;> first | rfl | (simp at hv; done) | skip
    all_goals simp only [res]
    all_goals first
      | rw [list _ hv]
      | rw [ih _ hv]

theorem foldl_same {α β : Type} {f : α → β → α} : ∀ (l : List β) (a : α), (∀ x ∈ l, f a x = a) → l.foldl f a = a
  | [], _, _ => rfl
  | x :: l, a, h => by
    simp only [List.foldl_cons]
    rw [h x (List.mem_cons_self ..)]
    exact foldl_same l a fun y hy => h y (List.mem_cons_of_mem _ hy)

theorem frz_noRef (h : AHeap) : ∀ (n : Nat) (v : AV), noRef v = true → frz n h v = h := by
  intro n
  induction n with
  | zero => intro v _; rfl
  | succ n ih =>
    intro v hv
    have list : ∀ cs, noRefs cs = true → cs.foldl (frz n) h = h := fun cs hcs => foldl_same cs h fun x hx => ih x ((noRefs_iff _).1 hcs x hx)
    cases v <;> simp only [noRef] at hv <;> first | rfl | (simp at hv; done) | skip
    all_goals simp only [frz]
    all_goals first
      | exact list _ hv
      | exact ih _ hv

theorem callPure {C : Machine} {raw : CallF} : CallPure C (callOf C raw) := by
  intro f args h v h' hm hn hc
  have e1 : ∀ h2, argsR h args = argsR h2 args := fun h2 => congrArg (Option.map norms) (mapM_congr' fun x hx => res_noRef h h2 depth x ((noRefs_iff _).1 hn x hx))
  have e2 : ∀ h2, args.foldl (frz depth) h2 = h2 := fun h2 => foldl_same args h2 fun x hx => frz_noRef h2 depth x ((noRefs_iff _).1 hn x hx)
  have key : ∀ h2, callOf C raw f args h2 = (callOf C raw f args h).map fun r => (r.1, h2) := by
    intro h2
    unfold callOf
    cases C.prim f with
    | some g =>
      simp only
      rw [e1 h2, e2, e2]
      cases (argsR h2 args).bind g <;> rfl
    | none =>
      simp only [hm]
      rw [e1 h2, e2, e2]
      cases ((argsR h2 args).bind fun as => raw f as []).bind purify <;> rfl
  have h1 := key h
  rw [hc] at h1
  simp only [Option.map_some, Option.some.injEq, Prod.mk.injEq, true_and] at h1
  refine ⟨h1, fun h2 => ?_⟩
  rw [key h2, hc]; rfl

theorem ready_left {ops : Array Oper} {listed : Array Bool} (hsz : listed.size = ops.size) (he : ∀ (i : Nat) (o : Oper), ops.toList[i]? = some o → ∀ e ∈ edgesOf o, e < i) (hr : Region.ready .any ops listed = []) : left ops.size listed = [] := by
  have all : ∀ i, i < ops.size → listed.getD i false = true := by
    intro i
    induction i using Nat.strongRecOn with
    | _ i ih =>
      intro hi
      cases hl : listed.getD i true with
      | true =>
        have : i < listed.size := by omega
        simpa [Array.getD_eq_getD_getElem?, this] using hl
      | false =>
        exfalso
        have : i ∈ Region.ready .any ops listed := by
          rw [Go.mem_ready]
          refine ⟨hl, ops[i], by simp [hi], fun d hd hb => ?_⟩
          have hlt := he i ops[i] (by simp [hi]) d.on (mem_edges.2 ⟨d, hd, hb, rfl⟩)
          exact ih d.on hlt (by omega)
        rw [hr] at this
        simp at this
  unfold left
  rw [List.filter_eq_nil_iff]
  intro i hi
  have h1 := all i (List.mem_range.1 hi)
  have hlt : i < listed.size := by rw [hsz]; exact List.mem_range.1 hi
  have : listed.getD i true = true := by simpa [Array.getD_eq_getD_getElem?, hlt] using h1
  simp [this]

theorem range_get (al : List AOper) : ∀ (m j : Nat), j + m = al.length → (List.range' j m).filterMap (al[·]?) = al.drop j
  | 0, j, h => by
    rw [List.drop_eq_nil_of_le (by omega)]; rfl
  | m + 1, j, h => by
    have hj : j < al.length := by omega
    rw [List.range'_succ, List.filterMap_cons_some (List.getElem?_eq_getElem hj), range_get al m (j + 1) (by omega), List.drop_eq_getElem_cons hj]

section
variable {P : Program}

theorem draw_ok {C : Machine} {call : CallF} (hcall : CallOk P call) (hp : CallPure C call) : DrawOk P C call := by
  intro Γ k0 k a nt id ops al s' Q hA hcs hdr h hK
  simp only [chkDraw, Bool.and_eq_true] at hdr
  obtain ⟨⟨hmix, hedges⟩, hpairs⟩ := hdr
  obtain ⟨hl, hg⟩ := chkOpers_get hcs
  have hedge : ∀ (i : Nat) (o : Oper), ops.toList[i]? = some o → ∀ e ∈ edgesOf o, e < i := fun i o ho e he => by
    have := chkEdges_spec ops.toList 0 hedges i o ho e he
    omega
  have hanc : AncOk ops.toList (ancsOf ops.toList []) := fun i o ho => by
    have := ancsOf_ok ops.toList [] [] rfl hedges i o ho
    simpa using this
  have hpair := chkPairs_spec al 0 rfl hpairs
  have main : ∀ (fuel : Nat) (listed : Array Bool) (k : Kf) (a : Act), listed.size = ops.size → (left ops.size listed).length ≤ fuel →
      (∀ (i : Nat) (o : Oper), listed.getD i false = true → ops.toList[i]? = some o → ∀ e ∈ edgesOf o, listed.getD e false = true) → At Γ k0 k a nt →
      opsA C true call al ((left ops.size listed).filterMap (al[·]?)) k.s = some s' → wpAny P .any ops Q fuel listed a k.w := by
    intro fuel
    induction fuel with
    | zero =>
      intro listed k a hsz hfu hdown hA h
      have hnil : left ops.size listed = [] := List.eq_nil_of_length_eq_zero (by omega)
      rw [hnil] at h
      simp only [List.filterMap_nil, opsA, Option.some.injEq] at h
      refine ⟨?_, hK a k h hA⟩
      rw [List.eq_nil_iff_forall_not_mem]
      intro i hi
      have hi' := Go.mem_ready.1 hi
      obtain ⟨h1, o, ho, _⟩ := hi'
      have hlt : i < ops.size := (Array.getElem?_eq_some_iff.1 ho).1
      have : i ∈ left ops.size listed := List.mem_filter.2 ⟨List.mem_range.2 hlt, by simp [h1]⟩
      rw [hnil] at this
      simp at this
    | succ fuel ih =>
      intro listed k a hsz hfu hdown hA h
      refine ⟨fun hr => ?_, fun i hi => ?_⟩
      · have hnil := ready_left hsz hedge hr
        rw [hnil] at h
        simp only [List.filterMap_nil, opsA, Option.some.injEq] at h
        exact hK a k h hA
      · obtain ⟨h1, o, ho, hall⟩ := Go.mem_ready.1 hi
        have hlt : i < ops.size := (Array.getElem?_eq_some_iff.1 ho).1
        obtain ⟨ao, hao, hc⟩ := hg i o (by simpa using ho)
        obtain ⟨L1, L2, e1, e2, e3⟩ := left_split hlt h1 hsz
        have hready : ∀ e ∈ edgesOf o, listed.getD e false = true := fun e he => by
          obtain ⟨d, hd, hb, rfl⟩ := mem_edges.1 he
          exact hall d hd hb
        have hancs := anc_listed hanc (L := fun e => listed.getD e false = true) hdown hedge i o (by simpa using ho) hready
        have hind : ∀ z ∈ L1.filterMap (al[·]?), indep C.mode al z ao = true := by
          intro z hz
          obtain ⟨j, hj, hjz⟩ := List.mem_filterMap.1 hz
          obtain ⟨hji, hjl⟩ := e3 j hj
          rcases hpair i ao (Nat.zero_le _) hao j hji with hin | ⟨x, hx, hxi⟩
          · have := hancs j hin
            have hjs : j < listed.size := by omega
            simp [Array.getD_eq_getD_getElem?, hjs] at this hjl
            rw [this] at hjl
            simp at hjl
          · rw [hjz] at hx
            injection hx with hx
            subst hx; exact hxi
        rw [e1, List.filterMap_append, List.filterMap_cons_some hao] at h
        obtain ⟨s1, q1, q2⟩ := opsA_move hp _ _ k.s s' hind h
        rw [← List.filterMap_append, ← e2] at q2
        unfold wpOp
        rw [ho]
        refine op_wp hA hcs hc hcall q1 fun a' k' e hA' => ?_
        refine ih (listed.setIfInBounds i true) k' a' (by simpa using hsz) ?_ ?_ hA' (by rw [e]; exact q2)
        · have hlen := congrArg List.length e1
          rw [e2]
          simp only [List.length_append, List.length_cons] at hlen ⊢
          omega
        · intro j oj hj hoj e he
          by_cases hij : i = j
          · subst hij
            have : oj = o := by
              have h2 : ops.toList[i]? = some o := by simpa using ho
              rw [h2] at hoj; exact (Option.some.inj hoj).symm
            subst this
            exact Go.getD_set_true (hready e he)
          · rw [Go.getD_set_ne false hij] at hj
            exact Go.getD_set_true (hdown j oj hj hoj e he)
  have hleft : left ops.size (Array.replicate ops.size false) = List.range ops.size := by
    unfold left
    rw [List.filter_eq_self]
    intro j hj
    have := List.mem_range.1 hj
    simp [Array.getD_eq_getD_getElem?, this]
  have hfm : (List.range ops.size).filterMap (al[·]?) = al := by
    have : ops.size = al.length := by rw [hl]; simp
    rw [this, List.range_eq_range']
    have := range_get al al.length 0 (by omega)
    simpa using this
  refine wp_region_any hmix ?_
  refine main ops.size (Array.replicate ops.size false) { k with w := { k.w with drawn := k.w.drawn + 1 } } a (by simp) (by rw [hleft]; simp) ?_ ?_ ?_
  · intro i o hi
    exfalso
    simp [Array.getD_eq_getD_getElem?, Array.getElem?_replicate] at hi
    split at hi <;> simp at hi
  · have hb := below_drew' k.w
    exact ⟨hA.inv.ext _ hb, hA.tr.ext _ hb hA.inv.size hA.inv.outer, hA.grow.trans (Grow.ext k _ hb hA.inv.size hA.inv.outer), hA.size, hA.defers⟩
  · rw [hleft, hfm]; exact h

/-- **The machine's runs are true.** -/
theorem runs_ok {C : Machine} (hC : COk P C) (n : Nat) : RawOk P (runA C n) :=
  runA_ok hC (fun _ hraw => draw_ok (call_ok hC hraw) callPure) n
end
end Go.Abs

/- The abstract machine: what a law is handed, as trees. -/
namespace Go.Abs
open Go.RowKit

section
variable (P : Program)

/-- The fields of a struct lie one behind the other. -/
def tiles : List Field → Nat → Option Nat
  | [], n => some n
  | f :: fs, n => if f.offset = n then tiles fs (n + P.cellsOf f.type) else none

/-- Types whose values a law may be handed: their parts are among them, too. -/
def plainIn (S : List TypeId) (t : TypeId) : Bool :=
  match P.underlying t with
  | some .bool | some (.int _) | some .string => P.cellsOf t == 1
  | some (.pointer e) | some (.slice e) => S.contains e && P.cellsOf t == 1
  | some (.struct fs) => fs.toList.all (fun f => S.contains f.type) && tiles P fs.toList 0 == some (P.cellsOf t)
  | some (.array n e) => S.contains e && P.cellsOf t == n * P.cellsOf e
  | _ => false

mutual
/-- Cells of a type. -/
def Has : Nat → TypeId → List AV → Prop
  | 0, _, _ => False
  | n + 1, t, xs =>
    match P.underlying t with
    | some .bool => ∃ b, xs = [.bool b]
    | some (.int k) => ∃ m, xs = [.int k m] ∧ (Lit.int k m).wf = true
    | some .string => ∃ l : List UInt8, xs = [.str l] ∧ l.length ≤ maxLen
    | some (.pointer e) => xs = [.nilp] ∨ ∃ ys, xs = [.pp ys] ∧ Has n e ys ∧ ys.length = P.cellsOf e
    | some (.slice e) => ∃ rows : List (List AV), xs = [.ps rows.flatten rows.length none] ∧ rows.length ≤ maxLen ∧ ∀ r ∈ rows, Has n e r ∧ r.length = P.cellsOf e
    | some (.struct fs) => HasF n fs.toList xs
    | some (.array m e) => ∃ rows : List (List AV), xs = rows.flatten ∧ rows.length = m ∧ ∀ r ∈ rows, Has n e r ∧ r.length = P.cellsOf e
    | _ => False
termination_by n _ _ => (n, 0)
def HasF : Nat → List Field → List AV → Prop
  | _, [], xs => xs = []
  | n, f :: fs, xs => ∃ a b, xs = a ++ b ∧ Has n f.type a ∧ a.length = P.cellsOf f.type ∧ HasF n fs b
termination_by n fs _ => (n, fs.length + 1)
end
end

def PRs (w : World) (I : Cells) (xs : List AV) (cs : List Value) : Prop := cs.length = xs.length ∧ ∀ j, j < xs.length → PR w I (xs.getD j undefA) (cs.getD j undef)

section
variable {w : World} {I : Cells}
theorem PRs.nil : PRs w I [] [] := ⟨rfl, fun j hj => by simp at hj⟩
theorem PRs.one {v : AV} {c : Value} (h : PR w I v c) : PRs w I [v] [c] := ⟨rfl, fun j hj => by
  have : j = 0 := by simpa using hj
  subst this; exact h⟩
theorem PRs.append {xs ys : List AV} {cs ds : List Value} (h : PRs w I xs cs) (h' : PRs w I ys ds) : PRs w I (xs ++ ys) (cs ++ ds) := by
  refine ⟨by simp [h.1, h'.1], fun j hj => ?_⟩
  simp only [List.getD_eq_getElem?_getD, List.getElem?_append, h.1]
  by_cases hl : j < xs.length
  · simp only [hl, if_true]
    have := h.2 j hl
    simpa [List.getD_eq_getElem?_getD] using this
  · simp only [hl, if_false]
    have := h'.2 (j - xs.length) (by simp at hj; omega)
    simpa [List.getD_eq_getElem?_getD] using this
theorem PRs.flatten : ∀ {rows : List (List AV)} {crows : List (List Value)}, crows.length = rows.length → (∀ i, i < rows.length → PRs w I (rows.getD i []) (crows.getD i [])) → PRs w I rows.flatten crows.flatten
  | [], [], _, _ => PRs.nil
  | [], _ :: _, h, _ => by simp at h
  | _ :: _, [], h, _ => by simp at h
  | r :: rows, c :: crows, h, hr => by
    simp only [List.flatten_cons]
    exact PRs.append (by simpa using hr 0 (by simp)) (PRs.flatten (by simpa using h) fun i hi => by simpa using hr (i + 1) (by simpa using hi))

theorem choose_list {α : Type} (Q : Nat → α → Prop) (d : α) : ∀ n : Nat, (∀ i, i < n → ∃ r, Q i r) → ∃ rows : List α, rows.length = n ∧ ∀ i, i < n → Q i (rows.getD i d)
  | 0, _ => ⟨[], rfl, fun i hi => by omega⟩
  | n + 1, h => by
    obtain ⟨rows, h1, h2⟩ := choose_list Q d n fun i hi => h i (by omega)
    obtain ⟨r, hr⟩ := h n (by omega)
    refine ⟨rows ++ [r], by simp [h1], fun i hi => ?_⟩
    by_cases hl : i < n
    · have := h2 i hl
      simpa [List.getD_eq_getElem?_getD, List.getElem?_append, h1, hl] using this
    · have : i = n := by omega
      subst this
      simpa [List.getD_eq_getElem?_getD, List.getElem?_append, h1] using hr

theorem chunks {α : Type} (sz : Nat) : ∀ (n : Nat) (cs : List α), cs.length = n * sz → ((List.range n).map fun i => (cs.drop (i * sz)).take sz).flatten = cs
  | 0, cs, h => by
    have : cs = [] := List.eq_nil_of_length_eq_zero (by simpa using h)
    subst this; rfl
  | n + 1, cs, h => by
    rw [List.range_succ_eq_map, List.map_cons, List.flatten_cons, List.map_map]
    have h1 : ((fun i => (cs.drop (i * sz)).take sz) ∘ Nat.succ) = fun i => ((cs.drop sz).drop (i * sz)).take sz := by
      funext i
      simp only [Function.comp, List.drop_drop, Nat.succ_eq_add_one, Nat.add_mul, Nat.one_mul]
      congr 2; omega
    rw [h1, chunks sz n (cs.drop sz) (by simp [h, Nat.add_mul])]
    simp

theorem cell_add {a : Addr} {m q : Nat} {v : Value} (h : w.cell? ((a.add m).add q) = some v) : w.cell? ⟨a.block, a.off + m + q, none⟩ = some v ∧ (m = 0 → q = 0 → a.spot = none) := by
  have hspot : ∀ {b : Addr}, w.cell? b = some v → b.spot = none := by
    intro b hb
    unfold World.cell? at hb
    split at hb
    · split at hb
      · simp at hb
      · rename_i hs; simpa using hs
    · simp at hb
  have h2 := hspot h
  have e : (a.add m).add q = ⟨a.block, a.off + m + q, none⟩ := by
    unfold Addr.add at h2 ⊢
    by_cases hm : m = 0 <;> by_cases hq : q = 0 <;> simp [hm, hq] at h2 ⊢
    cases a; simp at h2; simp [h2]
  refine ⟨by rw [← e]; exact h, fun hm hq => ?_⟩
  subst hm; subst hq
  simpa [Addr.add] using h2

theorem cells_get {base : Nat} {a : Addr} {n : Nat} {l : List Value} (h : w.cells? base a n = some l) : l.length = n ∧ ∀ q, q < n → w.cell? (a.add q) = some (l.getD q undef) := by
  unfold World.cells? at h
  split at h
  · have hl : l.length = n := by have := mapM_some_length h; simpa using this
    refine ⟨hl, fun q hq => ?_⟩
    have := mapM_some_get h q q (by simp [hq])
    rw [this, List.getD_eq_getElem?_getD, List.getElem?_eq_getElem (by omega)]
    rfl
  · simp at h

theorem cell_lt {a : Addr} {v : Value} (h : w.cell? a = some v) : a.block < w.heap.size := cell?_lt h
end

section
variable {P : Program} {H : Type} {enc : TypeId × Value → H} {w : World} {spare : Nat → Bool}

theorem fields_has (S : List TypeId) (n : Nat) (cs : List Value)
    (ih : ∀ t cs x, t ∈ S → DataW.trod enc P w 0 spare true n t cs = some x → ∃ xs, Has P n t xs ∧ PRs w (fun g _ => g < w.heap.size) xs cs ∧ xs.length = P.cellsOf t) :
    ∀ (fs : List Field) (off : Nat), (∀ f ∈ fs, f.type ∈ S) → tiles P fs off = some cs.length → (∀ f ∈ fs, ∃ x, DataW.trod enc P w 0 spare true n f.type ((cs.drop f.offset).take (P.cellsOf f.type)) = some x) →
      ∃ xs, HasF P n fs xs ∧ PRs w (fun g _ => g < w.heap.size) xs (cs.drop off)
  | [], off, _, ht, _ => by
    simp only [tiles, Option.some.injEq] at ht
    refine ⟨[], by simp [HasF], ?_⟩
    rw [List.drop_eq_nil_of_le (by omega)]
    exact PRs.nil
  | f :: fs, off, hm, ht, hx => by
    simp only [tiles] at ht
    split at ht
    · rename_i hof
      obtain ⟨x, h1⟩ := hx f (List.mem_cons_self ..)
      obtain ⟨a, a1, a2, a3⟩ := ih f.type _ x (hm f (List.mem_cons_self ..)) h1
      obtain ⟨b, b1, b2⟩ := fields_has S n cs ih fs (off + P.cellsOf f.type) (fun g hg => hm g (List.mem_cons_of_mem _ hg)) ht (fun g hg => hx g (List.mem_cons_of_mem _ hg))
      refine ⟨a ++ b, by simp only [HasF]; exact ⟨a, b, rfl, a1, a3, b1⟩, ?_⟩
      rw [hof] at a2
      have := PRs.append a2 b2
      rwa [← List.drop_drop, List.take_append_drop] at this
    · simp at ht

theorem trod_has {S : List TypeId} (hS : ∀ t ∈ S, plainIn P S t = true) : ∀ (fuel : Nat) (t : TypeId) (cs : List Value) (x : DataW H × List MemPlace), t ∈ S → DataW.trod enc P w 0 spare true fuel t cs = some x →
    ∃ xs, Has P fuel t xs ∧ PRs w (fun g _ => g < w.heap.size) xs cs ∧ xs.length = P.cellsOf t := by
  intro fuel
  induction fuel with
  | zero => intro t cs x _ h; simp [DataW.trod] at h
  | succ n ih =>
    intro t cs x ht h
    have hp := hS t ht
    unfold plainIn at hp
    split at hp
    · rename_i hu
      obtain ⟨b, rfl, _⟩ := DataW.trod_bool hu h
      refine ⟨[.bool b], by unfold Has; rw [hu]; exact ⟨b, rfl⟩, .one (.bool b), (beq_iff_eq.1 hp).symm⟩
    · rename_i k hu
      obtain ⟨m, rfl, _, hw⟩ := DataW.trod_int hu h
      refine ⟨[.int k m], by unfold Has; rw [hu]; exact ⟨m, rfl, hw⟩, .one (.int k m), (beq_iff_eq.1 hp).symm⟩
    · rename_i hu
      obtain ⟨s, rfl, _, hw⟩ := DataW.trod_string hu h
      obtain ⟨⟨l⟩⟩ := s
      exact ⟨[.str l], by unfold Has; rw [hu]; exact ⟨l, rfl, hw⟩, .one (.str l), (beq_iff_eq.1 hp).symm⟩
    · rename_i e hu
      simp only [Bool.and_eq_true, List.contains_eq_mem, decide_eq_true_eq, beq_iff_eq] at hp
      rcases DataW.trod_pointer hu h with ⟨rfl, _⟩ | ⟨a, cs', y, m, hm, rfl, _, hc, hy⟩
      · exact ⟨[.nilp], by unfold Has; rw [hu]; exact .inl rfl, .one .nilp, by simpa using hp.2.symm⟩
      · have hm' : m = n := by omega
        subst hm'
        obtain ⟨ys, y1, y2, y3⟩ := ih e cs' y hp.1 hy
        obtain ⟨c1, c2⟩ := cells_get hc
        have cell : ∀ j, j < ys.length → w.cell? ⟨a.block, a.off + j, none⟩ = some (cs'.getD j undef) ∧ (j = 0 → a.spot = none) := fun j hj => by
          have h1 := c2 j (by omega)
          have h2 := cell_add (a := a) (m := 0) (q := j) (by simpa [Addr.add] using h1)
          exact ⟨by simpa using h2.1, h2.2 rfl⟩
        refine ⟨[.pp ys], by unfold Has; rw [hu]; exact .inr ⟨ys, rfl, y1, y3⟩, .one (.pp ys a cs' (fun hne => ?_) (fun j hj => ?_) y2.2), by simpa using hp.2.symm⟩
        · have : 0 < ys.length := List.length_pos_iff.2 hne
          exact (cell 0 this).2 rfl
        · exact ⟨cell_lt (a := ⟨a.block, a.off + j, none⟩) (cell j hj).1, (cell j hj).1⟩
    · rename_i e hu
      simp only [Bool.and_eq_true, List.contains_eq_mem, decide_eq_true_eq, beq_iff_eq] at hp
      rcases DataW.trod_slice hu h with ⟨rfl, _⟩ | ⟨a, len, cap, elems, rest, m, hm, rfl, _, hb, hlc, hcm, hel, helem, _, _⟩
      · exact ⟨[.ps [] 0 none], by unfold Has; rw [hu]; exact ⟨[], rfl, Nat.zero_le _, fun r hr => by simp at hr⟩, .one (.psn none (fun k hk => by simp at hk)), by simpa using hp.2.symm⟩
      · have hm' : m = n := by omega
        subst hm'
        have each : ∀ i, i < len → ∃ p : List AV × List Value, w.cells? 0 (a.add (i * P.cellsOf e)) (P.cellsOf e) = some p.2 ∧ Has P m e p.1 ∧ PRs w (fun g _ => g < w.heap.size) p.1 p.2 ∧ p.1.length = P.cellsOf e := by
          intro i hi
          have h1 := helem i hi
          rw [List.getElem?_eq_getElem (by omega)] at h1
          simp only [Option.bind_eq_some_iff] at h1
          obtain ⟨ci, h2, h3⟩ := h1
          obtain ⟨xi, x1, x2, x3⟩ := ih e ci _ hp.1 h3
          exact ⟨(xi, ci), h2, x1, x2, x3⟩
        obtain ⟨ps, l1, l2⟩ := choose_list _ ([], []) len each
        have hrow : ∀ i, i < len → (ps.map (·.1)).getD i [] = (ps.getD i ([], [])).1 ∧ (ps.map (·.2)).getD i [] = (ps.getD i ([], [])).2 := fun i hi => by
          simp [List.getD_eq_getElem?_getD, l1, hi]
        have hrows : ∀ r ∈ ps.map (·.1), Has P m e r ∧ r.length = P.cellsOf e := by
          intro r hr
          obtain ⟨i, hi, rfl⟩ := List.mem_iff_getElem.1 hr
          simp only [List.length_map, l1] at hi
          have h5 := l2 i hi
          have : (ps.getD i ([], [])).1 = (ps.map (·.1))[i]'(by simpa [l1] using hi) := by simp [List.getD_eq_getElem?_getD, l1, hi]
          rw [this] at h5
          exact ⟨h5.2.1, h5.2.2.2⟩
        have hpr : PRs w (fun g _ => g < w.heap.size) (ps.map (·.1)).flatten (ps.map (·.2)).flatten := PRs.flatten (by simp) fun i hi => by
          have hi' : i < len := by simpa [l1] using hi
          rw [(hrow i hi').1, (hrow i hi').2]
          exact (l2 i hi').2.2.1
        -- every cell lies where it must
        have hcell : ∀ (k : Nat) (qs : List (List AV × List Value)) (i0 : Nat), (∀ i, i < qs.length → w.cells? 0 (a.add ((i0 + i) * P.cellsOf e)) (P.cellsOf e) = some (qs.getD i ([], [])).2 ∧ (qs.getD i ([], [])).1.length = P.cellsOf e) →
            k < (qs.map (·.2)).flatten.length → w.cell? ⟨a.block, a.off + i0 * P.cellsOf e + k, none⟩ = some ((qs.map (·.2)).flatten.getD k undef) ∧ (i0 = 0 → k = 0 → a.spot = none) := by
          intro k qs
          induction qs generalizing k with
          | nil => intro i0 _ hk; simp at hk
          | cons q qs ihq =>
            intro i0 hq hk
            have h0 := hq 0 (by simp)
            simp only [Nat.add_zero, List.getD_cons_zero] at h0
            obtain ⟨c1, c2⟩ := cells_get h0.1
            simp only [List.map_cons, List.flatten_cons, List.length_append] at hk ⊢
            by_cases hkl : k < q.2.length
            · have h6 := c2 k (by omega)
              have h7 := cell_add h6
              have : (q.2 ++ (qs.map (·.2)).flatten).getD k undef = q.2.getD k undef := by simp [List.getD_eq_getElem?_getD, List.getElem?_append, hkl]
              rw [this]
              exact ⟨h7.1, fun h8 h9 => h7.2 (by rw [h8]; simp) h9⟩
            · have h6 := ihq (k - q.2.length) (i0 + 1) (fun i hi => by
                have := hq (i + 1) (by simpa using hi)
                simpa [Nat.add_assoc, Nat.add_comm 1 i] using this) (by omega)
              have : (q.2 ++ (qs.map (·.2)).flatten).getD k undef = (qs.map (·.2)).flatten.getD (k - q.2.length) undef := by simp [List.getD_eq_getElem?_getD, List.getElem?_append, hkl]
              rw [this, ← h6.1]
              refine ⟨by congr 2; rw [Nat.add_mul, Nat.one_mul]; omega, fun h8 h9 => ?_⟩
              subst h8; subst h9
              have hz : P.cellsOf e = 0 := by omega
              have h10 := ihq (0 - q.2.length) 0 (fun i hi => by
                have := hq (i + 1) (by simpa using hi)
                simpa [hz] using this) (by omega)
              exact h10.2 rfl (by omega)
        have hflen : (ps.map (·.2)).flatten.length = (ps.map (·.1)).flatten.length := hpr.1
        have hc0 := fun k hk => hcell k ps 0 (fun i hi => by
          have := l2 i (by simpa [l1] using hi)
          exact ⟨by simpa using this.1, this.2.2.2⟩) hk
        refine ⟨[.ps (ps.map (·.1)).flatten (ps.map (·.1)).length none], by unfold Has; rw [hu]; exact ⟨ps.map (·.1), rfl, by simp [l1]; omega, hrows⟩, .one ?_, by simpa using hp.2.symm⟩
        have hlen : (ps.map (·.1)).length = len := by simp [l1]
        rw [hlen]
        refine .ps _ len none a cap (ps.map (·.2)).flatten (fun hne => ?_) hlc (fun k hk => by simp at hk) (fun j hj => ?_) hpr.2
        · have : 0 < (ps.map (·.1)).flatten.length := List.length_pos_iff.2 hne
          exact (hc0 0 (by omega)).2 rfl rfl
        · have h1 := (hc0 j (by omega)).1
          simp only [Nat.zero_mul, Nat.add_zero] at h1
          exact ⟨cell_lt (a := ⟨a.block, a.off + j, none⟩) h1, h1⟩
    · rename_i fs hu
      simp only [Bool.and_eq_true, List.all_eq_true, List.contains_eq_mem, decide_eq_true_eq, beq_iff_eq] at hp
      obtain ⟨xs0, m, hm, _, hcl, hxl, hx⟩ := DataW.trod_struct hu h
      have hm' : m = n := by omega
      subst hm'
      obtain ⟨xs, h1, h2⟩ := fields_has S m cs ih fs.toList 0 (fun f hf => hp.1 f hf) (by rw [hcl]; exact hp.2) (fun f hf => by
        obtain ⟨i, hi, rfl⟩ := List.mem_iff_getElem.1 hf
        have hi' : i < fs.size := by simpa using hi
        have := hx i fs[i] (by simp [hi'])
        refine ⟨xs0[i]'(by omega), ?_⟩
        simp only [Array.getElem_toList]
        rw [this, List.getElem?_eq_getElem (by omega)])
      simp only [List.drop_zero] at h2
      exact ⟨xs, by unfold Has; rw [hu]; exact h1, h2, by have := h2.1; omega⟩
    · rename_i k e hu
      simp only [Bool.and_eq_true, List.contains_eq_mem, decide_eq_true_eq, beq_iff_eq] at hp
      obtain ⟨xs0, m, hm, _, hcl, hxl, hx⟩ := DataW.trod_array hu h
      have hm' : m = n := by omega
      subst hm'
      have each : ∀ i, i < k → ∃ r : List AV, Has P m e r ∧ PRs w (fun g _ => g < w.heap.size) r ((cs.drop (i * P.cellsOf e)).take (P.cellsOf e)) ∧ r.length = P.cellsOf e := by
        intro i hi
        have h1 := hx i hi
        rw [List.getElem?_eq_getElem (by omega)] at h1
        obtain ⟨xi, x1, x2, x3⟩ := ih e _ _ hp.1 h1
        exact ⟨xi, x1, x2, x3⟩
      obtain ⟨rows, l1, l2⟩ := choose_list _ [] k each
      have hch := chunks (P.cellsOf e) k cs (by rw [hcl, hp.2])
      have hpr : PRs w (fun g _ => g < w.heap.size) rows.flatten cs := by
        rw [← hch]
        refine PRs.flatten (by simp [l1]) fun i hi => ?_
        have hi' : i < k := by omega
        have h3 := (l2 i hi').2.1
        have : ((List.range k).map fun i => (cs.drop (i * P.cellsOf e)).take (P.cellsOf e)).getD i [] = (cs.drop (i * P.cellsOf e)).take (P.cellsOf e) := by simp [List.getD_eq_getElem?_getD, hi']
        rw [this]; exact h3
      refine ⟨rows.flatten, ?_, hpr, by have := hpr.1; omega⟩
      unfold Has; rw [hu]
      refine ⟨rows, rfl, l1, fun r hr => ?_⟩
      obtain ⟨i, hi, rfl⟩ := List.mem_iff_getElem.1 hr
      have h3 := l2 i (by omega)
      have : rows.getD i [] = rows[i] := by simp [List.getD_eq_getElem?_getD, hi]
      rw [this] at h3
      exact ⟨h3.1, h3.2.2⟩
    · simp at hp
end
end Go.Abs

/- The abstract machine: a law that answers true, in the model. -/
namespace Go.Abs
open Go.RowKit

section
variable {P : Program}

def outer (W : World) : Gh := ⟨W.heap.size, fun _ _ => True, fun _ => False⟩

theorem law_run {C : Machine} (hC : COk P C) {f : FuncId} {W : World} {args : List AV} {cargs : List Value} (ha : PRs W (fun g _ => g < W.heap.size) args cargs) {n : Nat} {h' : AHeap} (hr : runA C n f args [] = some (.bool true, h')) :
    CallRuns P f cargs.toArray W (fun cv W' => cv = .bool true ∧ Below W.heap.size W W') := by
  have hn := PRs_noReg ha.1 ha.2
  have hI : Inv (outer W) (enterK args [] (fun _ => ⟨0, 0, 0⟩) W) :=
    ⟨Nat.le_refl _, fun _ h => h.elim, fun b ver fz tag cells he => by simp [enterK] at he, fun b es he => by simp [enterK] at he, fun b b' hb => by simp [Live, enterK] at hb, fun p st cells he => absurd he (hn p st cells), fun p st cells q st' cells' he => absurd he (hn p st cells)⟩
  have hv : VKs (outer W) (enterK args [] (fun _ => ⟨0, 0, 0⟩) W) args cargs :=
    ⟨ha.1, fun j hj => .pr _ _ ((ha.2 j hj).mono fun g i hg => ⟨⟨hg, fun _ => trivial, fun h => h, fun ⟨p, st, cells, he, _⟩ => hn p st cells he, fun b ver fz tag cells he => by simp [enterK] at he⟩, rfl⟩)⟩
  refine (runs_ok hC n (outer W) [] (fun _ => ⟨0, 0, 0⟩) W f args cargs _ h' hI hv hr).mono fun cv W' ⟨k', _, e2, _, hG, hvk⟩ => ?_
  subst e2
  exact ⟨hvk.bool, ⟨hG.os, hG.tape, hG.output, hG.size, fun g hg => hG.old g hg⟩⟩

theorem law_calls {C : Machine} (hC : COk P C) {f : FuncId} {fn : Func} (hfn : P.funcs[f]? = some fn) (hb : fn.body.isNone = false) (hnm : (fn.name == "runtime.NumGoroutine") = false) {W : World} {args : List AV} {cargs : List Value}
    (ha : PRs W (fun g _ => g < W.heap.size) args cargs) {n : Nat} {h' : AHeap} (hr : runA C n f args [] = some (.bool true, h')) :
    Calls P f cargs.toArray W fun e W' => e = .returned (.bool true) ∧ Below W.heap.size W W' := by
  rcases law_run hC ha hr with ⟨_, h⟩ | ⟨cv, w', h, _⟩
  · refine h.mono fun e w' he => ?_
    cases e with
    | returned cv => obtain ⟨rfl, h2⟩ := he; exact ⟨rfl, h2⟩
    | panicked _ => exact he.elim
    | outgrown => exact he.elim
  · rw [run_callFunc_enter hfn hb hnm] at h
    injection h with h _
    cases h
end
end Go.Abs

/- The abstract machine's limit: what calls answer whatever the fuel is, and rules to run code. -/
namespace Go.Abs

/-- From some number on. -/
def Ev (p : Nat → Prop) : Prop := ∃ n, ∀ m, n ≤ m → p m
theorem Ev.of {p : Nat → Prop} (h : ∀ m, p m) : Ev p := ⟨0, fun m _ => h m⟩
theorem Ev.mono {p q : Nat → Prop} (h : Ev p) (f : ∀ m, p m → q m) : Ev q := by
  obtain ⟨n, hn⟩ := h
  exact ⟨n, fun m hm => f m (hn m hm)⟩
theorem Ev.and {p q : Nat → Prop} (h : Ev p) (g : Ev q) : Ev fun m => p m ∧ q m := by
  obtain ⟨n, hn⟩ := h
  obtain ⟨k, hk⟩ := g
  exact ⟨max n k, fun m hm => ⟨hn m (by omega), hk m (by omega)⟩⟩
theorem Ev.some {p : Nat → Prop} (h : Ev p) : ∃ m, p m := by
  obtain ⟨n, hn⟩ := h
  exact ⟨n, hn n (Nat.le_refl _)⟩
theorem Ev.succ {p : Nat → Prop} (h : Ev fun m => p (m + 1)) : Ev p := by
  obtain ⟨n, hn⟩ := h
  refine ⟨n + 1, fun m hm => ?_⟩
  obtain ⟨k, rfl⟩ : ∃ k, m = k + 1 := ⟨m - 1, by omega⟩
  exact hn k (by omega)

section
variable (C : Machine)

/-- A call, whatever the fuel is. -/
noncomputable def callL : CallF := fun f args h =>
  open Classical in
  if hx : ∃ r, Ev fun m => callOf C (runA C m) f args h = some r then some (Classical.choose hx) else none
/-- .. and the run of a function's text in a memory. -/
noncomputable def runL : CallF := fun f args h =>
  open Classical in
  if hx : ∃ r, Ev fun m => runA C m f args h = some r then some (Classical.choose hx) else none
/-- A call that takes and hands back what nobody writes. -/
noncomputable def pcL (f : FuncId) (args : List AV) : Option AV :=
  match C.prim f with
  | some g => g args
  | none => (runL C f args []).bind purify
end

section
variable {C : Machine}

theorem callL_iff {f : FuncId} {args : List AV} {h : AHeap} {r : AV × AHeap} : callL C f args h = some r ↔ Ev fun m => callOf C (runA C m) f args h = some r := by
  unfold callL
  constructor
  · intro he
    split at he
    · rename_i hx
      injection he with he
      subst he
      exact Classical.choose_spec hx
    · simp at he
  · intro he
    have hx : ∃ r, Ev fun m => callOf C (runA C m) f args h = some r := ⟨r, he⟩
    rw [dif_pos hx]
    obtain ⟨m, h1, h2⟩ := (he.and (Classical.choose_spec hx)).some
    rw [h1] at h2
    exact h2.symm

theorem runL_iff {f : FuncId} {args : List AV} {h : AHeap} {r : AV × AHeap} : runL C f args h = some r ↔ Ev fun m => runA C m f args h = some r := by
  unfold runL
  constructor
  · intro he
    split at he
    · rename_i hx
      injection he with he
      subst he
      exact Classical.choose_spec hx
    · simp at he
  · intro he
    have hx : ∃ r, Ev fun m => runA C m f args h = some r := ⟨r, he⟩
    rw [dif_pos hx]
    obtain ⟨m, h1, h2⟩ := (he.and (Classical.choose_spec hx)).some
    rw [h1] at h2
    exact h2.symm

theorem callL_prim {f : FuncId} {g : List AV → Option AV} (hp : C.prim f = some g) {args as : List AV} {h : AHeap} {v : AV} (ha : argsR h args = some as) (hg : g as = some v) : callL C f args h = some (v, args.foldl (frz depth) h) :=
  callL_iff.2 (Ev.of fun m => by simp [callOf, hp, ha, hg])

theorem callL_shared {f : FuncId} (hp : C.prim f = none) (hm : C.mode f = .shared) {args : List AV} {h : AHeap} : callL C f args h = runL C f args h := by
  have key : ∀ r, callL C f args h = some r ↔ runL C f args h = some r := fun r => by
    rw [callL_iff, runL_iff]
    simp only [callOf, hp, hm]
  cases h1 : runL C f args h with
  | none =>
    cases h2 : callL C f args h with
    | none => rfl
    | some r => rw [key, h1] at h2; cases h2
  | some r => exact (key r).2 h1

theorem callL_pure {f : FuncId} (hp : C.prim f = none) (hm : C.mode f = .pure) {args as : List AV} {h : AHeap} {v : AV} (ha : argsR h args = some as) (hg : pcL C f as = some v) : callL C f args h = some (v, args.foldl (frz depth) h) := by
  unfold pcL at hg
  rw [hp] at hg
  simp only [Option.bind_eq_some_iff] at hg
  obtain ⟨r, h1, h2⟩ := hg
  exact callL_iff.2 ((runL_iff.1 h1).mono fun m hm' => by simp [callOf, hp, hm, ha, hm', h2])

/-- A row handed back. -/
theorem callL_fresh {f : FuncId} (hp : C.prim f = none) (hm : C.mode f = .fresh) {args as : List AV} {h h' : AHeap} {b ver off len esz : Nat} {cap : Option Nat} {fz tag : Nat} {cells : List AV} (ha : argsR h args = some as)
    (hg : runL C f as [] = some (.sl b ver off len esz cap, h')) (hr : rowAt h' b ver = some (fz, tag, cells)) (hc : off + len * esz ≤ cells.length ∧ fz ≤ off) (hn : noRefs ((cells.drop off).take (len * esz)) = true) :
    callL C f args h = some (.sl (args.foldl (frz depth) h).length 0 0 len esz none, args.foldl (frz depth) h ++ [.row 0 0 tag (norms ((cells.drop off).take (len * esz)))]) :=
  callL_iff.2 ((runL_iff.1 hg).mono fun m hm' => by simp only [callOf, hp, hm, ha, Option.bind_some, hm', hr, if_pos hc, if_pos hn])

theorem callL_fresh_nil {f : FuncId} (hp : C.prim f = none) (hm : C.mode f = .fresh) {args as : List AV} {h h' : AHeap} (ha : argsR h args = some as)
    (hg : runL C f as [] = some (.nils, h')) : callL C f args h = some (.ps [] 0 none, args.foldl (frz depth) h) :=
  callL_iff.2 ((runL_iff.1 hg).mono fun m hm' => by simp [callOf, hp, hm, ha, hm', purify, res, depth, norm, norms])

theorem operL {draw : Bool} {c : Nat} {o : AOp} {ts : List AV} {h : AHeap} {r : AV × List AV × AHeap} (hr : operA C draw (callL C) c o ts h = some r) : Ev fun m => operA C draw (callOf C (runA C m)) c o ts h = some r := by
  cases o
  case call f args =>
    simp only [operA] at hr ⊢
    split at hr
    · rename_i hc
      simp only [Option.map_eq_some_iff] at hr
      obtain ⟨x, h1, rfl⟩ := hr
      exact (callL_iff.1 h1).mono fun m hm => by simp only [hm]; rw [if_pos hc]; rfl
    · simp at hr
  case callv x args =>
    simp only [operA] at hr ⊢
    split at hr
    · rename_i f caps hx
      split at hr
      · rename_i hc
        simp only [Option.map_eq_some_iff] at hr
        obtain ⟨x, h1, rfl⟩ := hr
        exact (callL_iff.1 h1).mono fun m hm => by simp only [hm]; rw [if_pos hc]; rfl
      · simp at hr
    · simp at hr
  all_goals exact Ev.of fun m => hr

theorem opL {draw : Bool} {ops : List AOper} {o : AOper} {s s' : St} (h : opA C draw (callL C) ops o s = some s') : Ev fun m => opA C draw (callOf C (runA C m)) ops o s = some s' := by
  unfold opA at h ⊢
  by_cases hw : wantedA ops s.t o = true
  · rw [if_pos hw] at h
    split at h
    · rename_i v t h' ho
      exact (operL ho).mono fun m hm => by rw [if_pos hw, hm]; exact h
    · simp at h
  · rw [if_neg hw] at h
    exact Ev.of fun m => by rw [if_neg hw]; exact h

theorem opsL {draw : Bool} {ops : List AOper} : ∀ (l : List AOper) (s s' : St), opsA C draw (callL C) ops l s = some s' → Ev fun m => opsA C draw (callOf C (runA C m)) ops l s = some s'
  | [], s, s', h => Ev.of fun m => h
  | o :: l, s, s', h => by
    simp only [opsA] at h
    split at h
    · rename_i s1 h1
      exact ((opL h1).and (opsL l s1 s' h)).mono fun m hm => by simp only [opsA, hm.1]; exact hm.2
    · simp at h

/-- What must hold behind code: if it goes on, if it returns, if it leaves a block. -/
structure Post where
  n : St → Prop
  r : St → Prop
  x : Nat → St → Prop

def Post.at (Q : Post) : AExit → St → Prop
  | .normal => Q.n
  | .ret => Q.r
  | .exit i => Q.x i

/-- The code runs, and comes to where Q holds. -/
structure Wp (C : Machine) (a : ACode) (s : St) (Q : Post) : Prop where
  ex : ∃ e s', (Ev fun m => execA C (callOf C (runA C m)) m a s = some (e, s')) ∧ Q.at e s'

theorem Wp.skip {s : St} {Q : Post} (h : Q.n s) : Wp C .skip s Q := ⟨⟨.normal, s, Ev.of fun m => rfl, h⟩⟩
theorem Wp.ret {s : St} {Q : Post} (h : Q.r s) : Wp C .ret s Q := ⟨⟨.ret, s, Ev.of fun m => rfl, h⟩⟩
theorem Wp.exit {i : Nat} {s : St} {Q : Post} (h : Q.x i s) : Wp C (.exit i) s Q := ⟨⟨.exit i, s, Ev.of fun m => rfl, h⟩⟩
theorem Wp.region {d : Bool} {ops : List AOper} {s s' : St} {Q : Post} (h : opsA C d (callL C) ops ops s = some s') (hq : Q.n s') : Wp C (.region d ops) s Q :=
  ⟨⟨.normal, s', (opsL ops s s' h).mono fun m hm => by simp [execA, hm], hq⟩⟩
theorem Wp.seq {a b : ACode} {s : St} {Q : Post} (h : Wp C a s { n := fun s' => Wp C b s' Q, r := Q.r, x := Q.x }) : Wp C (.seq a b) s Q := by
  obtain ⟨⟨e, s', h1, h2⟩⟩ := h
  cases e with
  | normal =>
    obtain ⟨⟨e2, s2, h3, h4⟩⟩ := h2
    exact ⟨⟨e2, s2, (h1.and h3).mono fun m hm => by simp only [execA, hm.1]; exact hm.2, h4⟩⟩
  | ret => exact ⟨⟨.ret, s', h1.mono fun m hm => by simp only [execA, hm], h2⟩⟩
  | exit i => exact ⟨⟨.exit i, s', h1.mono fun m hm => by simp only [execA, hm], h2⟩⟩
theorem Wp.cond {c : AOpd} {a b : ACode} {s : St} {Q : Post} (v : Bool) (hc : aev s.t c = .bool v) (ht : v = true → Wp C a s Q) (hf : v = false → Wp C b s Q) : Wp C (.cond c a b) s Q := by
  cases v with
  | true =>
    obtain ⟨⟨e, s', h1, h2⟩⟩ := ht rfl
    exact ⟨⟨e, s', h1.mono fun m hm => by simp only [execA, hc, hm], h2⟩⟩
  | false =>
    obtain ⟨⟨e, s', h1, h2⟩⟩ := hf rfl
    exact ⟨⟨e, s', h1.mono fun m hm => by simp only [execA, hc, hm], h2⟩⟩
theorem Wp.condD {c : AOpd} {a b : ACode} {s : St} {Q : Post} {v : Bool} (hc : aev s.t c = .bool v) (h : Wp C (bif v then a else b) s Q) : Wp C (.cond c a b) s Q := Wp.cond v hc (fun e => by subst e; exact h) (fun e => by subst e; exact h)
theorem Wp.condT {c : AOpd} {a b : ACode} {s : St} {Q : Post} (hc : aev s.t c = .bool true) (h : Wp C a s Q) : Wp C (.cond c a b) s Q := Wp.cond true hc (fun _ => h) (fun h => by cases h)
theorem Wp.condF {c : AOpd} {a b : ACode} {s : St} {Q : Post} (hc : aev s.t c = .bool false) (h : Wp C b s Q) : Wp C (.cond c a b) s Q := Wp.cond false hc (fun h => by cases h) (fun _ => h)
theorem Wp.block {i : Nat} {a : ACode} {s : St} {Q : Post} (h : Wp C a s { n := Q.n, r := Q.r, x := fun j s' => (j = i → Q.n s') ∧ (j ≠ i → Q.x j s') }) : Wp C (.block i a) s Q := by
  obtain ⟨⟨e, s', h1, h2⟩⟩ := h
  cases e with
  | normal => exact ⟨⟨.normal, s', h1.mono fun m hm => by simp only [execA, hm], h2⟩⟩
  | ret => exact ⟨⟨.ret, s', h1.mono fun m hm => by simp only [execA, hm], h2⟩⟩
  | exit j =>
    obtain ⟨h3, h4⟩ := h2
    by_cases hj : j = i
    · exact ⟨⟨.normal, s', h1.mono fun m hm => by simp only [execA, hm, if_pos hj], h3 hj⟩⟩
    · exact ⟨⟨.exit j, s', h1.mono fun m hm => by simp only [execA, hm, if_neg hj], h4 hj⟩⟩

theorem loop_iter {a : ACode} {Q : Post} (I : Nat → St → Prop) (step : ∀ k s, I k s → Wp C a s { n := fun s' => ∃ j, j < k ∧ I j s', r := Q.r, x := Q.x }) :
    ∀ (k : Nat) (s : St), I k s → ∃ e s', (∃ n, ∀ m, n ≤ m → ∀ i, n ≤ i → iterA (execA C (callOf C (runA C m)) m a) i s = some (e, s')) ∧ e ≠ .normal ∧ Q.at e s' := by
  intro k
  induction k using Nat.strongRecOn with
  | _ k ih =>
    intro s hs
    obtain ⟨⟨e, s1, ⟨n1, h1⟩, h2⟩⟩ := step k s hs
    cases e with
    | normal =>
      obtain ⟨j, hj, hI⟩ := h2
      obtain ⟨e2, s2, ⟨n2, h3⟩, h4, h5⟩ := ih j hj s1 hI
      refine ⟨e2, s2, ⟨max n1 n2 + 1, fun m hm i hi => ?_⟩, h4, h5⟩
      obtain ⟨i', rfl⟩ : ∃ i', i = i' + 1 := ⟨i - 1, by omega⟩
      simp only [iterA, h1 m (by omega)]
      exact h3 m (by omega) i' (by omega)
    | ret =>
      refine ⟨.ret, s1, ⟨n1 + 1, fun m hm i hi => ?_⟩, by simp, h2⟩
      obtain ⟨i', rfl⟩ : ∃ i', i = i' + 1 := ⟨i - 1, by omega⟩
      simp only [iterA, h1 m (by omega)]
    | exit x =>
      refine ⟨.exit x, s1, ⟨n1 + 1, fun m hm i hi => ?_⟩, by simp, h2⟩
      obtain ⟨i', rfl⟩ : ∃ i', i = i' + 1 := ⟨i - 1, by omega⟩
      simp only [iterA, h1 m (by omega)]

theorem Wp.loop {a : ACode} {s : St} {Q : Post} (I : Nat → St → Prop) {k : Nat} (hs : I k s) (step : ∀ k s, I k s → Wp C a s { n := fun s' => ∃ j, j < k ∧ I j s', r := Q.r, x := Q.x }) : Wp C (.loop a) s Q := by
  obtain ⟨e, s', ⟨n, h1⟩, _, h2⟩ := loop_iter (Q := Q) I step k s hs
  exact ⟨⟨e, s', ⟨n, fun m hm => by simp only [execA]; exact h1 m hm m hm⟩, h2⟩⟩

/-- A loop that counts. -/
theorem Wp.count {a : ACode} {s : St} {Q : Post} (n : Nat) (I : Nat → St → Prop) (h0 : I 0 s) (step : ∀ i s, i < n → I i s → Wp C a s { n := I (i + 1), r := Q.r, x := Q.x }) (last : ∀ s, I n s → Wp C a s { n := fun _ => False, r := Q.r, x := Q.x }) : Wp C (.loop a) s Q := by
  have mono : ∀ {s : St} {N N' : St → Prop}, (∀ s, N s → N' s) → Wp C a s { n := N, r := Q.r, x := Q.x } → Wp C a s { n := N', r := Q.r, x := Q.x } := by
    rintro s N N' hN ⟨⟨e, s', h1, h2⟩⟩
    exact ⟨⟨e, s', h1, by cases e <;> first | exact hN _ h2 | exact h2⟩⟩
  refine Wp.loop (fun k s => ∃ i, i ≤ n ∧ k = n - i ∧ I i s) ⟨0, Nat.zero_le _, rfl, h0⟩ ?_
  rintro k s ⟨i, hi, rfl, hI⟩
  rcases Nat.lt_or_ge i n with h | h
  · exact mono (fun s hs => ⟨n - (i + 1), by omega, i + 1, by omega, rfl, hs⟩) (step i s h hI)
  · have : i = n := by omega
    subst this
    exact mono (fun s hs => hs.elim) (last s hI)

/-- What some slots hold. -/
def Sl (t : List AV) : List (Nat × AV) → Prop
  | [] => True
  | (n, v) :: r => tget t n = v ∧ Sl t r

theorem ret_ok {rs : List ARes} {t : List AV} {h : AHeap} {c : Nat} {r v : AV} (h1 : resultsA ⟨t, h, c⟩ rs = some r) (h2 : purify (r, h) = some v) : ∃ r, resultsA ⟨t, h, c⟩ rs = some r ∧ purify (r, h) = some v := ⟨r, h1, h2⟩

theorem Wp.mono {a : ACode} {s : St} {Q Q' : Post} (h : Wp C a s Q) (hn : ∀ s, Q.n s → Q'.n s) (hr : ∀ s, Q.r s → Q'.r s) (hx : ∀ i s, Q.x i s → Q'.x i s) : Wp C a s Q' := by
  obtain ⟨⟨e, s', h1, h2⟩⟩ := h
  refine ⟨⟨e, s', h1, ?_⟩⟩
  cases e
  · exact hn _ h2
  · exact hx _ _ h2
  · exact hr _ h2

/-- A function's run, by its code. -/
theorem runL_of {f : FuncId} {fa : AFunc} (hf : C.funcs f = some fa) {args : List AV} {h : AHeap} {r : AV × AHeap} (H : Wp C fa.body ⟨args, h, 0⟩ { n := fun s => (resultsA s fa.results).map (·, s.h) = some r, r := fun s => (resultsA s fa.results).map (·, s.h) = some r, x := fun _ _ => False }) : runL C f args h = some r := by
  obtain ⟨⟨e, s', h1, h2⟩⟩ := H
  refine runL_iff.2 (Ev.succ (h1.mono fun m hm => ?_))
  simp only [runA, hf, hm]
  cases e with
  | normal => exact h2
  | ret => exact h2
  | exit i => exact h2.elim

theorem pcL_of {f : FuncId} {fa : AFunc} (hp : C.prim f = none) (hf : C.funcs f = some fa) {args : List AV} {v : AV}
    (H : Wp C fa.body ⟨args, [], 0⟩ { n := fun s => ∃ r, resultsA s fa.results = some r ∧ purify (r, s.h) = some v, r := fun s => ∃ r, resultsA s fa.results = some r ∧ purify (r, s.h) = some v, x := fun _ _ => False }) : pcL C f args = some v := by
  obtain ⟨⟨e, s', h1, h2⟩⟩ := H
  unfold pcL
  rw [hp]
  have key : ∀ r, resultsA s' fa.results = some r → (∀ i, e ≠ .exit i) → runL C f args [] = some (r, s'.h) := fun r hr hne => by
    refine runL_iff.2 (Ev.succ (h1.mono fun m hm => ?_))
    simp only [runA, hf, hm]
    cases e with
    | normal => simp [hr]
    | ret => simp [hr]
    | exit i => exact absurd rfl (hne i)
  cases e with
  | normal => obtain ⟨r, h3, h4⟩ := h2; simp only [key r h3 (fun i => by simp), Option.bind_some]; exact h4
  | ret => obtain ⟨r, h3, h4⟩ := h2; simp only [key r h3 (fun i => by simp), Option.bind_some]; exact h4
  | exit i => exact h2.elim

/-- A law that answers true has a run that the model takes. -/
theorem runA_of_pcL {f : FuncId} (hp : C.prim f = none) {args : List AV} (h : pcL C f args = some (.bool true)) : ∃ n h', runA C n f args [] = some (.bool true, h') := by
  unfold pcL at h
  rw [hp] at h
  simp only [Option.bind_eq_some_iff] at h
  obtain ⟨⟨r, h'⟩, h1, h2⟩ := h
  obtain ⟨n, hn⟩ := (runL_iff.1 h1).some
  refine ⟨n, h', ?_⟩
  have : r = .bool true := by
    obtain ⟨v0, h3, h4'⟩ := purify_some h2
    have h4 := h4'.symm
    have h5 : v0 = .bool true := by
      clear h3 h2 h1 hn
      cases v0 <;> simp only [norm] at h4 <;> first | exact h4 | cases h4
    subst h5
    have h3' : res (23 + 1) h' r = some (.bool true) := h3
    clear h3 hn h1
    generalize 23 = d at h3'
    cases r with
    | bool b => simp only [res, Option.some.injEq] at h3'; exact h3'
    | ptr b ver off =>
      simp only [res] at h3'
      split at h3'
      · simp only [Option.map_eq_some_iff] at h3'; obtain ⟨_, _, h⟩ := h3'; cases h
      · cases h3'
    | sl b ver off len esz cap =>
      simp only [res] at h3'
      split at h3'
      · split at h3'
        · simp only [Option.map_eq_some_iff] at h3'; obtain ⟨_, _, h⟩ := h3'; cases h
        · cases h3'
      · cases h3'
    | agg cs => simp only [res, Option.map_eq_some_iff] at h3'; obtain ⟨_, _, h⟩ := h3'; cases h
    | tuple cs => simp only [res, Option.map_eq_some_iff] at h3'; obtain ⟨_, _, h⟩ := h3'; cases h
    | func f cs => simp only [res, Option.map_eq_some_iff] at h3'; obtain ⟨_, _, h⟩ := h3'; cases h
    | iface t v => simp only [res, Option.map_eq_some_iff] at h3'; obtain ⟨_, _, h⟩ := h3'; cases h
    | _ => first | (simp only [res, Option.some.injEq] at h3'; exact h3') | (simp only [res, Option.some.injEq] at h3'; cases h3') | (simp only [res] at h3'; cases h3')
  rw [← this]; exact hn
end
end Go.Abs

/- Rules by which simp runs the abstract machine's straight code. Printed by mkstep.py. -/
namespace Go.Abs.S
section
variable {M : Machine} {dr : Bool} {call : CallF} {ops rest : List AOper} {t : List AV} {h : AHeap} {c : Nat}

theorem tget_nil (n : Nat) : tget [] n = undefA := rfl
theorem tget_zero (v : AV) (l : List AV) : tget (v :: l) 0 = v := rfl
theorem tget_succ (v : AV) (l : List AV) (n : Nat) : tget (v :: l) (n + 1) = tget l n := rfl
theorem aev_t (n : Nat) : aev t (.t n) = rval n (tget t n) := rfl
theorem aev_c (v : AV) : aev t (.c v) = v := rfl
theorem ops_nil : opsA M dr call ops [] ⟨t, h, c⟩ = some ⟨t, h, c⟩ := rfl
theorem ops_cons (o : AOper) : opsA M dr call ops (o :: rest) ⟨t, h, c⟩ = match opA M dr call ops o ⟨t, h, c⟩ with | some s' => opsA M dr call ops rest s' | none => none := rfl
theorem op_none (d : Option Nat) (o : AOp) : opA M dr call ops ⟨d, o, none⟩ ⟨t, h, c⟩ = match operA M dr call c o t h with | some (v, t', h') => some ⟨putA d t' v, h', nextC o c⟩ | none => none := rfl
def gd (a : Option Bool) (w : Bool) : Bool := a == some w
theorem gd_t (b : Bool) : gd (some b) true = b := by cases b <;> rfl
theorem gd_f (b : Bool) : gd (some b) false = !b := by cases b <;> rfl
theorem op_guard (d : Option Nat) (o : AOp) (j : Nat) (w : Bool) : opA M dr call ops ⟨d, o, some (j, w)⟩ ⟨t, h, c⟩ = if gd (yieldedA ops t j) w then (match operA M dr call c o t h with | some (v, t', h') => some ⟨putA d t' v, h', nextC o c⟩ | none => none) else some ⟨putA d t undefA, h, c⟩ := rfl
theorem put_some (d : Nat) (v : AV) : putA (some d) t v = tset t d v := rfl
theorem put_none (v : AV) : putA none t v = t := rfl
theorem yield_def (j : Nat) : yieldedA ops t j = match (ops[j]?).bind (·.dst) with | some d => (match tget t d with | .bool b => some b | _ => none) | none => none := rfl
theorem rval_bool (q : Nat) (b : Bool) : rval q (.bool b) = .bool b := rfl
theorem keeps_bool (b : Bool) : keeps (.bool b) = true := rfl
theorem oneCell_bool (b : Bool) : oneCell (.bool b) = true := rfl
theorem cellsOf_bool (b : Bool) : cellsOf (.bool b) = [.bool b] := rfl
theorem rval_int (q : Nat) (k : IntKind) (n : Int) : rval q (.int k n) = .int k n := rfl
theorem keeps_int (k : IntKind) (n : Int) : keeps (.int k n) = true := rfl
theorem oneCell_int (k : IntKind) (n : Int) : oneCell (.int k n) = true := rfl
theorem cellsOf_int (k : IntKind) (n : Int) : cellsOf (.int k n) = [.int k n] := rfl
theorem rval_str (q : Nat) (s : List UInt8) : rval q (.str s) = .str s := rfl
theorem keeps_str (s : List UInt8) : keeps (.str s) = true := rfl
theorem oneCell_str (s : List UInt8) : oneCell (.str s) = true := rfl
theorem cellsOf_str (s : List UInt8) : cellsOf (.str s) = [.str s] := rfl
theorem rval_nilp (q : Nat)  : rval q (.nilp) = .nilp := rfl
theorem keeps_nilp  : keeps (.nilp) = true := rfl
theorem oneCell_nilp  : oneCell (.nilp) = true := rfl
theorem cellsOf_nilp  : cellsOf (.nilp) = [.nilp] := rfl
theorem rval_ptr (q : Nat) (b v o : Nat) : rval q (.ptr b v o) = .ptr b v o := rfl
theorem keeps_ptr (b v o : Nat) : keeps (.ptr b v o) = true := rfl
theorem oneCell_ptr (b v o : Nat) : oneCell (.ptr b v o) = true := rfl
theorem cellsOf_ptr (b v o : Nat) : cellsOf (.ptr b v o) = [.ptr b v o] := rfl
theorem rval_pp (q : Nat) (l : List AV) : rval q (.pp l) = .pp l := rfl
theorem keeps_pp (l : List AV) : keeps (.pp l) = true := rfl
theorem oneCell_pp (l : List AV) : oneCell (.pp l) = true := rfl
theorem cellsOf_pp (l : List AV) : cellsOf (.pp l) = [.pp l] := rfl
theorem rval_nils (q : Nat)  : rval q (.nils) = .nils := rfl
theorem keeps_nils  : keeps (.nils) = true := rfl
theorem oneCell_nils  : oneCell (.nils) = true := rfl
theorem cellsOf_nils  : cellsOf (.nils) = [.nils] := rfl
theorem rval_sl (q : Nat) (b v o n e : Nat) (k : Option Nat) : rval q (.sl b v o n e k) = .sl b v o n e k := rfl
theorem keeps_sl (b v o n e : Nat) (k : Option Nat) : keeps (.sl b v o n e k) = true := rfl
theorem oneCell_sl (b v o n e : Nat) (k : Option Nat) : oneCell (.sl b v o n e k) = true := rfl
theorem cellsOf_sl (b v o n e : Nat) (k : Option Nat) : cellsOf (.sl b v o n e k) = [.sl b v o n e k] := rfl
theorem rval_ps (q : Nat) (l : List AV) (n : Nat) (k : Option Nat) : rval q (.ps l n k) = .ps l n k := rfl
theorem keeps_ps (l : List AV) (n : Nat) (k : Option Nat) : keeps (.ps l n k) = true := rfl
theorem oneCell_ps (l : List AV) (n : Nat) (k : Option Nat) : oneCell (.ps l n k) = true := rfl
theorem cellsOf_ps (l : List AV) (n : Nat) (k : Option Nat) : cellsOf (.ps l n k) = [.ps l n k] := rfl
theorem rval_nilm (q : Nat)  : rval q (.nilm) = .nilm := rfl
theorem keeps_nilm  : keeps (.nilm) = true := rfl
theorem oneCell_nilm  : oneCell (.nilm) = true := rfl
theorem cellsOf_nilm  : cellsOf (.nilm) = [.nilm] := rfl
theorem rval_mp (q : Nat) (b : Nat) : rval q (.mp b) = .mp b := rfl
theorem keeps_mp (b : Nat) : keeps (.mp b) = true := rfl
theorem oneCell_mp (b : Nat) : oneCell (.mp b) = true := rfl
theorem cellsOf_mp (b : Nat) : cellsOf (.mp b) = [.mp b] := rfl
theorem rval_func (q : Nat) (f : FuncId) (l : List AV) : rval q (.func f l) = .func f l := rfl
theorem keeps_func (f : FuncId) (l : List AV) : keeps (.func f l) = true := rfl
theorem oneCell_func (f : FuncId) (l : List AV) : oneCell (.func f l) = true := rfl
theorem cellsOf_func (f : FuncId) (l : List AV) : cellsOf (.func f l) = [.func f l] := rfl
theorem rval_nilf (q : Nat)  : rval q (.nilf) = .nilf := rfl
theorem keeps_nilf  : keeps (.nilf) = true := rfl
theorem oneCell_nilf  : oneCell (.nilf) = true := rfl
theorem cellsOf_nilf  : cellsOf (.nilf) = [.nilf] := rfl
theorem rval_iface (q : Nat) (x : TypeId) (v : AV) : rval q (.iface x v) = .iface x v := rfl
theorem keeps_iface (x : TypeId) (v : AV) : keeps (.iface x v) = true := rfl
theorem oneCell_iface (x : TypeId) (v : AV) : oneCell (.iface x v) = true := rfl
theorem cellsOf_iface (x : TypeId) (v : AV) : cellsOf (.iface x v) = [.iface x v] := rfl
theorem rval_nili (q : Nat)  : rval q (.nili) = .nili := rfl
theorem keeps_nili  : keeps (.nili) = true := rfl
theorem oneCell_nili  : oneCell (.nili) = true := rfl
theorem cellsOf_nili  : cellsOf (.nili) = [.nili] := rfl
theorem rval_agg (q : Nat) (l : List AV) : rval q (.agg l) = .agg l := rfl
theorem keeps_agg (l : List AV) : keeps (.agg l) = true := rfl
theorem oneCell_agg (l : List AV) : oneCell (.agg l) = false := rfl
theorem cellsOf_agg (l : List AV) : cellsOf (.agg l) = l := rfl
theorem rval_tuple (q : Nat) (l : List AV) : rval q (.tuple l) = .tuple l := rfl
theorem keeps_tuple (l : List AV) : keeps (.tuple l) = true := rfl
theorem oneCell_tuple (l : List AV) : oneCell (.tuple l) = false := rfl
theorem cellsOf_tuple (l : List AV) : cellsOf (.tuple l) = [.tuple l] := rfl
theorem rval_rp (q : Nat) (p s o : Nat) : rval q (.rp p s o) = .rp p s o := rfl
theorem keeps_rp (p s o : Nat) : keeps (.rp p s o) = false := rfl
theorem oneCell_rp (p s o : Nat) : oneCell (.rp p s o) = true := rfl
theorem cellsOf_rp (p s o : Nat) : cellsOf (.rp p s o) = [.rp p s o] := rfl
theorem rval_reg (q s : Nat) (l : List AV) : rval q (.reg s l) = .rp q s 0 := rfl
theorem next_mov (x : AOpd) : nextC (.mov x) c = c := rfl
theorem oper_mov (x : AOpd) : operA M dr call c (.mov x) t h = some (aev t x, t, h) := rfl
theorem next_pick (a x y : AOpd) : nextC (.pick a x y) c = c := rfl
theorem oper_pick (a x y : AOpd) : operA M dr call c (.pick a x y) t h = (match aev t a with | .bool true => some (aev t x, t, h) | .bool false => some (aev t y, t, h) | _ => none) := by
  simp only [operA, isMem, pureA, Bool.false_eq_true, if_false, Option.map_some]
  try (split <;> simp_all)
theorem next_nilchk (x : AOpd) : nextC (.nilchk x) c = c := rfl
theorem oper_nilchk (x : AOpd) : operA M dr call c (.nilchk x) t h = match pureA c (.nilchk x) t with | some v => some (v, t, h) | none => none := by
  simp only [operA, isMem, Bool.false_eq_true, if_false]; cases pureA c (.nilchk x) t <;> rfl
theorem next_bin (o : BinOp) (x y : AOpd) : nextC (.bin o x y) c = c := rfl
theorem oper_bin (o : BinOp) (x y : AOpd) : operA M dr call c (.bin o x y) t h = (match binA o (aev t x) (aev t y) with | some v => some (v, t, h) | none => none) := by
  simp only [operA, isMem, pureA, Bool.false_eq_true, if_false, Option.map_some]
  try (split <;> simp_all)
theorem next_eqv (n : Bool) (s : ESh) (x y : AOpd) : nextC (.eqv n s x y) c = c := rfl
theorem oper_eqv (n : Bool) (s : ESh) (x y : AOpd) : operA M dr call c (.eqv n s x y) t h = (match eqVal s (aev t x) (aev t y) with | some b => some (.bool (b != n), t, h) | none => none) := by
  simp only [operA, isMem, pureA, Bool.false_eq_true, if_false, Option.map_some]
  try (split <;> simp_all)
theorem next_un (o : UnOp) (x : AOpd) : nextC (.un o x) c = c := rfl
theorem oper_un (o : UnOp) (x : AOpd) : operA M dr call c (.un o x) t h = (match unA o (aev t x) with | some v => some (v, t, h) | none => none) := by
  simp only [operA, isMem, pureA, Bool.false_eq_true, if_false, Option.map_some]
  try (split <;> simp_all)
theorem next_conv (k : IntKind) (x : AOpd) : nextC (.conv k x) c = c := rfl
theorem oper_conv (k : IntKind) (x : AOpd) : operA M dr call c (.conv k x) t h = (match aev t x with | .int _ n => some (.int k (k.wrap n), t, h) | _ => none) := by
  simp only [operA, isMem, pureA, Bool.false_eq_true, if_false, Option.map_some]
  try (split <;> simp_all)
theorem next_strId (x : AOpd) : nextC (.strId x) c = c := rfl
theorem oper_strId (x : AOpd) : operA M dr call c (.strId x) t h = match pureA c (.strId x) t with | some v => some (v, t, h) | none => none := by
  simp only [operA, isMem, Bool.false_eq_true, if_false]; cases pureA c (.strId x) t <;> rfl
theorem next_mkfunc (f : FuncId) (l : List AOpd) : nextC (.mkfunc f l) c = c := rfl
theorem oper_mkfunc (f : FuncId) (l : List AOpd) : operA M dr call c (.mkfunc f l) t h = match pureA c (.mkfunc f l) t with | some v => some (v, t, h) | none => none := by
  simp only [operA, isMem, Bool.false_eq_true, if_false]; cases pureA c (.mkfunc f l) t <;> rfl
theorem next_build (z : List AV) (l : List (Nat × Nat × AOpd)) : nextC (.build z l) c = c := rfl
theorem oper_build (z : List AV) (l : List (Nat × Nat × AOpd)) : operA M dr call c (.build z l) t h = match pureA c (.build z l) t with | some v => some (v, t, h) | none => none := by
  simp only [operA, isMem, Bool.false_eq_true, if_false]; cases pureA c (.build z l) t <;> rfl
theorem next_bslice (g e n : Nat) (z : List AV) (l : List (Nat × Nat × AOpd)) : nextC (.bslice false g e n z l) c = c := rfl
theorem oper_bslice (g e n : Nat) (z : List AV) (l : List (Nat × Nat × AOpd)) : operA M dr call c (.bslice false g e n z l) t h = match pureA c (.bslice false g e n z l) t with | some v => some (v, t, h) | none => none := by
  simp only [operA, isMem, Bool.false_eq_true, if_false]; cases pureA c (.bslice false g e n z l) t <;> rfl
theorem next_sliceStr (x : AOpd) (lo hi : Option AOpd) : nextC (.sliceStr x lo hi) c = c := rfl
theorem oper_sliceStr (x : AOpd) (lo hi : Option AOpd) : operA M dr call c (.sliceStr x lo hi) t h = match pureA c (.sliceStr x lo hi) t with | some v => some (v, t, h) | none => none := by
  simp only [operA, isMem, Bool.false_eq_true, if_false]; cases pureA c (.sliceStr x lo hi) t <;> rfl
theorem next_sliceSl (e : Nat) (x : AOpd) (lo hi mx : Option AOpd) : nextC (.sliceSl e x lo hi mx) c = c := rfl
theorem oper_sliceSl (e : Nat) (x : AOpd) (lo hi mx : Option AOpd) : operA M dr call c (.sliceSl e x lo hi mx) t h = match pureA c (.sliceSl e x lo hi mx) t with | some v => some (v, t, h) | none => none := by
  simp only [operA, isMem, Bool.false_eq_true, if_false]; cases pureA c (.sliceSl e x lo hi mx) t <;> rfl
theorem next_fieldAddr (f : Nat) (x : AOpd) : nextC (.fieldAddr f x) c = c := rfl
theorem oper_fieldAddr (f : Nat) (x : AOpd) : operA M dr call c (.fieldAddr f x) t h = match pureA c (.fieldAddr f x) t with | some v => some (v, t, h) | none => none := by
  simp only [operA, isMem, Bool.false_eq_true, if_false]; cases pureA c (.fieldAddr f x) t <;> rfl
theorem next_field (a : Bool) (n f : Nat) (x : AOpd) : nextC (.field a n f x) c = c := rfl
theorem oper_field (a : Bool) (n f : Nat) (x : AOpd) : operA M dr call c (.field a n f x) t h = match pureA c (.field a n f x) t with | some v => some (v, t, h) | none => none := by
  simp only [operA, isMem, Bool.false_eq_true, if_false]; cases pureA c (.field a n f x) t <;> rfl
theorem next_idxArr (n e : Nat) (x i : AOpd) : nextC (.idxArr n e x i) c = c := rfl
theorem oper_idxArr (n e : Nat) (x i : AOpd) : operA M dr call c (.idxArr n e x i) t h = match pureA c (.idxArr n e x i) t with | some v => some (v, t, h) | none => none := by
  simp only [operA, isMem, Bool.false_eq_true, if_false]; cases pureA c (.idxArr n e x i) t <;> rfl
theorem next_idxSl (e : Nat) (x i : AOpd) : nextC (.idxSl e x i) c = c := rfl
theorem oper_idxSl (e : Nat) (x i : AOpd) : operA M dr call c (.idxSl e x i) t h = match pureA c (.idxSl e x i) t with | some v => some (v, t, h) | none => none := by
  simp only [operA, isMem, Bool.false_eq_true, if_false]; cases pureA c (.idxSl e x i) t <;> rfl
theorem next_idxAgg (a : Bool) (n e : Nat) (x i : AOpd) : nextC (.idxAgg a n e x i) c = c := rfl
theorem oper_idxAgg (a : Bool) (n e : Nat) (x i : AOpd) : operA M dr call c (.idxAgg a n e x i) t h = match pureA c (.idxAgg a n e x i) t with | some v => some (v, t, h) | none => none := by
  simp only [operA, isMem, Bool.false_eq_true, if_false]; cases pureA c (.idxAgg a n e x i) t <;> rfl
theorem next_idxStr (x i : AOpd) : nextC (.idxStr x i) c = c := rfl
theorem oper_idxStr (x i : AOpd) : operA M dr call c (.idxStr x i) t h = match pureA c (.idxStr x i) t with | some v => some (v, t, h) | none => none := by
  simp only [operA, isMem, Bool.false_eq_true, if_false]; cases pureA c (.idxStr x i) t <;> rfl
theorem next_extract (x : AOpd) (i : Nat) : nextC (.extract x i) c = c := rfl
theorem oper_extract (x : AOpd) (i : Nat) : operA M dr call c (.extract x i) t h = match pureA c (.extract x i) t with | some v => some (v, t, h) | none => none := by
  simp only [operA, isMem, Bool.false_eq_true, if_false]; cases pureA c (.extract x i) t <;> rfl
theorem next_len (x : AOpd) : nextC (.len x) c = c := rfl
theorem oper_len (x : AOpd) : operA M dr call c (.len x) t h = match pureA c (.len x) t with | some v => some (v, t, h) | none => none := by
  simp only [operA, isMem, Bool.false_eq_true, if_false]; cases pureA c (.len x) t <;> rfl
theorem next_lenS (x : AOpd) : nextC (.lenS x) c = c := rfl
theorem oper_lenS (x : AOpd) : operA M dr call c (.lenS x) t h = match pureA c (.lenS x) t with | some v => some (v, t, h) | none => none := by
  simp only [operA, isMem, Bool.false_eq_true, if_false]; cases pureA c (.lenS x) t <;> rfl
theorem next_cap (x : AOpd) : nextC (.cap x) c = c := rfl
theorem oper_cap (x : AOpd) : operA M dr call c (.cap x) t h = match pureA c (.cap x) t with | some v => some (v, t, h) | none => none := by
  simp only [operA, isMem, Bool.false_eq_true, if_false]; cases pureA c (.cap x) t <;> rfl
theorem next_mn (l : List AOpd) : nextC (.mn l) c = c := rfl
theorem oper_mn (l : List AOpd) : operA M dr call c (.mn l) t h = match pureA c (.mn l) t with | some v => some (v, t, h) | none => none := by
  simp only [operA, isMem, Bool.false_eq_true, if_false]; cases pureA c (.mn l) t <;> rfl
theorem next_mx (l : List AOpd) : nextC (.mx l) c = c := rfl
theorem oper_mx (l : List AOpd) : operA M dr call c (.mx l) t h = match pureA c (.mx l) t with | some v => some (v, t, h) | none => none := by
  simp only [operA, isMem, Bool.false_eq_true, if_false]; cases pureA c (.mx l) t <;> rfl
theorem next_allocR (g : Nat) (z : List AV) : nextC (.alloc true g z) c = c + 1 := rfl
theorem oper_allocR (g : Nat) (z : List AV) : operA M dr call c (.alloc true g z) t h = some (.reg c z, t, h) := rfl
theorem next_boxR (g : Nat) (x : AOpd) : nextC (.box true g x) c = c + 1 := rfl
theorem oper_boxR (g : Nat) (x : AOpd) : operA M dr call c (.box true g x) t h = match pureA c (.box true g x) t with | some v => some (v, t, h) | none => none := by
  simp only [operA, isMem, Bool.false_eq_true, if_false]; cases pureA c (.box true g x) t <;> rfl
theorem next_allocF (g : Nat) (z : List AV) : nextC (.alloc false g z) c = c := rfl
theorem oper_allocF (g : Nat) (z : List AV) : operA M dr call c (.alloc false g z) t h = memA (.alloc false g z) t h := rfl
theorem next_boxF (g : Nat) (x : AOpd) : nextC (.box false g x) c = c := rfl
theorem oper_boxF (g : Nat) (x : AOpd) : operA M dr call c (.box false g x) t h = memA (.box false g x) t h := rfl
theorem next_bsliceT (g e n : Nat) (z : List AV) (l : List (Nat × Nat × AOpd)) : nextC (.bslice true g e n z l) c = c := rfl
theorem oper_bsliceT (g e n : Nat) (z : List AV) (l : List (Nat × Nat × AOpd)) : operA M dr call c (.bslice true g e n z l) t h = memA (.bslice true g e n z l) t h := rfl
theorem next_load (tg : Tg) (a : Bool) (n : Nat) (x : AOpd) : nextC (.load tg a n x) c = c := rfl
theorem oper_load (tg : Tg) (a : Bool) (n : Nat) (x : AOpd) : operA M dr call c (.load tg a n x) t h = memA (.load tg a n x) t h := rfl
theorem next_store (tg : Tg) (n : Nat) (x y : AOpd) : nextC (.store tg n x y) c = c := rfl
theorem oper_store (tg : Tg) (n : Nat) (x y : AOpd) : operA M dr call c (.store tg n x y) t h = memA (.store tg n x y) t h := rfl
theorem next_strOf (x : AOpd) : nextC (.strOf x) c = c := rfl
theorem oper_strOf (x : AOpd) : operA M dr call c (.strOf x) t h = memA (.strOf x) t h := rfl
theorem next_mkmap  : nextC (.mkmap) c = c := rfl
theorem oper_mkmap  : operA M dr call c (.mkmap) t h = memA (.mkmap) t h := rfl
theorem next_mkslice (g e b : Nat) (z : List AV) (l k : AOpd) : nextC (.mkslice g e b z l k) c = c := rfl
theorem oper_mkslice (g e b : Nat) (z : List AV) (l k : AOpd) : operA M dr call c (.mkslice g e b z l k) t h = memA (.mkslice g e b z l k) t h := rfl
theorem next_sliceArr (n e : Nat) (x : AOpd) (lo hi mx : Option AOpd) : nextC (.sliceArr n e x lo hi mx) c = c := rfl
theorem oper_sliceArr (n e : Nat) (x : AOpd) (lo hi mx : Option AOpd) : operA M dr call c (.sliceArr n e x lo hi mx) t h = memA (.sliceArr n e x lo hi mx) t h := rfl
theorem next_lookup (z : AV) (s : ESh) (o : Bool) (x i : AOpd) : nextC (.lookup z s o x i) c = c := rfl
theorem oper_lookup (z : AV) (s : ESh) (o : Bool) (x i : AOpd) : operA M dr call c (.lookup z s o x i) t h = memA (.lookup z s o x i) t h := rfl
theorem next_mapSet (s : ESh) (x k v : AOpd) : nextC (.mapSet s x k v) c = c := rfl
theorem oper_mapSet (s : ESh) (x k v : AOpd) : operA M dr call c (.mapSet s x k v) t h = memA (.mapSet s x k v) t h := rfl
theorem next_lenM (x : AOpd) : nextC (.lenM x) c = c := rfl
theorem oper_lenM (x : AOpd) : operA M dr call c (.lenM x) t h = memA (.lenM x) t h := rfl
theorem next_append (g e b : Nat) (s x : AOpd) : nextC (.append g e b s x) c = c := rfl
theorem oper_append (g e b : Nat) (s x : AOpd) : operA M dr call c (.append g e b s x) t h = memA (.append g e b s x) t h := rfl
theorem next_copy (e : Nat) (d s : AOpd) : nextC (.copy e d s) c = c := rfl
theorem oper_copy (e : Nat) (d s : AOpd) : operA M dr call c (.copy e d s) t h = memA (.copy e d s) t h := rfl
theorem next_call (f : FuncId) (l : List AOpd) : nextC (.call f l) c = c := rfl
theorem next_callv (x : AOpd) (l : List AOpd) : nextC (.callv x l) c = c := rfl
theorem oper_call (f : FuncId) (l : List AOpd) : operA M dr call c (.call f l) t h = if (argsA t l).all keeps && (!dr || M.mode f == .shared || M.mode f == .fresh || noRefs (argsA t l)) then (match call f (argsA t l) h with | some r => some (r.1, t, r.2) | none => none) else none := by
  simp only [operA]
  split
  · cases call f (argsA t l) h <;> rfl
  · rfl
theorem oper_callv (x : AOpd) (l : List AOpd) : operA M dr call c (.callv x l) t h = match aev t x with | .func f caps => if (argsA t l).all keeps && !dr then (match call f (argsA t l ++ caps) h with | some r => some (r.1, t, r.2) | none => none) else none | _ => none := by
  simp only [operA]
  cases aev t x <;> try rfl
  rename_i f caps
  simp only
  split
  · cases call f (argsA t l ++ caps) h <;> rfl
  · rfl
end
-- R tget_nil tget_zero tget_succ tget_tset aev_t aev_c ops_nil ops_cons op_none op_guard gd_t gd_f put_some put_none yield_def rval_bool keeps_bool oneCell_bool cellsOf_bool rval_int keeps_int oneCell_int cellsOf_int rval_str keeps_str oneCell_str cellsOf_str rval_nilp keeps_nilp oneCell_nilp cellsOf_nilp rval_ptr keeps_ptr oneCell_ptr cellsOf_ptr rval_pp keeps_pp oneCell_pp cellsOf_pp rval_nils keeps_nils oneCell_nils cellsOf_nils rval_sl keeps_sl oneCell_sl cellsOf_sl rval_ps keeps_ps oneCell_ps cellsOf_ps rval_nilm keeps_nilm oneCell_nilm cellsOf_nilm rval_mp keeps_mp oneCell_mp cellsOf_mp rval_func keeps_func oneCell_func cellsOf_func rval_nilf keeps_nilf oneCell_nilf cellsOf_nilf rval_iface keeps_iface oneCell_iface cellsOf_iface rval_nili keeps_nili oneCell_nili cellsOf_nili rval_agg keeps_agg oneCell_agg cellsOf_agg rval_tuple keeps_tuple oneCell_tuple cellsOf_tuple rval_rp keeps_rp oneCell_rp cellsOf_rp rval_reg next_mov oper_mov next_pick oper_pick next_nilchk oper_nilchk next_bin oper_bin next_eqv oper_eqv next_un oper_un next_conv oper_conv next_strId oper_strId next_mkfunc oper_mkfunc next_build oper_build next_bslice oper_bslice next_sliceStr oper_sliceStr next_sliceSl oper_sliceSl next_fieldAddr oper_fieldAddr next_field oper_field next_idxArr oper_idxArr next_idxSl oper_idxSl next_idxAgg oper_idxAgg next_idxStr oper_idxStr next_extract oper_extract next_len oper_len next_lenS oper_lenS next_cap oper_cap next_mn oper_mn next_mx oper_mx next_allocR oper_allocR next_boxR oper_boxR next_allocF oper_allocF next_boxF oper_boxF next_bsliceT oper_bsliceT next_load oper_load next_store oper_store next_strOf oper_strOf next_mkmap oper_mkmap next_mkslice oper_mkslice next_sliceArr oper_sliceArr next_lookup oper_lookup next_mapSet oper_mapSet next_lenM oper_lenM next_append oper_append next_copy oper_copy next_call next_callv oper_call oper_callv
end Go.Abs.S

/- The operations as functions of values. Printed by mkv.py out of the abstract machine's definitions. -/
namespace Go.Abs.S
def V_nilchk (x : AV) : Option AV :=
    match x with
    | .ptr b ver off => some (.ptr b ver off)
    | .pp cells => some (.pp cells)
    | .rp p st off => some (.rp p st off)
    | .func f caps => some (.func f caps)
    | _ => none
theorem p_nilchk (c : Nat) (ts : List AV) (x : AOpd) : pureA c (.nilchk x) ts = V_nilchk (aev ts x) := by first | rfl | (cases mx <;> rfl)
def V_strId (x : AV) : Option AV :=
    match x with
    | .str s => some (.str s)
    | _ => none
theorem p_strId (c : Nat) (ts : List AV) (x : AOpd) : pureA c (.strId x) ts = V_strId (aev ts x) := by first | rfl | (cases mx <;> rfl)
def V_sliceStr (x : AV) (lo : Option AV) (hi : Option AV) : Option AV :=
    match x with
    | .str s =>
      match sliceBoundsA s.length (some s.length) lo hi none with
      | some (l, r, _) => some (.str ((s.take r).drop l))
      | none => none
    | _ => none
theorem p_sliceStr (c : Nat) (ts : List AV) (x : AOpd) (lo : Option AOpd) (hi : Option AOpd) : pureA c (.sliceStr x lo hi) ts = V_sliceStr (aev ts x) (lo.map (aev ts)) (hi.map (aev ts)) := by first | rfl | (cases mx <;> rfl)
def V_sliceSl (esz : Nat) (x : AV) (lo : Option AV) (hi : Option AV) (mx : Option AV) : Option AV :=
    match x with
    | .nils =>
      match sliceBoundsA 0 (some 0) lo hi mx with
      | some _ => some .nils
      | none => none
    | .sl b ver off len esz' cap =>
      if esz' = esz then
        match sliceBoundsA len cap lo hi mx with
        | some (l, r, c) => some (.sl b ver (off + l * esz) (r - l) esz c)
        | none => none
      else none
    | .ps cells len cap =>
      match sliceBoundsA len none lo hi mx with
      | some (l, r, c) =>
        if len * esz ≤ cells.length then
          some (.ps ((cells.drop (l * esz)).take ((r - l) * esz)) (r - l) (if mx.isSome then c else cap.map (· - l)))
        else none
      | none => none
    | _ => none
theorem p_sliceSl (c : Nat) (ts : List AV) (esz : Nat) (x : AOpd) (lo : Option AOpd) (hi : Option AOpd) (mx : Option AOpd) : pureA c (.sliceSl esz x lo hi mx) ts = V_sliceSl esz (aev ts x) (lo.map (aev ts)) (hi.map (aev ts)) (mx.map (aev ts)) := by first | rfl | (cases mx <;> rfl)
def V_fieldAddr (off : Nat) (x : AV) : Option AV :=
    match x with
    | .ptr b ver o => some (.ptr b ver (o + off))
    | .rp p st o => some (.rp p st (o + off))
    | .pp cells => some (.pp (cells.drop off))
    | _ => none
theorem p_fieldAddr (c : Nat) (ts : List AV) (off : Nat) (x : AOpd) : pureA c (.fieldAddr off x) ts = V_fieldAddr off (aev ts x) := by first | rfl | (cases mx <;> rfl)
def V_field (isAgg : Bool) (n : Nat) (off : Nat) (x : AV) : Option AV :=
    match x with
    | .agg cells => loadA isAgg n (cells.drop off)
    | _ => none
theorem p_field (c : Nat) (ts : List AV) (isAgg : Bool) (n : Nat) (off : Nat) (x : AOpd) : pureA c (.field isAgg n off x) ts = V_field isAgg n off (aev ts x) := by first | rfl | (cases mx <;> rfl)
def V_idxArr (len : Nat) (esz : Nat) (x : AV) (i : AV) : Option AV :=
    match i with
    | .int _ j =>
      if 0 ≤ j ∧ j < len then
        match x with
        | .ptr b ver o => some (.ptr b ver (o + j.toNat * esz))
        | .rp p st o => some (.rp p st (o + j.toNat * esz))
        | .pp cells => some (.pp (cells.drop (j.toNat * esz)))
        | _ => none
      else none
    | _ => none
theorem p_idxArr (c : Nat) (ts : List AV) (len : Nat) (esz : Nat) (x : AOpd) (i : AOpd) : pureA c (.idxArr len esz x i) ts = V_idxArr len esz (aev ts x) (aev ts i) := by first | rfl | (cases mx <;> rfl)
def V_idxSl (esz : Nat) (x : AV) (i : AV) : Option AV :=
    match i with
    | .int _ j =>
      match x with
      | .sl b ver off len esz' _ => if 0 ≤ j ∧ j < len ∧ esz' = esz then some (.ptr b ver (off + j.toNat * esz)) else none
      | .ps cells len _ => if 0 ≤ j ∧ j < len then some (.pp (cells.drop (j.toNat * esz))) else none
      | _ => none
    | _ => none
theorem p_idxSl (c : Nat) (ts : List AV) (esz : Nat) (x : AOpd) (i : AOpd) : pureA c (.idxSl esz x i) ts = V_idxSl esz (aev ts x) (aev ts i) := by first | rfl | (cases mx <;> rfl)
def V_idxAgg (isAgg : Bool) (len : Nat) (esz : Nat) (x : AV) (i : AV) : Option AV :=
    match i with
    | .int _ j =>
      match x with
      | .agg cells => if 0 ≤ j ∧ j < len then loadA isAgg esz (cells.drop (j.toNat * esz)) else none
      | _ => none
    | _ => none
theorem p_idxAgg (c : Nat) (ts : List AV) (isAgg : Bool) (len : Nat) (esz : Nat) (x : AOpd) (i : AOpd) : pureA c (.idxAgg isAgg len esz x i) ts = V_idxAgg isAgg len esz (aev ts x) (aev ts i) := by first | rfl | (cases mx <;> rfl)
def V_idxStr (x : AV) (i : AV) : Option AV :=
    match i with
    | .int _ j =>
      match x with
      | .str s =>
        if 0 ≤ j then
          match s[j.toNat]? with
          | some b => some (.int .u8 b.toNat)
          | none => none
        else none
      | _ => none
    | _ => none
theorem p_idxStr (c : Nat) (ts : List AV) (x : AOpd) (i : AOpd) : pureA c (.idxStr x i) ts = V_idxStr (aev ts x) (aev ts i) := by first | rfl | (cases mx <;> rfl)
def V_extract (x : AV) (i : Nat) : Option AV :=
    match x with
    | .tuple vs => vs[i]?
    | _ => none
theorem p_extract (c : Nat) (ts : List AV) (x : AOpd) (i : Nat) : pureA c (.extract x i) ts = V_extract (aev ts x) i := by first | rfl | (cases mx <;> rfl)
def V_lenS (x : AV) : Option AV :=
    match x with
    | .str s => some (.int .i64 s.length)
    | _ => none
theorem p_lenS (c : Nat) (ts : List AV) (x : AOpd) : pureA c (.lenS x) ts = V_lenS (aev ts x) := by first | rfl | (cases mx <;> rfl)
def V_len (x : AV) : Option AV :=
    match x with
    | .nils => some (.int .i64 0)
    | .sl _ _ _ len _ _ => some (.int .i64 len)
    | .ps _ len _ => some (.int .i64 len)
    | _ => none
theorem p_len (c : Nat) (ts : List AV) (x : AOpd) : pureA c (.len x) ts = V_len (aev ts x) := by first | rfl | (cases mx <;> rfl)
def V_cap (x : AV) : Option AV :=
    match x with
    | .nils => some (.int .i64 0)
    | .sl _ _ _ _ _ (some c) => some (.int .i64 c)
    | .ps _ _ (some c) => some (.int .i64 c)
    | _ => none
theorem p_cap (c : Nat) (ts : List AV) (x : AOpd) : pureA c (.cap x) ts = V_cap (aev ts x) := by first | rfl | (cases mx <;> rfl)
def V_load (ts : List AV) (h : AHeap) (tg : Tg) (isAgg : Bool) (n : Nat) (a : AV) : Option (AV × List AV × AHeap) := (loadOf tg isAgg n ts h a).map (·, ts, h)
theorem m_load (ts : List AV) (h : AHeap) (tg : Tg) (isAgg : Bool) (n : Nat) (a : AOpd) : memA (.load tg isAgg n a) ts h = V_load ts h tg isAgg n (aev ts a) := rfl
def V_store (ts : List AV) (h : AHeap) (tg : Tg) (n : Nat) (a : AV) (v : AV) : Option (AV × List AV × AHeap) :=
    let vs := cellsOf v
    if vs.length = n ∧ vs.all (fun x => oneCell x && keeps x) then
      match a with
      | .rp p st off =>
        match tget ts p with
        | .reg st' cells =>
          if st = st' ∧ tgReg tg p ∧ off + n ≤ cells.length then some (undefA, tset ts p (.reg st (cells.take off ++ vs ++ cells.drop (off + n))), h) else none
        | _ => none
      | .ptr b ver off =>
        match rowAt h b ver with
        | some (fz, tag, cells) =>
          if tgOk tg tag ∧ off + n ≤ cells.length ∧ fz ≤ off then some (undefA, ts, h.set b (.row ver fz tag (cells.take off ++ vs ++ cells.drop (off + n)))) else none
        | none => none
      | _ => none
    else none
theorem m_store (ts : List AV) (h : AHeap) (tg : Tg) (n : Nat) (a : AOpd) (v : AOpd) : memA (.store tg n a v) ts h = V_store ts h tg n (aev ts a) (aev ts v) := rfl
def V_strOf (ts : List AV) (h : AHeap) (x : AV) : Option (AV × List AV × AHeap) :=
    match x with
    | .nils => some (.str [], ts, h)
    | .ps cells len _ => if cells.length = len then (bytesIn cells).map fun s => (.str s, ts, h) else none
    | .sl b ver off len 1 _ =>
      match rowAt h b ver with
      | some (_, _, cells) => if off + len ≤ cells.length then (bytesIn ((cells.drop off).take len)).map fun s => (.str s, ts, h) else none
      | none => none
    | _ => none
theorem m_strOf (ts : List AV) (h : AHeap) (x : AOpd) : memA (.strOf x) ts h = V_strOf ts h (aev ts x) := rfl
def V_mkslice (ts : List AV) (h : AHeap) (tag : Nat) (esz : Nat) (bytes : Nat) (zero : List AV) (len : AV) (cap : AV) : Option (AV × List AV × AHeap) :=
    match len, cap with
    | .int .i64 l, .int .i64 c =>
      if 0 ≤ l ∧ l ≤ c ∧ c * bytes ≤ 140737488355328 ∧ c ≤ 9223372036854775807 then
        some (.sl h.length 0 0 l.toNat esz (some c.toNat), ts, h ++ [.row 0 0 tag (reps c.toNat zero)])
      else none
    | _, _ => none
theorem m_mkslice (ts : List AV) (h : AHeap) (tag : Nat) (esz : Nat) (bytes : Nat) (zero : List AV) (len : AOpd) (cap : AOpd) : memA (.mkslice tag esz bytes zero len cap) ts h = V_mkslice ts h tag esz bytes zero (aev ts len) (aev ts cap) := rfl
def V_sliceArr (ts : List AV) (h : AHeap) (n : Nat) (esz : Nat) (x : AV) (lo : Option AV) (hi : Option AV) (mx : Option AV) : Option (AV × List AV × AHeap) :=
    match sliceBoundsA n (some n) lo hi mx with
    | some (l, r, c) =>
      match x with
      | .ptr b ver off =>
        match rowAt h b ver with
        | some (_, _, cells) => if off + n * esz ≤ cells.length then some (.sl b ver (off + l * esz) (r - l) esz c, ts, h) else none
        | none => none
      | .pp cells => if n * esz ≤ cells.length then some (.ps ((cells.drop (l * esz)).take ((r - l) * esz)) (r - l) c, ts, h) else none
      | _ => none
    | none => none
theorem m_sliceArr (ts : List AV) (h : AHeap) (n : Nat) (esz : Nat) (x : AOpd) (lo : Option AOpd) (hi : Option AOpd) (mx : Option AOpd) : memA (.sliceArr n esz x lo hi mx) ts h = V_sliceArr ts h n esz (aev ts x) (lo.map (aev ts)) (hi.map (aev ts)) (mx.map (aev ts)) := rfl
def V_lookup (ts : List AV) (h : AHeap) (zero : AV) (sh : ESh) (ok : Bool) (x : AV) (i : AV) : Option (AV × List AV × AHeap) :=
    match x with
    | .nilm => (lookA zero sh ok i []).map (·, ts, h)
    | .mp b =>
      match h.getD b .dead with
      | .map es => (lookA zero sh ok i es).map (·, ts, h)
      | _ => none
    | _ => none
theorem m_lookup (ts : List AV) (h : AHeap) (zero : AV) (sh : ESh) (ok : Bool) (x : AOpd) (i : AOpd) : memA (.lookup zero sh ok x i) ts h = V_lookup ts h zero sh ok (aev ts x) (aev ts i) := rfl
def V_mapSet (ts : List AV) (h : AHeap) (sh : ESh) (m : AV) (k : AV) (v : AV) : Option (AV × List AV × AHeap) :=
    match m with
    | .mp b =>
      match h.getD b .dead with
      | .map es =>
        if keyOk sh k && keeps v then
          match findA sh k es 0 with
          | some (some (i, _)) =>
            if sameKey (es.getD i (undefA, undefA)).1 k then some (undefA, ts, h.set b (.map (es.set i (k, v)))) else none
          | some none => some (undefA, ts, h.set b (.map (es ++ [(k, v)])))
          | none => none
        else none
      | _ => none
    | _ => none
theorem m_mapSet (ts : List AV) (h : AHeap) (sh : ESh) (m : AOpd) (k : AOpd) (v : AOpd) : memA (.mapSet sh m k v) ts h = V_mapSet ts h sh (aev ts m) (aev ts k) (aev ts v) := rfl
def V_lenM (ts : List AV) (h : AHeap) (x : AV) : Option (AV × List AV × AHeap) :=
    match x with
    | .nilm => some (.int .i64 0, ts, h)
    | .mp b =>
      match h.getD b .dead with
      | .map es => some (.int .i64 es.length, ts, h)
      | _ => none
    | _ => none
theorem m_lenM (ts : List AV) (h : AHeap) (x : AOpd) : memA (.lenM x) ts h = V_lenM ts h (aev ts x) := rfl
def V_append (ts : List AV) (h : AHeap) (tag : Nat) (esz : Nat) (bytes : Nat) (s : AV) (x : AV) : Option (AV × List AV × AHeap) :=
    if xTag tag h x = false then none else
    match moreA esz h x with
    | none => none
    | some (m, news) =>
      if news.all oneCell = true ∧ m ≤ 9223372036854775807 then
        match s with
        | .nils =>
          if m * bytes ≤ 140737488355328 then
            if m = 0 then some (.nils, ts, h) else some (.sl h.length 0 0 m esz none, ts, h ++ [.row 0 0 tag news])
          else none
        | .ps cells n cap =>
          match cap with
          | none => none
          | some c =>
            if (n + m) * bytes ≤ 140737488355328 ∧ n + m ≤ 9223372036854775807 ∧ n * esz ≤ cells.length then
              if m = 0 then some (.ps cells n cap, ts, h)
              else if c < n + m then some (.sl h.length 0 0 (n + m) esz none, ts, h ++ [.row 0 0 tag (cells.take (n * esz) ++ news)])
              else none
            else none
        | .sl b ver off n esz' cap =>
          match rowAt h b ver with
          | some (fz, tag', cells) =>
            if (n + m) * bytes ≤ 140737488355328 ∧ n + m ≤ 9223372036854775807 ∧ esz' = esz ∧ tag' = tag ∧ off + n * esz ≤ cells.length ∧ fz ≤ off + n * esz then
              if m = 0 then some (.sl b ver off n esz cap, ts, h)
              else some (.sl b (ver + 1) 0 (n + m) esz none, ts, h.set b (.row (ver + 1) (fz - off) tag ((cells.drop off).take (n * esz) ++ news)))
            else none
          | none => none
        | _ => none
      else none
theorem m_append (ts : List AV) (h : AHeap) (tag : Nat) (esz : Nat) (bytes : Nat) (s : AOpd) (x : AOpd) : memA (.append tag esz bytes s x) ts h = V_append ts h tag esz bytes (aev ts s) (aev ts x) := rfl
def V_copy (ts : List AV) (h : AHeap) (esz : Nat) (d : AV) (s : AV) : Option (AV × List AV × AHeap) :=
    match d with
    | .sl b ver off n esz' _ =>
      match moreA esz h s with
      | some (m, from_) =>
        match rowAt h b ver with
        | some (fz, tag, cells) =>
          if esz' = esz ∧ fz ≤ off ∧ min m n * esz ≤ from_.length ∧ off + min m n * esz ≤ cells.length ∧ from_.all oneCell then
            some (.int .i64 (min m n : Nat), ts, h.set b (.row ver fz tag (cells.take off ++ from_.take (min m n * esz) ++ cells.drop (off + min m n * esz))))
          else none
        | none => none
      | none => none
    | .nils => if (moreA esz h s).isSome then some (.int .i64 0, ts, h) else none
    | _ => none
theorem m_copy (ts : List AV) (h : AHeap) (esz : Nat) (d : AOpd) (s : AOpd) : memA (.copy esz d s) ts h = V_copy ts h esz (aev ts d) (aev ts s) := rfl
-- R p_nilchk p_strId p_sliceStr p_sliceSl p_fieldAddr p_field p_idxArr p_idxSl p_idxAgg p_idxStr p_extract p_lenS p_len p_cap m_load m_store m_strOf m_mkslice m_sliceArr m_lookup m_mapSet m_lenM m_append m_copy
end Go.Abs.S

/- Values of operations, as rules for simp. -/
namespace Go.Abs.S

/-! ### numbers -/
theorem dec_lt {a b : Int} (h : a < b) : decide (a < b) = true := decide_eq_true h
theorem dec_nlt {a b : Int} (h : b ≤ a) : decide (a < b) = false := decide_eq_false (by omega)
theorem dec_le {a b : Int} (h : a ≤ b) : decide (a ≤ b) = true := decide_eq_true h
theorem dec_nle {a b : Int} (h : b < a) : decide (a ≤ b) = false := decide_eq_false (by omega)
theorem dec_eq {a b : Int} (h : a = b) : decide (a = b) = true := decide_eq_true h
theorem dec_ne {a b : Int} (h : a < b ∨ b < a) : decide (a = b) = false := decide_eq_false (by omega)
theorem cast0 : ((0 : Nat) : Int) = 0 := rfl
theorem cast1 : ((1 : Nat) : Int) = 1 := rfl
theorem cast_add (a b : Nat) : (a : Int) + (b : Int) = ((a + b : Nat) : Int) := by omega
theorem cast_add1 (a : Nat) : (a : Int) + 1 = ((a + 1 : Nat) : Int) := by omega
theorem cast_add2 (a : Nat) : (a : Int) + 2 = ((a + 2 : Nat) : Int) := by omega
theorem cast_add3 (a : Nat) : (a : Int) + 3 = ((a + 3 : Nat) : Int) := by omega
theorem cast_sub {a b : Nat} (h : b ≤ a) : (a : Int) - (b : Int) = ((a - b : Nat) : Int) := by omega
theorem cast_sub1 {a : Nat} (h : 1 ≤ a) : (a : Int) - 1 = ((a - 1 : Nat) : Int) := by omega
theorem cast_mul (a b : Nat) : (a : Int) * (b : Int) = ((a * b : Nat) : Int) := by simp
-- R cast0 cast1 cast_add cast_add1 cast_add2 cast_add3 cast_sub cast_sub1 cast_mul
-- R dec_lt dec_nlt dec_le dec_nle dec_eq dec_ne
theorem wrap_i64 {n : Int} (h1 : -9223372036854775808 ≤ n) (h2 : n ≤ 9223372036854775807) : IntKind.wrap .i64 n = n := by
  show (if (true && decide (n % 18446744073709551616 ≥ 9223372036854775808)) = true then n % 18446744073709551616 - 18446744073709551616 else n % 18446744073709551616) = n
  by_cases h : n % 18446744073709551616 ≥ 9223372036854775808
  · rw [if_pos (by simpa using h)]; omega
  · rw [if_neg (by simpa using h)]; omega
theorem wrap_u8 {n : Int} (h1 : 0 ≤ n) (h2 : n < 256) : IntKind.wrap .u8 n = n := by
  simp only [IntKind.wrap, IntKind.bits, IntKind.signed, Bool.false_and, Bool.false_eq_true, if_false]
  omega
theorem wrap_u64 {n : Int} (h1 : 0 ≤ n) (h2 : n < 18446744073709551616) : IntKind.wrap .u64 n = n := by
  simp only [IntKind.wrap, IntKind.bits, IntKind.signed, Bool.false_and, Bool.false_eq_true, if_false]
  omega
theorem wrap_u64_bv (x : BitVec 64) : IntKind.wrap .u64 (x.toNat : Int) = x.toNat := wrap_u64 (by omega) (by have := x.isLt; omega)
theorem wrap_u8_8 (x : UInt8) : IntKind.wrap .u8 (x.toNat : Int) = x.toNat := wrap_u8 (by omega) (by have := x.toNat_lt; omega)
theorem wrap_i64_8 (x : UInt8) : IntKind.wrap .i64 (x.toNat : Int) = x.toNat := wrap_i64 (by omega) (by have := x.toNat_lt; omega)
-- R wrap_i64 wrap_u8 wrap_u64 wrap_u64_bv wrap_u8_8 wrap_i64_8

section
variable (k : IntKind) (a b : Int)
theorem b_add : binA .add (.int k a) (.int k b) = some (.int k (k.wrap (a + b))) := by simp [binA]
theorem b_sub : binA .sub (.int k a) (.int k b) = some (.int k (k.wrap (a - b))) := by simp [binA]
theorem b_mul : binA .mul (.int k a) (.int k b) = some (.int k (k.wrap (a * b))) := by simp [binA]
theorem b_quo : binA .quo (.int k a) (.int k b) = if b = 0 then none else some (.int k (k.wrap (a.tdiv b))) := by simp [binA]
theorem b_rem : binA .rem (.int k a) (.int k b) = if b = 0 then none else some (.int k (a.tmod b)) := by simp [binA]
theorem b_eql : binA .eql (.int k a) (.int k b) = some (.bool (decide (a = b))) := by
  simp only [binA, if_true]; congr 2
theorem b_neq : binA .neq (.int k a) (.int k b) = some (.bool (!decide (a = b))) := by
  simp only [binA, if_true]; congr 2
theorem b_lss : binA .lss (.int k a) (.int k b) = some (.bool (decide (a < b))) := by simp [binA]
theorem b_leq : binA .leq (.int k a) (.int k b) = some (.bool (decide (a ≤ b))) := by simp [binA]
theorem b_gtr : binA .gtr (.int k a) (.int k b) = some (.bool (decide (b < a))) := by simp [binA]
theorem b_geq : binA .geq (.int k a) (.int k b) = some (.bool (decide (b ≤ a))) := by simp [binA]
end
theorem bi_add (a b : Int) : binA .add (.int .i64 a) (.int .i64 b) = some (.int .i64 (IntKind.wrap .i64 (a + b))) := b_add _ _ _
theorem bi_sub (a b : Int) : binA .sub (.int .i64 a) (.int .i64 b) = some (.int .i64 (IntKind.wrap .i64 (a - b))) := b_sub _ _ _
theorem bi_mul (a b : Int) : binA .mul (.int .i64 a) (.int .i64 b) = some (.int .i64 (IntKind.wrap .i64 (a * b))) := b_mul _ _ _
theorem bb_add (a b : Int) : binA .add (.int .u8 a) (.int .u8 b) = some (.int .u8 (IntKind.wrap .u8 (a + b))) := b_add _ _ _
theorem bb_sub (a b : Int) : binA .sub (.int .u8 a) (.int .u8 b) = some (.int .u8 (IntKind.wrap .u8 (a - b))) := b_sub _ _ _
-- R bi_add bi_sub bi_mul bb_add bb_sub b_quo b_rem b_eql b_neq b_lss b_leq b_gtr b_geq

theorem tdiv_64 (n : Nat) : Int.tdiv (n : Int) 64 = ((n / 64 : Nat) : Int) := rfl
theorem tmod_64 (n : Nat) : Int.tmod (n : Int) 64 = ((n % 64 : Nat) : Int) := rfl
theorem tdiv_10 (n : Nat) : Int.tdiv (n : Int) 10 = ((n / 10 : Nat) : Int) := rfl
theorem tmod_10 (n : Nat) : Int.tmod (n : Int) 10 = ((n % 10 : Nat) : Int) := rfl
theorem tdiv_2 (n : Nat) : Int.tdiv (n : Int) 2 = ((n / 2 : Nat) : Int) := rfl
theorem tmod_2 (n : Nat) : Int.tmod (n : Int) 2 = ((n % 2 : Nat) : Int) := rfl
theorem tdiv_16 (n : Nat) : Int.tdiv (n : Int) 16 = ((n / 16 : Nat) : Int) := rfl
theorem tmod_16 (n : Nat) : Int.tmod (n : Int) 16 = ((n % 16 : Nat) : Int) := rfl
theorem tdiv_8 (n : Nat) : Int.tdiv (n : Int) 8 = ((n / 8 : Nat) : Int) := rfl
theorem tmod_8 (n : Nat) : Int.tmod (n : Int) 8 = ((n % 8 : Nat) : Int) := rfl
theorem tdiv_4 (n : Nat) : Int.tdiv (n : Int) 4 = ((n / 4 : Nat) : Int) := rfl
theorem tmod_4 (n : Nat) : Int.tmod (n : Int) 4 = ((n % 4 : Nat) : Int) := rfl
-- R tdiv_64 tmod_64 tdiv_10 tmod_10 tdiv_2 tmod_2 tdiv_16 tmod_16 tdiv_8 tmod_8 tdiv_4 tmod_4

section
variable (x y : BitVec 64)
theorem ofInt_bv : BitVec.ofInt 64 (x.toNat : Int) = x := by
  rw [BitVec.ofInt_natCast, BitVec.ofNat_toNat, BitVec.setWidth_eq]
theorem b_or : binA .or (.int .u64 x.toNat) (.int .u64 y.toNat) = some (.int .u64 (x ||| y).toNat) := by
  simp only [binA, if_true, IntKind.bits, ofInt_bv, wrap_u64_bv]; rfl
theorem b_and : binA .and (.int .u64 x.toNat) (.int .u64 y.toNat) = some (.int .u64 (x &&& y).toNat) := by
  simp only [binA, if_true, IntKind.bits, ofInt_bv, wrap_u64_bv]; rfl
theorem b_and1 : binA .and (.int .u64 x.toNat) (.int .u64 1) = some (.int .u64 (x &&& 1#64).toNat) := b_and x 1#64
theorem u_not64 : unA .xor (.int .u64 x.toNat) = some (.int .u64 (~~~x).toNat) := by
  have h1 : BitVec.ofInt 64 18446744073709551615 = BitVec.allOnes 64 := by decide
  show some (AV.int .u64 (IntKind.wrap .u64 ((BitVec.ofInt 64 18446744073709551615 ^^^ BitVec.ofInt 64 (x.toNat : Int)).toNat : Int))) = _
  rw [h1, ofInt_bv, BitVec.allOnes_xor, wrap_u64_bv]
theorem b_add64 : binA .add (.int .u64 x.toNat) (.int .u64 y.toNat) = some (.int .u64 (x + y).toNat) := by
  rw [b_add]
  refine congrArg (fun n : Int => some (AV.int .u64 n)) ?_
  show ((x.toNat : Int) + y.toNat) % 18446744073709551616 = _
  rw [BitVec.toNat_add]
  omega
theorem b_sub64 : binA .sub (.int .u64 x.toNat) (.int .u64 y.toNat) = some (.int .u64 (x - y).toNat) := by
  rw [b_sub]
  refine congrArg (fun n : Int => some (AV.int .u64 n)) ?_
  show ((x.toNat : Int) - y.toNat) % 18446744073709551616 = _
  rw [BitVec.toNat_sub]
  have := x.isLt
  have := y.isLt
  omega
theorem b_sub641 : binA .sub (.int .u64 x.toNat) (.int .u64 1) = some (.int .u64 (x - 1#64).toNat) := b_sub64 x 1#64
theorem b_shl (k : IntKind) (n : Nat) : binA .shl (.int .u64 x.toNat) (.int k n) = some (.int .u64 (x <<< n).toNat) := by
  have h0 : ¬ ((n : Int) < 0) := by omega
  simp only [binA, if_neg h0, IntKind.bits, Int.toNat_natCast]
  congr 2
  have h1 : ((x.toNat : Int) * 2 ^ (min n 64)) = ((x.toNat * 2 ^ (min n 64) : Nat) : Int) := by push_cast; rfl
  rw [h1]
  have h2 : ∀ m : Nat, IntKind.wrap .u64 (m : Int) = ((m % 2 ^ 64 : Nat) : Int) := fun m => by
    simp only [IntKind.wrap, IntKind.bits, IntKind.signed]
    simp
  rw [h2, BitVec.toNat_shiftLeft, Nat.shiftLeft_eq]
  congr 1
  rcases Nat.le_total n 64 with h | h
  · rw [Nat.min_eq_left h]
  · rw [Nat.min_eq_right h]
    obtain ⟨d, rfl⟩ : ∃ d, n = 64 + d := ⟨n - 64, by omega⟩
    rw [Nat.pow_add, ← Nat.mul_assoc, Nat.mul_right_comm, Nat.mul_mod_left, Nat.mul_mod_left]
theorem b_shl1 (k : IntKind) (n : Nat) : binA .shl (.int .u64 1) (.int k n) = some (.int .u64 (1#64 <<< n).toNat) := b_shl 1#64 k n
theorem b_shr (k : IntKind) (n : Nat) : binA .shr (.int .u64 x.toNat) (.int k n) = some (.int .u64 (x >>> n).toNat) := by
  have h0 : ¬ ((n : Int) < 0) := by omega
  simp only [binA, if_neg h0, IntKind.bits, Int.toNat_natCast]
  congr 2
  have h1 : ((x.toNat : Int).fdiv (2 ^ (min n 64))) = ((x.toNat / 2 ^ (min n 64) : Nat) : Int) := by
    have : ((2 : Int) ^ (min n 64)) = ((2 ^ (min n 64) : Nat) : Int) := by push_cast; rfl
    rw [this]; exact (Int.ofNat_fdiv _ _).symm
  rw [h1]
  have hlt := x.isLt
  rcases Nat.le_total n 64 with h | h
  · rw [Nat.min_eq_left h, BitVec.toNat_ushiftRight, Nat.shiftRight_eq_div_pow]
  · rw [Nat.min_eq_right h, BitVec.toNat_ushiftRight, Nat.shiftRight_eq_div_pow]
    congr 1
    rw [Nat.div_eq_of_lt hlt, Nat.div_eq_of_lt]
    exact Nat.lt_of_lt_of_le hlt (Nat.pow_le_pow_right (by omega) h)
end
-- R b_add64 b_sub64 b_sub641 b_or b_and b_and1 u_not64 b_shl b_shl1 b_shr

theorem bs_add (a b : List UInt8) : binA .add (.str a) (.str b) = if ((a.length + b.length : Nat) : Int) ≤ 9223372036854775807 then some (.str (a ++ b)) else none := rfl
theorem beq_dec (a b : List UInt8) : (a == b) = decide (a = b) := by
  by_cases h : a = b <;> simp [h]
theorem bs_eql (a b : List UInt8) : binA .eql (.str a) (.str b) = some (.bool (decide (a = b))) := by
  simp only [binA, beq_dec]
theorem bs_neq (a b : List UInt8) : binA .neq (.str a) (.str b) = some (.bool (!decide (a = b))) := by
  simp only [binA, beq_dec]
theorem u_not (b : Bool) : unA .not (.bool b) = some (.bool (!b)) := rfl
theorem u_neg (k : IntKind) (n : Int) : unA .neg (.int k n) = some (.int k (k.wrap (0 - n))) := rfl
-- R bs_eql bs_neq u_not u_neg

/-! ### comparing -/
theorem e_bool (a b : Bool) : eqVal .bool (.bool a) (.bool b) = some (decide (a = b)) := by cases a <;> cases b <;> rfl
theorem e_nilp : eqVal .isNil .nilp .nilp = some true := rfl
theorem e_pp (l : List AV) : eqVal .isNil (.pp l) .nilp = some false := rfl
theorem e_ptr (b v o : Nat) : eqVal .isNil (.ptr b v o) .nilp = some false := rfl
-- R e_bool e_nilp e_pp e_ptr

/-! ### places -/
theorem v_fa_ptr (o b v f : Nat) : V_fieldAddr f (.ptr b v o) = some (.ptr b v (o + f)) := rfl
theorem v_fa_rp (o p s f : Nat) : V_fieldAddr f (.rp p s o) = some (.rp p s (o + f)) := rfl
theorem v_fa_pp (l : List AV) (f : Nat) : V_fieldAddr f (.pp l) = some (.pp (l.drop f)) := rfl
theorem v_field (a : Bool) (n f : Nat) (l : List AV) : V_field a n f (.agg l) = loadA a n (l.drop f) := rfl
theorem load1 (n : Nat) (l : List AV) : loadA false n l = l[0]? := by cases l <;> rfl
theorem loadN {n : Nat} {l : List AV} (h : n ≤ l.length) : loadA true n l = some (.agg (l.take n)) := if_pos h
theorem v_nil_ptr (b v o : Nat) : V_nilchk (.ptr b v o) = some (.ptr b v o) := rfl
theorem v_nil_pp (l : List AV) : V_nilchk (.pp l) = some (.pp l) := rfl
theorem v_nil_rp (p s o : Nat) : V_nilchk (.rp p s o) = some (.rp p s o) := rfl
theorem v_nil_func (f : FuncId) (l : List AV) : V_nilchk (.func f l) = some (.func f l) := rfl
theorem v_ext (l : List AV) (i : Nat) : V_extract (.tuple l) i = l[i]? := rfl
theorem v_lenS (l : List UInt8) : V_lenS (.str l) = some (.int .i64 l.length) := rfl
theorem v_len_nils : V_len .nils = some (.int .i64 0) := rfl
theorem v_len_sl (b v o n e : Nat) (k : Option Nat) : V_len (.sl b v o n e k) = some (.int .i64 n) := rfl
theorem v_len_ps (l : List AV) (n : Nat) (k : Option Nat) : V_len (.ps l n k) = some (.int .i64 n) := rfl
theorem v_strId (l : List UInt8) : V_strId (.str l) = some (.str l) := rfl
-- R v_fa_ptr v_fa_rp v_fa_pp v_field load1 loadN v_nil_ptr v_nil_pp v_nil_rp v_nil_func v_ext v_lenS v_len_nils v_len_sl v_len_ps v_strId

section
variable {k : IntKind} {j : Int} {len : Nat} (esz : Nat)
theorem v_ia_rp (p s o : Nat) (h0 : 0 ≤ j) (h1 : j < len) : V_idxArr len esz (.rp p s o) (.int k j) = some (.rp p s (o + j.toNat * esz)) := by simp only [V_idxArr]; rw [if_pos ⟨h0, h1⟩]
theorem v_ia_ptr (p s o : Nat) (h0 : 0 ≤ j) (h1 : j < len) : V_idxArr len esz (.ptr p s o) (.int k j) = some (.ptr p s (o + j.toNat * esz)) := by simp only [V_idxArr]; rw [if_pos ⟨h0, h1⟩]
theorem v_ia_pp (l : List AV) (h0 : 0 ≤ j) (h1 : j < len) : V_idxArr len esz (.pp l) (.int k j) = some (.pp (l.drop (j.toNat * esz))) := by simp only [V_idxArr]; rw [if_pos ⟨h0, h1⟩]
theorem v_is_ps (l : List AV) (c : Option Nat) (h0 : 0 ≤ j) (h1 : j < len) : V_idxSl esz (.ps l len c) (.int k j) = some (.pp (l.drop (j.toNat * esz))) := by simp only [V_idxSl]; rw [if_pos ⟨h0, h1⟩]
theorem v_is_sl (b v o : Nat) (c : Option Nat) (h0 : 0 ≤ j) (h1 : j < len) : V_idxSl esz (.sl b v o len esz c) (.int k j) = some (.ptr b v (o + j.toNat * esz)) := by simp only [V_idxSl]; simp [h0, h1]
theorem v_ig (a : Bool) (l : List AV) (h0 : 0 ≤ j) (h1 : j < len) : V_idxAgg a len esz (.agg l) (.int k j) = loadA a esz (l.drop (j.toNat * esz)) := by simp only [V_idxAgg]; rw [if_pos ⟨h0, h1⟩]
theorem v_ix (l : List UInt8) (n : Nat) (h1 : n < l.length) : V_idxStr (.str l) (.int k n) = some (.int .u8 (l[n]).toNat) := by
  simp only [V_idxStr, Int.toNat_natCast]
  rw [if_pos (by omega), List.getElem?_eq_getElem h1]
end
-- R v_ia_rp v_ia_ptr v_ia_pp v_is_ps v_is_sl v_ig v_ix

/-! ### reading and writing -/
def loadR (tg : Tg) (isAgg : Bool) (n p st off : Nat) : AV → Option AV
  | .reg st' cells => if st = st' ∧ tgReg tg p then loadA isAgg n (cells.drop off) else none
  | _ => none
def loadH (tg : Tg) (isAgg : Bool) (n off : Nat) : Option (Nat × Nat × List AV) → Option AV
  | some (_, tag, cells) => if tgOk tg tag then loadA isAgg n (cells.drop off) else none
  | none => none
def storeR (ts : List AV) (h : AHeap) (tg : Tg) (p st off : Nat) (vs : List AV) : AV → Option (AV × List AV × AHeap)
  | .reg st' cells => if st = st' ∧ tgReg tg p ∧ off + vs.length ≤ cells.length then some (undefA, tset ts p (.reg st (cells.take off ++ vs ++ cells.drop (off + vs.length))), h) else none
  | _ => none
def storeH (ts : List AV) (h : AHeap) (tg : Tg) (b ver off : Nat) (vs : List AV) : Option (Nat × Nat × List AV) → Option (AV × List AV × AHeap)
  | some (fz, tag, cells) => if tgOk tg tag ∧ off + vs.length ≤ cells.length ∧ fz ≤ off then some (undefA, ts, h.set b (.row ver fz tag (cells.take off ++ vs ++ cells.drop (off + vs.length)))) else none
  | none => none
def okc (l : List AV) : Bool := l.all fun x => oneCell x && keeps x

section
variable (ts : List AV) (h : AHeap) (tg : Tg) (a : Bool) (n p st off b ver : Nat) (v : AV)
theorem v_load_rp : V_load ts h tg a n (.rp p st off) = (match loadR tg a n p st off (tget ts p) with | some v => some (v, ts, h) | none => none) := by
  simp only [V_load, loadOf]
  cases hx : tget ts p <;> simp only [loadR, Option.map_none]
  split
  · cases loadA a n _ <;> rfl
  · rfl
theorem v_load_ptr : V_load ts h tg a n (.ptr b ver off) = (match loadH tg a n off (rowAt h b ver) with | some v => some (v, ts, h) | none => none) := by
  simp only [V_load, loadOf]
  rcases hx : rowAt h b ver with _ | ⟨fz, tag, cells⟩ <;> simp only [loadH, Option.map_none]
  split
  · cases loadA a n _ <;> rfl
  · rfl
theorem v_load_ppt (l : List AV) (g : Nat) : V_load ts h (.tag g) a n (.pp l) = (match loadA a n l with | some v => some (v, ts, h) | none => none) := by
  simp only [V_load, loadOf]; cases loadA a n l <;> rfl
theorem v_load_ppa (l : List AV) : V_load ts h .any a n (.pp l) = (match loadA a n l with | some v => some (v, ts, h) | none => none) := by
  simp only [V_load, loadOf]; cases loadA a n l <;> rfl
theorem loadR_reg (cells : List AV) : loadR tg a n p st off (.reg st cells) = if tgReg tg p then loadA a n (cells.drop off) else none := by simp [loadR]
theorem loadH_some (fz tag : Nat) (cells : List AV) : loadH tg a n off (some (fz, tag, cells)) = if tgOk tg tag then loadA a n (cells.drop off) else none := rfl
theorem v_store_rp0 (hv : okc (cellsOf v) = true) (hn : (cellsOf v).length = n) : V_store ts h tg n (.rp p st off) v = storeR ts h tg p st off (cellsOf v) (tget ts p) := by
  simp only [V_store, okc] at hv ⊢
  rw [if_pos ⟨hn, hv⟩]
  subst hn
  cases tget ts p <;> rfl
theorem v_store_rp : V_store ts h tg n (.rp p st off) v = if okc (cellsOf v) = true ∧ (cellsOf v).length = n then storeR ts h tg p st off (cellsOf v) (tget ts p) else none := by
  by_cases hc : okc (cellsOf v) = true ∧ (cellsOf v).length = n
  · rw [if_pos hc]; exact v_store_rp0 _ _ _ _ _ _ _ _ hc.1 hc.2
  · rw [if_neg hc]; exact if_neg (fun h => hc ⟨h.2, h.1⟩)
theorem v_store_ptr0 (hv : okc (cellsOf v) = true) (hn : (cellsOf v).length = n) : V_store ts h tg n (.ptr b ver off) v = storeH ts h tg b ver off (cellsOf v) (rowAt h b ver) := by
  simp only [V_store, okc] at hv ⊢
  rw [if_pos ⟨hn, hv⟩]
  subst hn
  rcases rowAt h b ver with _ | ⟨fz, tag, cells⟩ <;> rfl
theorem v_store_ptr : V_store ts h tg n (.ptr b ver off) v = if okc (cellsOf v) = true ∧ (cellsOf v).length = n then storeH ts h tg b ver off (cellsOf v) (rowAt h b ver) else none := by
  by_cases hc : okc (cellsOf v) = true ∧ (cellsOf v).length = n
  · rw [if_pos hc]; exact v_store_ptr0 _ _ _ _ _ _ _ _ hc.1 hc.2
  · rw [if_neg hc]; exact if_neg (fun h => hc ⟨h.2, h.1⟩)
theorem set_splice (cells : List AV) (off : Nat) (v : AV) (ho : off < cells.length) : cells.take off ++ [v] ++ cells.drop (off + [v].length) = cells.set off v := by
  rw [List.set_eq_take_append_cons_drop, if_pos ho]
  simp
theorem storeR_gen (cells vs : List AV) (ho : off + vs.length ≤ cells.length) : storeR ts h tg p st off vs (.reg st cells) = if tgReg tg p = true then some (undefA, tset ts p (.reg st (cells.take off ++ vs ++ cells.drop (off + vs.length))), h) else none := by
  simp [storeR, ho]
/-- One cell. -/
theorem storeR_one (cells : List AV) (ho : off < cells.length) : storeR ts h tg p st off [v] (.reg st cells) = if tgReg tg p = true then some (undefA, tset ts p (.reg st (cells.set off v)), h) else none := by
  rw [storeR_gen _ _ _ _ _ _ _ _ (by simp; omega), set_splice _ _ _ ho]
/-- All cells. -/
theorem storeR_all (cells vs : List AV) (ho : vs.length = cells.length) : storeR ts h tg p st 0 vs (.reg st cells) = if tgReg tg p = true then some (undefA, tset ts p (.reg st vs), h) else none := by
  rw [storeR_gen _ _ _ _ _ _ _ _ (by omega)]
  simp [ho]
theorem storeH_gen (fz tag : Nat) (cells vs : List AV) (ho : off + vs.length ≤ cells.length) (hf : fz ≤ off) : storeH ts h tg b ver off vs (some (fz, tag, cells)) = if tgOk tg tag = true then some (undefA, ts, h.set b (.row ver fz tag (cells.take off ++ vs ++ cells.drop (off + vs.length)))) else none := by
  simp [storeH, ho, hf]
theorem storeH_one (fz tag : Nat) (cells : List AV) (ho : off < cells.length) (hf : fz ≤ off) : storeH ts h tg b ver off [v] (some (fz, tag, cells)) = if tgOk tg tag = true then some (undefA, ts, h.set b (.row ver fz tag (cells.set off v))) else none := by
  rw [storeH_gen _ _ _ _ _ _ _ _ _ _ (by simp; omega) hf, set_splice _ _ _ ho]
theorem storeH_all (fz tag : Nat) (cells vs : List AV) (ho : vs.length = cells.length) (hf : fz = 0) : storeH ts h tg b ver 0 vs (some (fz, tag, cells)) = if tgOk tg tag = true then some (undefA, ts, h.set b (.row ver fz tag vs)) else none := by
  rw [storeH_gen _ _ _ _ _ _ _ _ _ _ (by omega) (by omega)]
  simp [ho]
end
theorem tgReg_reg (p q : Nat) : tgReg (.reg q) p = (q == p) := rfl
theorem tgReg_any (p : Nat) : tgReg .any p = true := rfl
theorem tgOk_any (t : Nat) : tgOk .any t = true := rfl
theorem tgOk_tag (t u : Nat) : tgOk (.tag t) u = (t == u) := rfl
theorem okc_nil : okc [] = true := rfl
theorem okc_cons (v : AV) (l : List AV) : okc (v :: l) = ((oneCell v && keeps v) && okc l) := rfl
-- R v_load_rp v_load_ptr v_load_ppt v_load_ppa loadR_reg loadH_some v_store_rp v_store_ptr storeR_one storeR_all storeH_one storeH_all tgReg_reg tgReg_any tgOk_any tgOk_tag okc_nil okc_cons

/-! ### arguments -/
theorem argsA_nil (t : List AV) : argsA t [] = [] := rfl
theorem argsA_cons (t : List AV) (x : AOpd) (l : List AOpd) : argsA t (x :: l) = aev t x :: argsA t l := rfl
-- R argsA_nil argsA_cons
theorem parts_nil (t : List AV) : partsA t [] = [] := rfl
theorem parts_cons (t : List AV) (a b : Nat) (x : AOpd) (l : List (Nat × Nat × AOpd)) : partsA t ((a, b, x) :: l) = (a, b, aev t x) :: partsA t l := rfl
theorem fill_nil (l : List AV) : fillA l [] = some l := rfl
theorem fill_cons (l : List AV) (a b : Nat) (v : AV) (r : List (Nat × Nat × AV)) : fillA l ((a, b, v) :: r) = if (cellsOf v).length = b ∧ a + b ≤ l.length then fillA (l.take a ++ cellsOf v ++ l.drop (a + b)) r else none := rfl
theorem p_build (c : Nat) (t z : List AV) (l : List (Nat × Nat × AOpd)) : pureA c (.build z l) t = if (partsA t l).all (fun x => keeps x.2.2) then (match fillA z (partsA t l) with | some cs => some (.agg cs) | none => none) else none := by
  simp only [pureA]; split
  · cases fillA z (partsA t l) <;> rfl
  · rfl
theorem p_bslice (c g e n : Nat) (t z : List AV) (l : List (Nat × Nat × AOpd)) : pureA c (.bslice false g e n z l) t = if (partsA t l).all (fun x => noRef x.2.2) then (match fillA (reps n z) (partsA t l) with | some cs => some (.ps cs n (some n)) | none => none) else none := by
  simp only [pureA]; split
  · cases fillA (reps n z) (partsA t l) <;> rfl
  · rfl
theorem p_box (c g : Nat) (t : List AV) (x : AOpd) : pureA c (.box true g x) t = if keeps (aev t x) then some (.reg c (cellsOf (aev t x))) else none := rfl
theorem p_mkfunc (c : Nat) (t : List AV) (f : FuncId) (l : List AOpd) : pureA c (.mkfunc f l) t = if (argsA t l).all keeps then some (.func f (argsA t l)) else none := rfl
theorem p_mn (c : Nat) (t : List AV) (l : List AOpd) : pureA c (.mn l) t = foldInt min (argsA t l) := rfl
theorem p_mx (c : Nat) (t : List AV) (l : List AOpd) : pureA c (.mx l) t = foldInt max (argsA t l) := rfl
theorem mn2 (k : IntKind) (a b : Int) : foldInt min [.int k a, .int k b] = some (.int k (min a b)) := by simp [foldInt]
theorem mx2 (k : IntKind) (a b : Int) : foldInt max [.int k a, .int k b] = some (.int k (max a b)) := by simp [foldInt]
theorem mx3 (k : IntKind) (a b d : Int) : foldInt max [.int k a, .int k b, .int k d] = some (.int k (max (max a b) d)) := by simp [foldInt]
theorem m_boxF (g : Nat) (t : List AV) (h : AHeap) (x : AOpd) : memA (.box false g x) t h = if keeps (aev t x) then some (.ptr h.length 0 0, t, h ++ [.row 0 0 g (cellsOf (aev t x))]) else none := rfl
theorem m_allocF (g : Nat) (t z : List AV) (h : AHeap) : memA (.alloc false g z) t h = some (.ptr h.length 0 0, t, h ++ [.row 0 0 g z]) := rfl
theorem m_mkmap (t : List AV) (h : AHeap) : memA .mkmap t h = some (.mp h.length, t, h ++ [.map []]) := rfl
theorem noRef_all : ∀ l : List AV, noRefs l = l.all noRef
  | [] => rfl
  | v :: l => by simp [noRefs, noRef_all l]
theorem noRefs_nil : noRefs [] = true := rfl
theorem noRefs_cons (v : AV) (l : List AV) : noRefs (v :: l) = (noRef v && noRefs l) := rfl
theorem noRef_int (k : IntKind) (n : Int) : noRef (.int k n) = true := rfl
theorem noRef_bool (b : Bool) : noRef (.bool b) = true := rfl
theorem noRef_str (l : List UInt8) : noRef (.str l) = true := rfl
theorem noRef_ps (l : List AV) (n : Nat) (c : Option Nat) : noRef (.ps l n c) = true := rfl
theorem noRef_pp (l : List AV) : noRef (.pp l) = true := rfl
theorem noRef_nils : noRef .nils = true := rfl
theorem noRef_nilp : noRef .nilp = true := rfl
theorem noRef_agg (l : List AV) : noRef (.agg l) = noRefs l := rfl
theorem noRef_sl (b v o n e : Nat) (c : Option Nat) : noRef (.sl b v o n e c) = false := rfl
theorem reps_zero (z : List AV) : reps 0 z = [] := rfl
theorem reps_succ (n : Nat) (z : List AV) : reps (n + 1) z = z ++ reps n z := rfl
-- R parts_nil parts_cons fill_nil fill_cons p_build p_bslice p_box p_mkfunc p_mn p_mx mn2 mx2 mx3 m_boxF m_allocF m_mkmap noRefs_nil noRefs_cons noRef_int noRef_bool noRef_str noRef_ps noRef_pp noRef_nils noRef_nilp noRef_agg noRef_sl reps_zero reps_succ

/-! ### what is handed to calls -/
def argR (h : AHeap) (v : AV) : Option AV := (res depth h v).map norm
theorem norms_cons (v : AV) (l : List AV) : norms (v :: l) = norm v :: norms l := rfl
theorem norms_nil : norms [] = [] := rfl
theorem argsR_nil (h : AHeap) : argsR h [] = some [] := rfl
theorem argsR_cons (h : AHeap) (v : AV) (l : List AV) : argsR h (v :: l) = match argR h v with | some x => (match argsR h l with | some r => some (x :: r) | none => none) | none => none := by
  simp only [argsR, argR, List.mapM_cons, Option.bind_eq_bind, Option.pure_def]
  cases res depth h v <;> simp
  cases List.mapM (res depth h) l <;> simp [norms]
/-- A cell that holds no memory of the running call. -/
def flat : AV → Bool
  | .bool _ | .int .. | .str _ | .nilp | .pp _ | .nils | .ps .. | .nilm | .nilf | .nili => true
  | _ => false
def plain1 : AV → AV
  | .nils => .ps [] 0 none
  | v => v
theorem res_flat (n : Nat) (h : AHeap) {v : AV} (hv : flat v = true) : res (n + 1) h v = some (plain1 v) := by cases v <;> simp_all [flat, res, plain1]
theorem norm_plain1 (v : AV) : norm (plain1 v) = norm v := by cases v <;> rfl
theorem norm_plains (l : List AV) : norms (l.map plain1) = norms l := by
  induction l with
  | nil => rfl
  | cons v l ih => simp [norms, norm_plain1, ih]
theorem mapM_flat (n : Nat) (h : AHeap) : ∀ {l : List AV}, l.all flat = true → l.mapM (res (n + 1) h) = some (l.map plain1)
  | [], _ => rfl
  | v :: l, hl => by
    simp only [List.all_cons, Bool.and_eq_true] at hl
    simp [List.mapM_cons, res_flat n h hl.1, mapM_flat n h hl.2]
theorem argR_flat (h : AHeap) {v : AV} (hv : flat v = true) : argR h v = some (norm v) := by
  unfold argR
  rw [show depth = 23 + 1 from rfl, res_flat 23 h hv]
  simp [norm_plain1]
theorem argR_int (h : AHeap) (k : IntKind) (n : Int) : argR h (.int k n) = some (.int k n) := argR_flat h rfl
theorem argR_bool (h : AHeap) (b : Bool) : argR h (.bool b) = some (.bool b) := argR_flat h rfl
theorem argR_str (h : AHeap) (l : List UInt8) : argR h (.str l) = some (.str l) := argR_flat h rfl
theorem argR_nilp (h : AHeap) : argR h .nilp = some .nilp := argR_flat h rfl
theorem argR_nils (h : AHeap) : argR h .nils = some (.ps [] 0 none) := argR_flat h rfl
theorem argR_ps (h : AHeap) (l : List AV) (n : Nat) (c : Option Nat) : argR h (.ps l n c) = some (.ps (norms l) n none) := argR_flat h rfl
theorem argR_pp (h : AHeap) (l : List AV) : argR h (.pp l) = some (.pp (norms l)) := argR_flat h rfl
theorem res_agg (n : Nat) (h : AHeap) (cs : List AV) : res (n + 1) h (.agg cs) = (cs.mapM (res n h)).map .agg := rfl
theorem res_tuple (n : Nat) (h : AHeap) (cs : List AV) : res (n + 1) h (.tuple cs) = (cs.mapM (res n h)).map .tuple := rfl
theorem res_sl (n : Nat) (h : AHeap) (b ver off len esz : Nat) (c : Option Nat) : res (n + 1) h (.sl b ver off len esz c) = match rowAt h b ver with
      | some (_, _, cells) =>
        if off + len * esz ≤ cells.length then (((cells.drop off).take (len * esz)).mapM (res n h)).map fun cs => .ps cs len none else none
      | none => none := rfl
theorem argR_agg (h : AHeap) {l : List AV} (hl : l.all flat = true) : argR h (.agg l) = some (.agg (norms l)) := by
  unfold argR
  rw [show depth = 22 + 1 + 1 from rfl]
  generalize 22 = d
  rw [res_agg, mapM_flat d h hl]
  simp [norm, norm_plains]
theorem argR_aggI (h : AHeap) (l : List AV) : argR h (.agg l) = if l.all flat = true then some (.agg (norms l)) else (res depth h (.agg l)).map norm := by
  split
  · rename_i hl; exact argR_agg h hl
  · rfl
theorem argR_sl (h : AHeap) {b v o n e : Nat} {c : Option Nat} {fz tag : Nat} {cells : List AV} (hr : rowAt h b v = some (fz, tag, cells)) (hn : o + n * e ≤ cells.length) (hl : ((cells.drop o).take (n * e)).all flat = true) :
    argR h (.sl b v o n e c) = some (.ps (norms ((cells.drop o).take (n * e))) n none) := by
  unfold argR
  rw [show depth = 22 + 1 + 1 from rfl]
  generalize 22 = d
  rw [res_sl, hr]
  simp only
  rw [if_pos hn, mapM_flat d h hl]
  simp only [Option.map_some, norm, norm_plains]
theorem frz_flat (n : Nat) (h : AHeap) {v : AV} (hv : flat v = true) : frz n h v = h := by cases n <;> cases v <;> simp_all [flat, frz]
theorem frz_flats (n : Nat) : ∀ {l : List AV} (h : AHeap), l.all flat = true → l.foldl (frz n) h = h
  | [], _, _ => rfl
  | v :: l, h, hl => by
    simp only [List.all_cons, Bool.and_eq_true] at hl
    simp [frz_flat n h hl.1, frz_flats n h hl.2]
theorem frz_agg (h : AHeap) {l : List AV} (hl : l.all flat = true) : frz depth h (.agg l) = h := by
  show l.foldl (frz 23) h = h
  exact frz_flats 23 h hl
theorem frz_aggI (h : AHeap) (l : List AV) : frz depth h (.agg l) = if l.all flat = true then h else l.foldl (frz 23) h := by
  split
  · rename_i hl; exact frz_agg h hl
  · rfl
theorem frz_sl0 (n : Nat) (h : AHeap) (b ver off len esz : Nat) (c : Option Nat) : frz (n + 1) h (.sl b ver off len esz c) = match rowAt h b ver with
      | some (fz, tag, cells) => ((cells.drop off).take (len * esz)).foldl (frz n) (h.set b (.row ver (max fz (off + len * esz)) tag cells))
      | none => h := rfl
theorem frz_sl (h : AHeap) {b v o n e : Nat} {c : Option Nat} {fz tag : Nat} {cells : List AV} (hr : rowAt h b v = some (fz, tag, cells)) (hl : ((cells.drop o).take (n * e)).all flat = true) :
    frz depth h (.sl b v o n e c) = h.set b (.row v (max fz (o + n * e)) tag cells) := by
  rw [show depth = 22 + 1 + 1 from rfl]
  generalize 22 = d
  rw [frz_sl0, hr]
  exact frz_flats _ _ hl
theorem frz_int (h : AHeap) (k : IntKind) (n : Int) : frz depth h (.int k n) = h := rfl
theorem frz_bool (h : AHeap) (b : Bool) : frz depth h (.bool b) = h := rfl
theorem frz_str (h : AHeap) (l : List UInt8) : frz depth h (.str l) = h := rfl
theorem frz_nilp (h : AHeap) : frz depth h .nilp = h := rfl
theorem frz_nils (h : AHeap) : frz depth h .nils = h := rfl
theorem frz_ps (h : AHeap) (l : List AV) (n : Nat) (c : Option Nat) : frz depth h (.ps l n c) = h := rfl
theorem frz_pp (h : AHeap) (l : List AV) : frz depth h (.pp l) = h := rfl
theorem norm_int (k : IntKind) (n : Int) : norm (.int k n) = .int k n := rfl
theorem norm_bool (b : Bool) : norm (.bool b) = .bool b := rfl
theorem norm_str (l : List UInt8) : norm (.str l) = .str l := rfl
theorem norm_nilp : norm .nilp = .nilp := rfl
theorem norm_nils : norm .nils = .ps [] 0 none := rfl
theorem norm_ps (l : List AV) (n : Nat) (c : Option Nat) : norm (.ps l n c) = .ps (norms l) n none := rfl
theorem norm_pp (l : List AV) : norm (.pp l) = .pp (norms l) := rfl
theorem norm_agg (l : List AV) : norm (.agg l) = .agg (norms l) := rfl
theorem norms_append (a b : List AV) : norms (a ++ b) = norms a ++ norms b := by simp [norms_map]
theorem purify_eq (v : AV) (h : AHeap) : purify (v, h) = argR h v := rfl
theorem flat_int (k : IntKind) (n : Int) : flat (.int k n) = true := rfl
theorem flat_bool (b : Bool) : flat (.bool b) = true := rfl
theorem flat_str (l : List UInt8) : flat (.str l) = true := rfl
theorem flat_ps (l : List AV) (n : Nat) (c : Option Nat) : flat (.ps l n c) = true := rfl
theorem flat_pp (l : List AV) : flat (.pp l) = true := rfl
theorem flat_nils : flat .nils = true := rfl
theorem flat_nilp : flat .nilp = true := rfl
theorem argR_tuple0 (h : AHeap) {l : List AV} (hl : l.all flat = true) : argR h (.tuple l) = some (.tuple (norms l)) := by
  unfold argR
  rw [show depth = 22 + 1 + 1 from rfl]
  generalize 22 = d
  rw [res_tuple, mapM_flat d h hl]
  simp [norm, norm_plains]
theorem argR_tuple (h : AHeap) (l : List AV) : argR h (.tuple l) = if l.all flat = true then some (.tuple (norms l)) else (res depth h (.tuple l)).map norm := by
  split
  · rename_i hl; exact argR_tuple0 h hl
  · rfl
-- R norms_nil norms_cons argsR_nil argsR_cons argR_int argR_bool argR_str argR_nilp argR_nils argR_ps argR_pp argR_aggI frz_aggI frz_int frz_bool frz_str frz_nilp frz_nils frz_ps frz_pp norm_int norm_bool norm_str norm_nilp norm_nils norm_ps norm_pp norm_agg norms_append purify_eq flat_int flat_bool flat_str flat_ps flat_pp flat_nils flat_nilp argR_tuple

/-! ### results -/
theorem results_nil (s : St) : resultsA s [] = some (.tuple []) := rfl
theorem results_one (s : St) (r : ARes) : resultsA s [r] = match resultA s r with | some v => some v | none => none := by
  simp only [resultsA, List.mapM_cons, List.mapM_nil]
  cases resultA s r <;> rfl
theorem results_two (s : St) (r q : ARes) : resultsA s [r, q] = match resultA s r with | some v => (match resultA s q with | some u => some (.tuple [v, u]) | none => none) | none => none := by
  simp only [resultsA, List.mapM_cons, List.mapM_nil]
  cases resultA s r <;> cases resultA s q <;> rfl
theorem results_three (s : St) (r q p : ARes) : resultsA s [r, q, p] = match resultA s r with | some v => (match resultA s q with | some u => (match resultA s p with | some w => some (.tuple [v, u, w]) | none => none) | none => none) | none => none := by
  simp only [resultsA, List.mapM_cons, List.mapM_nil]
  cases resultA s r <;> cases resultA s q <;> cases resultA s p <;> rfl
theorem result_t (t : List AV) (h : AHeap) (c n : Nat) : resultA ⟨t, h, c⟩ (.t n) = if keeps (rval n (tget t n)) then some (rval n (tget t n)) else none := rfl
theorem result_cell (t : List AV) (h : AHeap) (c a : Nat) (g : Bool) (n : Nat) : resultA ⟨t, h, c⟩ (.cell a g n) = loadOf .any g n t h (rval a (tget t a)) := rfl
theorem loadOf_rp (t : List AV) (h : AHeap) (tg : Tg) (a : Bool) (n p st off : Nat) : loadOf tg a n t h (.rp p st off) = loadR tg a n p st off (tget t p) := by
  simp only [loadOf]
  cases tget t p <;> rfl
-- R results_nil results_one results_two results_three result_t result_cell loadOf_rp
end Go.Abs.S

/- Bundles of rules, for simp. Printed by mkrules.py. -/
set_option maxRecDepth 10000
namespace Go.Abs
theorem R1 : type_of% (And.intro @S.tget_nil (And.intro @S.tget_zero (And.intro @S.tget_succ (And.intro @tget_tset (And.intro @S.aev_t (And.intro @S.aev_c (And.intro @S.ops_nil (And.intro @S.ops_cons (And.intro @S.op_none (And.intro @S.op_guard (And.intro @S.gd_t (And.intro @S.gd_f (And.intro @S.put_some (And.intro @S.put_none (And.intro @S.yield_def (And.intro @S.rval_bool (And.intro @S.keeps_bool (And.intro @S.oneCell_bool (And.intro @S.cellsOf_bool (And.intro @S.rval_int (And.intro @S.keeps_int (And.intro @S.oneCell_int (And.intro @S.cellsOf_int (And.intro @S.rval_str (And.intro @S.keeps_str (And.intro @S.oneCell_str (And.intro @S.cellsOf_str (And.intro @S.rval_nilp (And.intro @S.keeps_nilp (And.intro @S.oneCell_nilp (And.intro @S.cellsOf_nilp (And.intro @S.rval_ptr (And.intro @S.keeps_ptr (And.intro @S.oneCell_ptr (And.intro @S.cellsOf_ptr (And.intro @S.rval_pp (And.intro @S.keeps_pp (And.intro @S.oneCell_pp (And.intro @S.cellsOf_pp (And.intro @S.rval_nils (And.intro @S.keeps_nils (And.intro @S.oneCell_nils (And.intro @S.cellsOf_nils (And.intro @S.rval_sl (And.intro @S.keeps_sl (And.intro @S.oneCell_sl (And.intro @S.cellsOf_sl (And.intro @S.rval_ps (And.intro @S.keeps_ps (And.intro @S.oneCell_ps (And.intro @S.cellsOf_ps (And.intro @S.rval_nilm (And.intro @S.keeps_nilm (And.intro @S.oneCell_nilm (And.intro @S.cellsOf_nilm (And.intro @S.rval_mp (And.intro @S.keeps_mp (And.intro @S.oneCell_mp (And.intro @S.cellsOf_mp (And.intro @S.rval_func (And.intro @S.keeps_func (And.intro @S.oneCell_func (And.intro @S.cellsOf_func (And.intro @S.rval_nilf (And.intro @S.keeps_nilf (And.intro @S.oneCell_nilf (And.intro @S.cellsOf_nilf (And.intro @S.rval_iface (And.intro @S.keeps_iface (And.intro @S.oneCell_iface (And.intro @S.cellsOf_iface (And.intro @S.rval_nili (And.intro @S.keeps_nili (And.intro @S.oneCell_nili (And.intro @S.cellsOf_nili (And.intro @S.rval_agg (And.intro @S.keeps_agg (And.intro @S.oneCell_agg (And.intro @S.cellsOf_agg (And.intro @S.rval_tuple (And.intro @S.keeps_tuple (And.intro @S.oneCell_tuple (And.intro @S.cellsOf_tuple (And.intro @S.rval_rp (And.intro @S.keeps_rp (And.intro @S.oneCell_rp (And.intro @S.cellsOf_rp (And.intro @S.rval_reg (And.intro @S.next_mov (And.intro @S.oper_mov (And.intro @S.next_pick (And.intro @S.oper_pick (And.intro @S.next_nilchk (And.intro @S.oper_nilchk (And.intro @S.next_bin (And.intro @S.oper_bin (And.intro @S.next_eqv (And.intro @S.oper_eqv (And.intro @S.next_un (And.intro @S.oper_un (And.intro @S.next_conv (And.intro @S.oper_conv (And.intro @S.next_strId (And.intro @S.oper_strId (And.intro @S.next_mkfunc (And.intro @S.oper_mkfunc (And.intro @S.next_build (And.intro @S.oper_build (And.intro @S.next_bslice (And.intro @S.oper_bslice (And.intro @S.next_sliceStr (And.intro @S.oper_sliceStr (And.intro @S.next_sliceSl (And.intro @S.oper_sliceSl (And.intro @S.next_fieldAddr (And.intro @S.oper_fieldAddr (And.intro @S.next_field (And.intro @S.oper_field (And.intro @S.next_idxArr (And.intro @S.oper_idxArr (And.intro @S.next_idxSl (And.intro @S.oper_idxSl (And.intro @S.next_idxAgg (And.intro @S.oper_idxAgg (And.intro @S.next_idxStr (And.intro @S.oper_idxStr (And.intro @S.next_extract (And.intro @S.oper_extract (And.intro @S.next_len (And.intro @S.oper_len (And.intro @S.next_lenS (And.intro @S.oper_lenS (And.intro @S.next_cap (And.intro @S.oper_cap (And.intro @S.next_mn (And.intro @S.oper_mn (And.intro @S.next_mx (And.intro @S.oper_mx (And.intro @S.next_allocR (And.intro @S.oper_allocR (And.intro @S.next_boxR (And.intro @S.oper_boxR (And.intro @S.next_allocF (And.intro @S.oper_allocF (And.intro @S.next_boxF (And.intro @S.oper_boxF (And.intro @S.next_bsliceT (And.intro @S.oper_bsliceT (And.intro @S.next_load (And.intro @S.oper_load (And.intro @S.next_store (And.intro @S.oper_store (And.intro @S.next_strOf (And.intro @S.oper_strOf (And.intro @S.next_mkmap (And.intro @S.oper_mkmap (And.intro @S.next_mkslice (And.intro @S.oper_mkslice (And.intro @S.next_sliceArr (And.intro @S.oper_sliceArr (And.intro @S.next_lookup (And.intro @S.oper_lookup (And.intro @S.next_mapSet (And.intro @S.oper_mapSet (And.intro @S.next_lenM (And.intro @S.oper_lenM (And.intro @S.next_append (And.intro @S.oper_append (And.intro @S.next_copy (And.intro @S.oper_copy (And.intro @S.next_call (And.intro @S.next_callv (And.intro @S.oper_call (@S.oper_callv)))))))))))))))))))))))))))))))))))))))))))))))))))))))))))))))))))))))))))))))))))))))))))))))))))))))))))))))))))))))))))))))))))))))))))))))))))))))))))))))))))))))))))))) :=
  And.intro @S.tget_nil (And.intro @S.tget_zero (And.intro @S.tget_succ (And.intro @tget_tset (And.intro @S.aev_t (And.intro @S.aev_c (And.intro @S.ops_nil (And.intro @S.ops_cons (And.intro @S.op_none (And.intro @S.op_guard (And.intro @S.gd_t (And.intro @S.gd_f (And.intro @S.put_some (And.intro @S.put_none (And.intro @S.yield_def (And.intro @S.rval_bool (And.intro @S.keeps_bool (And.intro @S.oneCell_bool (And.intro @S.cellsOf_bool (And.intro @S.rval_int (And.intro @S.keeps_int (And.intro @S.oneCell_int (And.intro @S.cellsOf_int (And.intro @S.rval_str (And.intro @S.keeps_str (And.intro @S.oneCell_str (And.intro @S.cellsOf_str (And.intro @S.rval_nilp (And.intro @S.keeps_nilp (And.intro @S.oneCell_nilp (And.intro @S.cellsOf_nilp (And.intro @S.rval_ptr (And.intro @S.keeps_ptr (And.intro @S.oneCell_ptr (And.intro @S.cellsOf_ptr (And.intro @S.rval_pp (And.intro @S.keeps_pp (And.intro @S.oneCell_pp (And.intro @S.cellsOf_pp (And.intro @S.rval_nils (And.intro @S.keeps_nils (And.intro @S.oneCell_nils (And.intro @S.cellsOf_nils (And.intro @S.rval_sl (And.intro @S.keeps_sl (And.intro @S.oneCell_sl (And.intro @S.cellsOf_sl (And.intro @S.rval_ps (And.intro @S.keeps_ps (And.intro @S.oneCell_ps (And.intro @S.cellsOf_ps (And.intro @S.rval_nilm (And.intro @S.keeps_nilm (And.intro @S.oneCell_nilm (And.intro @S.cellsOf_nilm (And.intro @S.rval_mp (And.intro @S.keeps_mp (And.intro @S.oneCell_mp (And.intro @S.cellsOf_mp (And.intro @S.rval_func (And.intro @S.keeps_func (And.intro @S.oneCell_func (And.intro @S.cellsOf_func (And.intro @S.rval_nilf (And.intro @S.keeps_nilf (And.intro @S.oneCell_nilf (And.intro @S.cellsOf_nilf (And.intro @S.rval_iface (And.intro @S.keeps_iface (And.intro @S.oneCell_iface (And.intro @S.cellsOf_iface (And.intro @S.rval_nili (And.intro @S.keeps_nili (And.intro @S.oneCell_nili (And.intro @S.cellsOf_nili (And.intro @S.rval_agg (And.intro @S.keeps_agg (And.intro @S.oneCell_agg (And.intro @S.cellsOf_agg (And.intro @S.rval_tuple (And.intro @S.keeps_tuple (And.intro @S.oneCell_tuple (And.intro @S.cellsOf_tuple (And.intro @S.rval_rp (And.intro @S.keeps_rp (And.intro @S.oneCell_rp (And.intro @S.cellsOf_rp (And.intro @S.rval_reg (And.intro @S.next_mov (And.intro @S.oper_mov (And.intro @S.next_pick (And.intro @S.oper_pick (And.intro @S.next_nilchk (And.intro @S.oper_nilchk (And.intro @S.next_bin (And.intro @S.oper_bin (And.intro @S.next_eqv (And.intro @S.oper_eqv (And.intro @S.next_un (And.intro @S.oper_un (And.intro @S.next_conv (And.intro @S.oper_conv (And.intro @S.next_strId (And.intro @S.oper_strId (And.intro @S.next_mkfunc (And.intro @S.oper_mkfunc (And.intro @S.next_build (And.intro @S.oper_build (And.intro @S.next_bslice (And.intro @S.oper_bslice (And.intro @S.next_sliceStr (And.intro @S.oper_sliceStr (And.intro @S.next_sliceSl (And.intro @S.oper_sliceSl (And.intro @S.next_fieldAddr (And.intro @S.oper_fieldAddr (And.intro @S.next_field (And.intro @S.oper_field (And.intro @S.next_idxArr (And.intro @S.oper_idxArr (And.intro @S.next_idxSl (And.intro @S.oper_idxSl (And.intro @S.next_idxAgg (And.intro @S.oper_idxAgg (And.intro @S.next_idxStr (And.intro @S.oper_idxStr (And.intro @S.next_extract (And.intro @S.oper_extract (And.intro @S.next_len (And.intro @S.oper_len (And.intro @S.next_lenS (And.intro @S.oper_lenS (And.intro @S.next_cap (And.intro @S.oper_cap (And.intro @S.next_mn (And.intro @S.oper_mn (And.intro @S.next_mx (And.intro @S.oper_mx (And.intro @S.next_allocR (And.intro @S.oper_allocR (And.intro @S.next_boxR (And.intro @S.oper_boxR (And.intro @S.next_allocF (And.intro @S.oper_allocF (And.intro @S.next_boxF (And.intro @S.oper_boxF (And.intro @S.next_bsliceT (And.intro @S.oper_bsliceT (And.intro @S.next_load (And.intro @S.oper_load (And.intro @S.next_store (And.intro @S.oper_store (And.intro @S.next_strOf (And.intro @S.oper_strOf (And.intro @S.next_mkmap (And.intro @S.oper_mkmap (And.intro @S.next_mkslice (And.intro @S.oper_mkslice (And.intro @S.next_sliceArr (And.intro @S.oper_sliceArr (And.intro @S.next_lookup (And.intro @S.oper_lookup (And.intro @S.next_mapSet (And.intro @S.oper_mapSet (And.intro @S.next_lenM (And.intro @S.oper_lenM (And.intro @S.next_append (And.intro @S.oper_append (And.intro @S.next_copy (And.intro @S.oper_copy (And.intro @S.next_call (And.intro @S.next_callv (And.intro @S.oper_call (@S.oper_callv)))))))))))))))))))))))))))))))))))))))))))))))))))))))))))))))))))))))))))))))))))))))))))))))))))))))))))))))))))))))))))))))))))))))))))))))))))))))))))))))))))))))))))))
theorem R2 : type_of% (And.intro @S.p_nilchk (And.intro @S.p_strId (And.intro @S.p_sliceStr (And.intro @S.p_sliceSl (And.intro @S.p_fieldAddr (And.intro @S.p_field (And.intro @S.p_idxArr (And.intro @S.p_idxSl (And.intro @S.p_idxAgg (And.intro @S.p_idxStr (And.intro @S.p_extract (And.intro @S.p_lenS (And.intro @S.p_len (And.intro @S.p_cap (And.intro @S.m_load (And.intro @S.m_store (And.intro @S.m_strOf (And.intro @S.m_mkslice (And.intro @S.m_sliceArr (And.intro @S.m_lookup (And.intro @S.m_mapSet (And.intro @S.m_lenM (And.intro @S.m_append (@S.m_copy)))))))))))))))))))))))) :=
  And.intro @S.p_nilchk (And.intro @S.p_strId (And.intro @S.p_sliceStr (And.intro @S.p_sliceSl (And.intro @S.p_fieldAddr (And.intro @S.p_field (And.intro @S.p_idxArr (And.intro @S.p_idxSl (And.intro @S.p_idxAgg (And.intro @S.p_idxStr (And.intro @S.p_extract (And.intro @S.p_lenS (And.intro @S.p_len (And.intro @S.p_cap (And.intro @S.m_load (And.intro @S.m_store (And.intro @S.m_strOf (And.intro @S.m_mkslice (And.intro @S.m_sliceArr (And.intro @S.m_lookup (And.intro @S.m_mapSet (And.intro @S.m_lenM (And.intro @S.m_append (@S.m_copy)))))))))))))))))))))))
theorem R3 : type_of% (And.intro @S.cast0 (And.intro @S.cast1 (And.intro @S.cast_add (And.intro @S.cast_add1 (And.intro @S.cast_add2 (And.intro @S.cast_add3 (And.intro @S.cast_sub (And.intro @S.cast_sub1 (And.intro @S.cast_mul (And.intro @S.dec_lt (And.intro @S.dec_nlt (And.intro @S.dec_le (And.intro @S.dec_nle (And.intro @S.dec_eq (And.intro @S.dec_ne (And.intro @S.wrap_i64 (And.intro @S.wrap_u8 (And.intro @S.wrap_u64 (And.intro @S.wrap_u64_bv (And.intro @S.wrap_u8_8 (And.intro @S.wrap_i64_8 (And.intro @S.bi_add (And.intro @S.bi_sub (And.intro @S.bi_mul (And.intro @S.bb_add (And.intro @S.bb_sub (And.intro @S.b_quo (And.intro @S.b_rem (And.intro @S.b_eql (And.intro @S.b_neq (And.intro @S.b_lss (And.intro @S.b_leq (And.intro @S.b_gtr (And.intro @S.b_geq (And.intro @S.tdiv_64 (And.intro @S.tmod_64 (And.intro @S.tdiv_10 (And.intro @S.tmod_10 (And.intro @S.tdiv_2 (And.intro @S.tmod_2 (And.intro @S.tdiv_16 (And.intro @S.tmod_16 (And.intro @S.tdiv_8 (And.intro @S.tmod_8 (And.intro @S.tdiv_4 (And.intro @S.tmod_4 (And.intro @S.b_add64 (And.intro @S.b_sub64 (And.intro @S.b_sub641 (And.intro @S.b_or (And.intro @S.b_and (And.intro @S.b_and1 (And.intro @S.u_not64 (And.intro @S.b_shl (And.intro @S.b_shl1 (And.intro @S.b_shr (And.intro @S.bs_eql (And.intro @S.bs_neq (And.intro @S.u_not (And.intro @S.u_neg (And.intro @S.e_bool (And.intro @S.e_nilp (And.intro @S.e_pp (And.intro @S.e_ptr (And.intro @S.v_fa_ptr (And.intro @S.v_fa_rp (And.intro @S.v_fa_pp (And.intro @S.v_field (And.intro @S.load1 (And.intro @S.loadN (And.intro @S.v_nil_ptr (And.intro @S.v_nil_pp (And.intro @S.v_nil_rp (And.intro @S.v_nil_func (And.intro @S.v_ext (And.intro @S.v_lenS (And.intro @S.v_len_nils (And.intro @S.v_len_sl (And.intro @S.v_len_ps (And.intro @S.v_strId (And.intro @S.v_ia_rp (And.intro @S.v_ia_ptr (And.intro @S.v_ia_pp (And.intro @S.v_is_ps (And.intro @S.v_is_sl (And.intro @S.v_ig (And.intro @S.v_ix (And.intro @S.v_load_rp (And.intro @S.v_load_ptr (And.intro @S.v_load_ppt (And.intro @S.v_load_ppa (And.intro @S.loadR_reg (And.intro @S.loadH_some (And.intro @S.v_store_rp (And.intro @S.v_store_ptr (And.intro @S.storeR_one (And.intro @S.storeR_all (And.intro @S.storeH_one (And.intro @S.storeH_all (And.intro @S.tgReg_reg (And.intro @S.tgReg_any (And.intro @S.tgOk_any (And.intro @S.tgOk_tag (And.intro @S.okc_nil (And.intro @S.okc_cons (And.intro @S.argsA_nil (And.intro @S.argsA_cons (And.intro @S.parts_nil (And.intro @S.parts_cons (And.intro @S.fill_nil (And.intro @S.fill_cons (And.intro @S.p_build (And.intro @S.p_bslice (And.intro @S.p_box (And.intro @S.p_mkfunc (And.intro @S.p_mn (And.intro @S.p_mx (And.intro @S.mn2 (And.intro @S.mx2 (And.intro @S.mx3 (And.intro @S.m_boxF (And.intro @S.m_allocF (And.intro @S.m_mkmap (And.intro @S.noRefs_nil (And.intro @S.noRefs_cons (And.intro @S.noRef_int (And.intro @S.noRef_bool (And.intro @S.noRef_str (And.intro @S.noRef_ps (And.intro @S.noRef_pp (And.intro @S.noRef_nils (And.intro @S.noRef_nilp (And.intro @S.noRef_agg (And.intro @S.noRef_sl (And.intro @S.reps_zero (And.intro @S.reps_succ (And.intro @S.norms_nil (And.intro @S.norms_cons (And.intro @S.argsR_nil (And.intro @S.argsR_cons (And.intro @S.argR_int (And.intro @S.argR_bool (And.intro @S.argR_str (And.intro @S.argR_nilp (And.intro @S.argR_nils (And.intro @S.argR_ps (And.intro @S.argR_pp (And.intro @S.argR_aggI (And.intro @S.frz_aggI (And.intro @S.frz_int (And.intro @S.frz_bool (And.intro @S.frz_str (And.intro @S.frz_nilp (And.intro @S.frz_nils (And.intro @S.frz_ps (And.intro @S.frz_pp (And.intro @S.norm_int (And.intro @S.norm_bool (And.intro @S.norm_str (And.intro @S.norm_nilp (And.intro @S.norm_nils (And.intro @S.norm_ps (And.intro @S.norm_pp (And.intro @S.norm_agg (And.intro @S.norms_append (And.intro @S.purify_eq (And.intro @S.flat_int (And.intro @S.flat_bool (And.intro @S.flat_str (And.intro @S.flat_ps (And.intro @S.flat_pp (And.intro @S.flat_nils (And.intro @S.flat_nilp (And.intro @S.argR_tuple (And.intro @S.results_nil (And.intro @S.results_one (And.intro @S.results_two (And.intro @S.results_three (And.intro @S.result_t (And.intro @S.result_cell (@S.loadOf_rp))))))))))))))))))))))))))))))))))))))))))))))))))))))))))))))))))))))))))))))))))))))))))))))))))))))))))))))))))))))))))))))))))))))))))))))))))))))))))))))))))))))))))))))))))))) :=
  And.intro @S.cast0 (And.intro @S.cast1 (And.intro @S.cast_add (And.intro @S.cast_add1 (And.intro @S.cast_add2 (And.intro @S.cast_add3 (And.intro @S.cast_sub (And.intro @S.cast_sub1 (And.intro @S.cast_mul (And.intro @S.dec_lt (And.intro @S.dec_nlt (And.intro @S.dec_le (And.intro @S.dec_nle (And.intro @S.dec_eq (And.intro @S.dec_ne (And.intro @S.wrap_i64 (And.intro @S.wrap_u8 (And.intro @S.wrap_u64 (And.intro @S.wrap_u64_bv (And.intro @S.wrap_u8_8 (And.intro @S.wrap_i64_8 (And.intro @S.bi_add (And.intro @S.bi_sub (And.intro @S.bi_mul (And.intro @S.bb_add (And.intro @S.bb_sub (And.intro @S.b_quo (And.intro @S.b_rem (And.intro @S.b_eql (And.intro @S.b_neq (And.intro @S.b_lss (And.intro @S.b_leq (And.intro @S.b_gtr (And.intro @S.b_geq (And.intro @S.tdiv_64 (And.intro @S.tmod_64 (And.intro @S.tdiv_10 (And.intro @S.tmod_10 (And.intro @S.tdiv_2 (And.intro @S.tmod_2 (And.intro @S.tdiv_16 (And.intro @S.tmod_16 (And.intro @S.tdiv_8 (And.intro @S.tmod_8 (And.intro @S.tdiv_4 (And.intro @S.tmod_4 (And.intro @S.b_add64 (And.intro @S.b_sub64 (And.intro @S.b_sub641 (And.intro @S.b_or (And.intro @S.b_and (And.intro @S.b_and1 (And.intro @S.u_not64 (And.intro @S.b_shl (And.intro @S.b_shl1 (And.intro @S.b_shr (And.intro @S.bs_eql (And.intro @S.bs_neq (And.intro @S.u_not (And.intro @S.u_neg (And.intro @S.e_bool (And.intro @S.e_nilp (And.intro @S.e_pp (And.intro @S.e_ptr (And.intro @S.v_fa_ptr (And.intro @S.v_fa_rp (And.intro @S.v_fa_pp (And.intro @S.v_field (And.intro @S.load1 (And.intro @S.loadN (And.intro @S.v_nil_ptr (And.intro @S.v_nil_pp (And.intro @S.v_nil_rp (And.intro @S.v_nil_func (And.intro @S.v_ext (And.intro @S.v_lenS (And.intro @S.v_len_nils (And.intro @S.v_len_sl (And.intro @S.v_len_ps (And.intro @S.v_strId (And.intro @S.v_ia_rp (And.intro @S.v_ia_ptr (And.intro @S.v_ia_pp (And.intro @S.v_is_ps (And.intro @S.v_is_sl (And.intro @S.v_ig (And.intro @S.v_ix (And.intro @S.v_load_rp (And.intro @S.v_load_ptr (And.intro @S.v_load_ppt (And.intro @S.v_load_ppa (And.intro @S.loadR_reg (And.intro @S.loadH_some (And.intro @S.v_store_rp (And.intro @S.v_store_ptr (And.intro @S.storeR_one (And.intro @S.storeR_all (And.intro @S.storeH_one (And.intro @S.storeH_all (And.intro @S.tgReg_reg (And.intro @S.tgReg_any (And.intro @S.tgOk_any (And.intro @S.tgOk_tag (And.intro @S.okc_nil (And.intro @S.okc_cons (And.intro @S.argsA_nil (And.intro @S.argsA_cons (And.intro @S.parts_nil (And.intro @S.parts_cons (And.intro @S.fill_nil (And.intro @S.fill_cons (And.intro @S.p_build (And.intro @S.p_bslice (And.intro @S.p_box (And.intro @S.p_mkfunc (And.intro @S.p_mn (And.intro @S.p_mx (And.intro @S.mn2 (And.intro @S.mx2 (And.intro @S.mx3 (And.intro @S.m_boxF (And.intro @S.m_allocF (And.intro @S.m_mkmap (And.intro @S.noRefs_nil (And.intro @S.noRefs_cons (And.intro @S.noRef_int (And.intro @S.noRef_bool (And.intro @S.noRef_str (And.intro @S.noRef_ps (And.intro @S.noRef_pp (And.intro @S.noRef_nils (And.intro @S.noRef_nilp (And.intro @S.noRef_agg (And.intro @S.noRef_sl (And.intro @S.reps_zero (And.intro @S.reps_succ (And.intro @S.norms_nil (And.intro @S.norms_cons (And.intro @S.argsR_nil (And.intro @S.argsR_cons (And.intro @S.argR_int (And.intro @S.argR_bool (And.intro @S.argR_str (And.intro @S.argR_nilp (And.intro @S.argR_nils (And.intro @S.argR_ps (And.intro @S.argR_pp (And.intro @S.argR_aggI (And.intro @S.frz_aggI (And.intro @S.frz_int (And.intro @S.frz_bool (And.intro @S.frz_str (And.intro @S.frz_nilp (And.intro @S.frz_nils (And.intro @S.frz_ps (And.intro @S.frz_pp (And.intro @S.norm_int (And.intro @S.norm_bool (And.intro @S.norm_str (And.intro @S.norm_nilp (And.intro @S.norm_nils (And.intro @S.norm_ps (And.intro @S.norm_pp (And.intro @S.norm_agg (And.intro @S.norms_append (And.intro @S.purify_eq (And.intro @S.flat_int (And.intro @S.flat_bool (And.intro @S.flat_str (And.intro @S.flat_ps (And.intro @S.flat_pp (And.intro @S.flat_nils (And.intro @S.flat_nilp (And.intro @S.argR_tuple (And.intro @S.results_nil (And.intro @S.results_one (And.intro @S.results_two (And.intro @S.results_three (And.intro @S.result_t (And.intro @S.result_cell (@S.loadOf_rp))))))))))))))))))))))))))))))))))))))))))))))))))))))))))))))))))))))))))))))))))))))))))))))))))))))))))))))))))))))))))))))))))))))))))))))))))))))))))))))))))))))))))))))))))))
theorem R4 : type_of% (And.intro @if_true.{1} (And.intro @if_false.{1} (And.intro @ite_self.{1} (And.intro @and_true (And.intro @true_and (And.intro @and_self (And.intro @true_or (And.intro @or_true (And.intro @or_false (And.intro @false_or (And.intro @and_false (And.intro @false_and (And.intro @not_true_eq_false (And.intro @not_false_eq_true (And.intro @Bool.and_true (And.intro @Bool.true_and (And.intro @Bool.and_false (And.intro @Bool.false_and (And.intro @Bool.or_true (And.intro @Bool.true_or (And.intro @Bool.or_false (And.intro @Bool.false_or (And.intro @Bool.not_true (And.intro @Bool.not_false (And.intro @Bool.false_eq_true (And.intro @Bool.bne_false (And.intro @Bool.bne_true (And.intro @Bool.not_not (And.intro @decide_true (And.intro @decide_false (And.intro @eq_self_iff_true.{1} (And.intro @Option.bind_some.{0,0} (And.intro @Option.bind_none.{0,0} (And.intro @Option.map_some.{0,0} (And.intro @Option.map_none.{0,0} (And.intro @List.length_cons.{0} (And.intro @List.length_nil.{0} (And.intro @List.getElem?_cons_zero.{0} (And.intro @List.getElem?_cons_succ.{0} (And.intro @List.getElem?_nil.{0} (And.intro @List.all_cons.{0} (And.intro @List.all_nil.{0} (And.intro @List.foldl_cons.{0,0} (And.intro @List.foldl_nil.{0,0} (And.intro @List.head?_cons.{0} (And.intro @List.head?_nil.{0} (And.intro @List.nil_append.{0} (And.intro @List.append_nil.{0} (And.intro @List.cons_append.{0} (And.intro @List.drop_zero.{0} (And.intro @List.take_zero.{0} (And.intro @List.take_of_length_le.{0} (And.intro @List.getElem?_drop.{0} (And.intro @List.drop_drop.{0} (And.intro @List.drop_succ_cons.{0} (And.intro @List.take_succ_cons.{0} (And.intro @List.drop_nil.{0} (And.intro @List.take_nil.{0} (And.intro @List.set_cons_zero.{0} (And.intro @List.set_cons_succ.{0} (And.intro @beq_self_eq_true.{0} (And.intro @Int.toNat_natCast (And.intro @Int.toNat_zero (And.intro @Nat.add_sub_cancel (And.intro @Nat.add_one_sub_one (And.intro @Int.add_sub_cancel (And.intro @Nat.zero_add (And.intro @Nat.add_zero (And.intro @Nat.mul_one (And.intro @Nat.one_mul (And.intro @Nat.zero_mul (And.intro @Nat.mul_zero (And.intro @Int.add_zero (And.intro @Int.zero_add (And.intro @Option.getD_some.{0} (And.intro @Option.getD_none.{0} (And.intro @Nat.max_self (And.intro @Nat.zero_max (@Nat.max_zero))))))))))))))))))))))))))))))))))))))))))))))))))))))))))))))))))))))))))))))) :=
  And.intro @if_true.{1} (And.intro @if_false.{1} (And.intro @ite_self.{1} (And.intro @and_true (And.intro @true_and (And.intro @and_self (And.intro @true_or (And.intro @or_true (And.intro @or_false (And.intro @false_or (And.intro @and_false (And.intro @false_and (And.intro @not_true_eq_false (And.intro @not_false_eq_true (And.intro @Bool.and_true (And.intro @Bool.true_and (And.intro @Bool.and_false (And.intro @Bool.false_and (And.intro @Bool.or_true (And.intro @Bool.true_or (And.intro @Bool.or_false (And.intro @Bool.false_or (And.intro @Bool.not_true (And.intro @Bool.not_false (And.intro @Bool.false_eq_true (And.intro @Bool.bne_false (And.intro @Bool.bne_true (And.intro @Bool.not_not (And.intro @decide_true (And.intro @decide_false (And.intro @eq_self_iff_true.{1} (And.intro @Option.bind_some.{0,0} (And.intro @Option.bind_none.{0,0} (And.intro @Option.map_some.{0,0} (And.intro @Option.map_none.{0,0} (And.intro @List.length_cons.{0} (And.intro @List.length_nil.{0} (And.intro @List.getElem?_cons_zero.{0} (And.intro @List.getElem?_cons_succ.{0} (And.intro @List.getElem?_nil.{0} (And.intro @List.all_cons.{0} (And.intro @List.all_nil.{0} (And.intro @List.foldl_cons.{0,0} (And.intro @List.foldl_nil.{0,0} (And.intro @List.head?_cons.{0} (And.intro @List.head?_nil.{0} (And.intro @List.nil_append.{0} (And.intro @List.append_nil.{0} (And.intro @List.cons_append.{0} (And.intro @List.drop_zero.{0} (And.intro @List.take_zero.{0} (And.intro @List.take_of_length_le.{0} (And.intro @List.getElem?_drop.{0} (And.intro @List.drop_drop.{0} (And.intro @List.drop_succ_cons.{0} (And.intro @List.take_succ_cons.{0} (And.intro @List.drop_nil.{0} (And.intro @List.take_nil.{0} (And.intro @List.set_cons_zero.{0} (And.intro @List.set_cons_succ.{0} (And.intro @beq_self_eq_true.{0} (And.intro @Int.toNat_natCast (And.intro @Int.toNat_zero (And.intro @Nat.add_sub_cancel (And.intro @Nat.add_one_sub_one (And.intro @Int.add_sub_cancel (And.intro @Nat.zero_add (And.intro @Nat.add_zero (And.intro @Nat.mul_one (And.intro @Nat.one_mul (And.intro @Nat.zero_mul (And.intro @Nat.mul_zero (And.intro @Int.add_zero (And.intro @Int.zero_add (And.intro @Option.getD_some.{0} (And.intro @Option.getD_none.{0} (And.intro @Nat.max_self (And.intro @Nat.zero_max (@Nat.max_zero))))))))))))))))))))))))))))))))))))))))))))))))))))))))))))))))))))))))))))))
end Go.Abs

/- Typed values as trees: sets of bytes, rows of bytes, of numbers, .. -/
namespace Go.Abs

/-! ### sets of bytes -/
abbrev BSet := BitVec 256
def sword (s : BSet) (i : Nat) : BitVec 64 := s.extractLsb' (64 * i) 64
def scells (s : BSet) : List AV := [.int .u64 (sword s 0).toNat, .int .u64 (sword s 1).toNat, .int .u64 (sword s 2).toNat, .int .u64 (sword s 3).toNat]
theorem scells_len (s : BSet) : (scells s).length = 4 := rfl
theorem scells_get (s : BSet) {i : Nat} (h : i < 4) : (scells s)[i]? = some (.int .u64 (sword s i).toNat) := by
  match i, h with
  | 0, _ => rfl
  | 1, _ => rfl
  | 2, _ => rfl
  | 3, _ => rfl
theorem scells_okc (s : BSet) : S.okc (scells s) = true := rfl
theorem scells_flat (s : BSet) : (scells s).all S.flat = true := rfl
theorem scells_norm (s : BSet) : norms (scells s) = scells s := rfl
theorem scells_noRef (s : BSet) : noRefs (scells s) = true := rfl
theorem scells_zero : [.int .u64 0, .int .u64 0, .int .u64 0, .int .u64 0] = scells 0 := rfl
theorem sword_bit (s : BSet) (i j : Nat) : (sword s i).getLsbD j = (decide (j < 64) && s.getLsbD (64 * i + j)) := by
  simp [sword, BitVec.getLsbD_extractLsb']
theorem sword_ext {s t : BSet} (h : ∀ i, i < 4 → sword s i = sword t i) : s = t := by
  apply BitVec.eq_of_getLsbD_eq
  intro b hb
  have h1 := congrArg (fun w => w.getLsbD (b % 64)) (h (b / 64) (by omega))
  simp only [sword_bit] at h1
  have e : 64 * (b / 64) + b % 64 = b := by omega
  have e2 : decide (b % 64 < 64) = true := decide_eq_true (by omega)
  rw [e, e2] at h1
  simpa using h1
theorem scells_inj {s t : BSet} (h : scells s = scells t) : s = t := by
  refine sword_ext fun i hi => ?_
  have h1 := scells_get s hi
  rw [h, scells_get t hi] at h1
  simp only [Option.some.injEq, AV.int.injEq, true_and] at h1
  exact BitVec.eq_of_toNat_eq (by omega)
theorem eq_int4 (s t : BSet) : eqVal (.arr 4 1 .int) (.agg (scells s)) (.agg (scells t)) = some (decide (s = t)) := by
  have key : ∀ a b c d a' b' c' d' : BitVec 64, eqVal (.arr 4 1 .int) (.agg [.int .u64 a.toNat, .int .u64 b.toNat, .int .u64 c.toNat, .int .u64 d.toNat]) (.agg [.int .u64 a'.toNat, .int .u64 b'.toNat, .int .u64 c'.toNat, .int .u64 d'.toNat]) = some (decide (a = a' ∧ b = b' ∧ c = c' ∧ d = d')) := by
    intro a b c d a' b' c' d'
    have hn : ∀ x y : BitVec 64, (((x.toNat : Int) == (y.toNat : Int)) = decide (x = y)) := fun x y => by
      by_cases h : x = y
      · simp [h]
      · have : ¬ ((x.toNat : Int) = y.toNat) := fun he => h (BitVec.eq_of_toNat_eq (by omega))
        simp [h, this]
    simp only [eqVal, shAgg, if_true, eqCells, eqArr, List.length_cons, List.length_nil, List.take_succ_cons, List.take_zero, List.drop_succ_cons, List.drop_zero, hn]
    by_cases h1 : a = a' <;> by_cases h2 : b = b' <;> by_cases h3 : c = c' <;> by_cases h4 : d = d' <;> simp [h1, h2, h3, h4]
  refine (key _ _ _ _ _ _ _ _).trans ?_
  congr 1
  by_cases h : s = t
  · subst h; simp
  · simp only [h, decide_false, decide_eq_false_iff_not]
    rintro ⟨h0, h1, h2, h3⟩
    exact h (sword_ext fun i hi => by
      match i, hi with
      | 0, _ => exact h0
      | 1, _ => exact h1
      | 2, _ => exact h2
      | 3, _ => exact h3)
theorem has_bit (s : BSet) {b : Nat} (hb : b < 256) : decide ((((sword s (b / 64) >>> (b % 64)) &&& 1#64).toNat : Int) = 1) = s.getLsbD b := by
  have h1 : ((sword s (b / 64) >>> (b % 64)) &&& 1#64) = if s.getLsbD b then 1#64 else 0#64 := by
    apply BitVec.eq_of_getLsbD_eq
    intro i hi
    rw [BitVec.getLsbD_and, BitVec.getLsbD_ushiftRight, sword_bit, BitVec.getLsbD_one]
    by_cases h0 : i = 0
    · subst h0
      have e : 64 * (b / 64) + (b % 64 + 0) = b := by omega
      have e2 : b % 64 + 0 < 64 := by omega
      rw [e]
      cases s.getLsbD b <;> simp [e2] <;> omega
    · cases s.getLsbD b <;> simp [h0]
  rw [h1]
  cases s.getLsbD b <;> simp
theorem scells_set {s t : BSet} {i : Nat} (hi : i < 4) {w : BitVec 64} (h : ∀ j, j < 4 → sword t j = if i = j then w else sword s j) : (scells s).set i (.int .u64 w.toNat) = scells t := by
  have k0 := h 0 (by omega)
  have k1 := h 1 (by omega)
  have k2 := h 2 (by omega)
  have k3 := h 3 (by omega)
  have hi4 : i = 0 ∨ i = 1 ∨ i = 2 ∨ i = 3 := by omega
  clear h hi
  rcases hi4 with rfl | rfl | rfl | rfl
  all_goals
    simp only [Nat.reduceEqDiff, if_true, if_false, reduceIte] at k0 k1 k2 k3
    unfold scells
    rw [k0, k1, k2, k3]
    rfl
theorem scells_set_or (s : BSet) {b : Nat} (hb : b < 256) : (scells s).set (b / 64) (.int .u64 (sword s (b / 64) ||| 1#64 <<< (b % 64)).toNat) = scells (s ||| 1#256 <<< b) := by
  refine scells_set (by omega) fun i hi => ?_
  apply BitVec.eq_of_getLsbD_eq
  intro j hj
  rw [sword_bit, BitVec.getLsbD_or, BitVec.getLsbD_shiftLeft, BitVec.getLsbD_one]
  by_cases h : b / 64 = i
  · rw [if_pos h, h, BitVec.getLsbD_or, sword_bit, BitVec.getLsbD_shiftLeft, BitVec.getLsbD_one]
    have h1 : (decide (64 * i + j < b) = decide (j < b % 64)) := by congr 1; apply propext; omega
    have h2 : (decide (64 * i + j - b = 0) = decide (j - b % 64 = 0)) := by congr 1; apply propext; omega
    have h3 : decide (64 * i + j < 256) = true := decide_eq_true (by omega)
    simp [h1, hj, h2, h3]
  · rw [if_neg h, sword_bit]
    have h4 : (decide (64 * i + j < 256) && !decide (64 * i + j < b) && (decide (0 < 256) && decide (64 * i + j - b = 0))) = false := by
      simp; omega
    rw [h4, Bool.or_false]
theorem sword_or (s t : BSet) (i : Nat) : sword (s ||| t) i = sword s i ||| sword t i := by
  apply BitVec.eq_of_getLsbD_eq
  intro j hj
  rw [sword_bit, BitVec.getLsbD_or, BitVec.getLsbD_or, sword_bit, sword_bit]
  simp [hj]
theorem sword_and (s t : BSet) (i : Nat) : sword (s &&& t) i = sword s i &&& sword t i := by
  apply BitVec.eq_of_getLsbD_eq
  intro j hj
  rw [sword_bit, BitVec.getLsbD_and, BitVec.getLsbD_and, sword_bit, sword_bit]
  simp [hj]
theorem sword_not (s : BSet) {i : Nat} (hi : i < 4) : sword (~~~s) i = ~~~(sword s i) := by
  apply BitVec.eq_of_getLsbD_eq
  intro j hj
  have : 64 * i + j < 256 := by omega
  rw [sword_bit, BitVec.getLsbD_not, BitVec.getLsbD_not, sword_bit]
  simp [hj, this]

/-! ### rows -/
def bcells (l : List UInt8) : List AV := l.map fun b => .int .u8 b.toNat
def icells (l : List Int) : List AV := l.map fun n => .int .i64 n
def ucells (l : List (BitVec 64)) : List AV := l.map fun n => .int .u64 n.toNat
def ocells (l : List Bool) : List AV := l.map fun b => .bool b
def strcells (l : List (List UInt8)) : List AV := l.map fun s => .str s
theorem map_flat {α : Type} (f : α → AV) (hf : ∀ x, S.flat (f x) = true) (l : List α) : (l.map f).all S.flat = true := by simp [hf]
theorem map_norm {α : Type} (f : α → AV) (hf : ∀ x, norm (f x) = f x) (l : List α) : norms (l.map f) = l.map f := by
  induction l with
  | nil => rfl
  | cons x l ih => simp [norms, hf, ih]
theorem map_okc {α : Type} (f : α → AV) (hf : ∀ x, (oneCell (f x) && keeps (f x)) = true) (l : List α) : S.okc (l.map f) = true := by
  simp only [S.okc, List.all_map, List.all_eq_true]
  exact fun x _ => hf x
theorem map_noRef {α : Type} (f : α → AV) (hf : ∀ x, noRef (f x) = true) (l : List α) : noRefs (l.map f) = true := by
  induction l with
  | nil => rfl
  | cons x l ih => simp [noRefs, hf, ih]
theorem map_one {α : Type} (f : α → AV) (hf : ∀ x, oneCell (f x) = true) (l : List α) : (l.map f).all oneCell = true := by simp [hf]
theorem bcells_len (l : List (UInt8)) : (bcells l).length = l.length := by simp [bcells]
theorem bcells_get (l : List (UInt8)) {i : Nat} (h : i < l.length) : (bcells l)[i]? = some (.int .u8 (l[i]).toNat) := by simp [bcells, h]
theorem bcells_okc (l : List (UInt8)) : S.okc (bcells l) = true := map_okc _ (fun _ => rfl) l
theorem bcells_flat (l : List (UInt8)) : (bcells l).all S.flat = true := map_flat _ (fun _ => rfl) l
theorem bcells_norm (l : List (UInt8)) : norms (bcells l) = bcells l := map_norm _ (fun _ => rfl) l
theorem bcells_noRef (l : List (UInt8)) : noRefs (bcells l) = true := map_noRef _ (fun _ => rfl) l
theorem bcells_one (l : List (UInt8)) : (bcells l).all oneCell = true := map_one _ (fun _ => rfl) l
theorem bcells_app (l m : List (UInt8)) : bcells (l ++ m) = bcells l ++ bcells m := by simp [bcells]
theorem bcells_nil : bcells [] = [] := rfl
theorem bcells_cons (x : UInt8) (l : List (UInt8)) : bcells (x :: l) = .int .u8 x.toNat :: bcells l := rfl
theorem bcells_set (l : List (UInt8)) (i : Nat) (x : UInt8) : (bcells l).set i (.int .u8 x.toNat) = bcells (l.set i x) := by simp [bcells, List.map_set]
theorem bcells_take (l : List (UInt8)) (k : Nat) : (bcells l).take k = bcells (l.take k) := by simp [bcells]
theorem bcells_drop (l : List (UInt8)) (k : Nat) : (bcells l).drop k = bcells (l.drop k) := by simp [bcells]
theorem icells_len (l : List (Int)) : (icells l).length = l.length := by simp [icells]
theorem icells_get (l : List (Int)) {i : Nat} (h : i < l.length) : (icells l)[i]? = some (.int .i64 l[i]) := by simp [icells, h]
theorem icells_okc (l : List (Int)) : S.okc (icells l) = true := map_okc _ (fun _ => rfl) l
theorem icells_flat (l : List (Int)) : (icells l).all S.flat = true := map_flat _ (fun _ => rfl) l
theorem icells_norm (l : List (Int)) : norms (icells l) = icells l := map_norm _ (fun _ => rfl) l
theorem icells_noRef (l : List (Int)) : noRefs (icells l) = true := map_noRef _ (fun _ => rfl) l
theorem icells_one (l : List (Int)) : (icells l).all oneCell = true := map_one _ (fun _ => rfl) l
theorem icells_app (l m : List (Int)) : icells (l ++ m) = icells l ++ icells m := by simp [icells]
theorem icells_nil : icells [] = [] := rfl
theorem icells_cons (x : Int) (l : List (Int)) : icells (x :: l) = .int .i64 x :: icells l := rfl
theorem icells_set (l : List (Int)) (i : Nat) (x : Int) : (icells l).set i (.int .i64 x) = icells (l.set i x) := by simp [icells, List.map_set]
theorem icells_take (l : List (Int)) (k : Nat) : (icells l).take k = icells (l.take k) := by simp [icells]
theorem icells_drop (l : List (Int)) (k : Nat) : (icells l).drop k = icells (l.drop k) := by simp [icells]
theorem ucells_len (l : List (BitVec 64)) : (ucells l).length = l.length := by simp [ucells]
theorem ucells_get (l : List (BitVec 64)) {i : Nat} (h : i < l.length) : (ucells l)[i]? = some (.int .u64 (l[i]).toNat) := by simp [ucells, h]
theorem ucells_okc (l : List (BitVec 64)) : S.okc (ucells l) = true := map_okc _ (fun _ => rfl) l
theorem ucells_flat (l : List (BitVec 64)) : (ucells l).all S.flat = true := map_flat _ (fun _ => rfl) l
theorem ucells_norm (l : List (BitVec 64)) : norms (ucells l) = ucells l := map_norm _ (fun _ => rfl) l
theorem ucells_noRef (l : List (BitVec 64)) : noRefs (ucells l) = true := map_noRef _ (fun _ => rfl) l
theorem ucells_one (l : List (BitVec 64)) : (ucells l).all oneCell = true := map_one _ (fun _ => rfl) l
theorem ucells_app (l m : List (BitVec 64)) : ucells (l ++ m) = ucells l ++ ucells m := by simp [ucells]
theorem ucells_nil : ucells [] = [] := rfl
theorem ucells_cons (x : BitVec 64) (l : List (BitVec 64)) : ucells (x :: l) = .int .u64 x.toNat :: ucells l := rfl
theorem ucells_set (l : List (BitVec 64)) (i : Nat) (x : BitVec 64) : (ucells l).set i (.int .u64 x.toNat) = ucells (l.set i x) := by simp [ucells, List.map_set]
theorem ucells_take (l : List (BitVec 64)) (k : Nat) : (ucells l).take k = ucells (l.take k) := by simp [ucells]
theorem ucells_drop (l : List (BitVec 64)) (k : Nat) : (ucells l).drop k = ucells (l.drop k) := by simp [ucells]
theorem ocells_len (l : List (Bool)) : (ocells l).length = l.length := by simp [ocells]
theorem ocells_get (l : List (Bool)) {i : Nat} (h : i < l.length) : (ocells l)[i]? = some (.bool l[i]) := by simp [ocells, h]
theorem ocells_okc (l : List (Bool)) : S.okc (ocells l) = true := map_okc _ (fun _ => rfl) l
theorem ocells_flat (l : List (Bool)) : (ocells l).all S.flat = true := map_flat _ (fun _ => rfl) l
theorem ocells_norm (l : List (Bool)) : norms (ocells l) = ocells l := map_norm _ (fun _ => rfl) l
theorem ocells_noRef (l : List (Bool)) : noRefs (ocells l) = true := map_noRef _ (fun _ => rfl) l
theorem ocells_one (l : List (Bool)) : (ocells l).all oneCell = true := map_one _ (fun _ => rfl) l
theorem ocells_app (l m : List (Bool)) : ocells (l ++ m) = ocells l ++ ocells m := by simp [ocells]
theorem ocells_nil : ocells [] = [] := rfl
theorem ocells_cons (x : Bool) (l : List (Bool)) : ocells (x :: l) = .bool x :: ocells l := rfl
theorem ocells_set (l : List (Bool)) (i : Nat) (x : Bool) : (ocells l).set i (.bool x) = ocells (l.set i x) := by simp [ocells, List.map_set]
theorem ocells_take (l : List (Bool)) (k : Nat) : (ocells l).take k = ocells (l.take k) := by simp [ocells]
theorem ocells_drop (l : List (Bool)) (k : Nat) : (ocells l).drop k = ocells (l.drop k) := by simp [ocells]
theorem strcells_len (l : List (List UInt8)) : (strcells l).length = l.length := by simp [strcells]
theorem strcells_get (l : List (List UInt8)) {i : Nat} (h : i < l.length) : (strcells l)[i]? = some (.str l[i]) := by simp [strcells, h]
theorem strcells_okc (l : List (List UInt8)) : S.okc (strcells l) = true := map_okc _ (fun _ => rfl) l
theorem strcells_flat (l : List (List UInt8)) : (strcells l).all S.flat = true := map_flat _ (fun _ => rfl) l
theorem strcells_norm (l : List (List UInt8)) : norms (strcells l) = strcells l := map_norm _ (fun _ => rfl) l
theorem strcells_noRef (l : List (List UInt8)) : noRefs (strcells l) = true := map_noRef _ (fun _ => rfl) l
theorem strcells_one (l : List (List UInt8)) : (strcells l).all oneCell = true := map_one _ (fun _ => rfl) l
theorem strcells_app (l m : List (List UInt8)) : strcells (l ++ m) = strcells l ++ strcells m := by simp [strcells]
theorem strcells_nil : strcells [] = [] := rfl
theorem strcells_cons (x : List UInt8) (l : List (List UInt8)) : strcells (x :: l) = .str x :: strcells l := rfl
theorem strcells_set (l : List (List UInt8)) (i : Nat) (x : List UInt8) : (strcells l).set i (.str x) = strcells (l.set i x) := by simp [strcells, List.map_set]
theorem strcells_take (l : List (List UInt8)) (k : Nat) : (strcells l).take k = strcells (l.take k) := by simp [strcells]
theorem strcells_drop (l : List (List UInt8)) (k : Nat) : (strcells l).drop k = strcells (l.drop k) := by simp [strcells]

theorem head_drop (l : List AV) (i : Nat) : (l.drop i).head? = l[i]? := by simp [List.head?_drop]

/-! ### four words -/
def wcells (f : Nat → BitVec 64) : List AV := [.int .u64 (f 0).toNat, .int .u64 (f 1).toNat, .int .u64 (f 2).toNat, .int .u64 (f 3).toNat]
theorem wcells_len (f : Nat → BitVec 64) : (wcells f).length = 4 := rfl
theorem wcells_okc (f : Nat → BitVec 64) : S.okc (wcells f) = true := rfl
theorem wcells_get (f : Nat → BitVec 64) {i : Nat} (h : i < 4) : (wcells f)[i]? = some (.int .u64 (f i).toNat) := by
  match i, h with
  | 0, _ => rfl
  | 1, _ => rfl
  | 2, _ => rfl
  | 3, _ => rfl
theorem wcells_set (f : Nat → BitVec 64) {i : Nat} (h : i < 4) (w : BitVec 64) : (wcells f).set i (.int .u64 w.toNat) = wcells (fun j => if j = i then w else f j) := by
  have hi : i = 0 ∨ i = 1 ∨ i = 2 ∨ i = 3 := by omega
  rcases hi with rfl | rfl | rfl | rfl <;> simp [wcells]
theorem wcells_s (s : BSet) : scells s = wcells (sword s) := rfl
theorem wcells_eq {f g : Nat → BitVec 64} (h : ∀ j, j < 4 → f j = g j) : wcells f = wcells g := by
  simp only [wcells, h 0 (by omega), h 1 (by omega), h 2 (by omega), h 3 (by omega)]

/-! ### rows of rows -/
def rows {α : Type} (f : α → List AV) (l : List α) : List AV := (l.map f).flatten
section
variable {α : Type} {f : α → List AV} {k : Nat}
theorem rows_nil : rows f [] = [] := rfl
theorem rows_cons (x : α) (l : List α) : rows f (x :: l) = f x ++ rows f l := rfl
theorem rows_app (l m : List α) : rows f (l ++ m) = rows f l ++ rows f m := by simp [rows]
theorem rows_snoc (l : List α) (x : α) : rows f (l ++ [x]) = rows f l ++ f x := by simp [rows]
theorem rows_len (hk : ∀ x, (f x).length = k) : ∀ l : List α, (rows f l).length = l.length * k
  | [] => by simp [rows_nil]
  | x :: l => by simp [rows_cons, hk, rows_len hk l, Nat.add_mul, Nat.add_comm]
theorem rows_drop (hk : ∀ x, (f x).length = k) : ∀ (l : List α) (i : Nat), (rows f l).drop (i * k) = rows f (l.drop i)
  | l, 0 => by simp
  | [], i + 1 => by simp [rows_nil]
  | x :: l, i + 1 => by
    have e : (i + 1) * k = (f x).length + i * k := by rw [hk, Nat.add_mul]; omega
    rw [rows_cons, e, List.drop_append, List.drop_succ_cons, List.drop_eq_nil_of_le (Nat.le_add_right _ _), Nat.add_sub_cancel_left, rows_drop hk l i]
    simp
theorem rows_at (hk : ∀ x, (f x).length = k) {l : List α} {i : Nat} (h : i < l.length) : ((rows f l).drop (i * k)).take k = f l[i] := by
  rw [rows_drop hk, List.drop_eq_getElem_cons h, rows_cons, ← hk l[i], List.take_left]
theorem rows_get (hk : ∀ x, (f x).length = k) {l : List α} {i j : Nat} (h : i < l.length) (hj : j < k) : (rows f l)[i * k + j]? = (f l[i])[j]? := by
  have h1 : ((rows f l).drop (i * k))[j]? = (f l[i])[j]? := by
    rw [rows_drop hk, List.drop_eq_getElem_cons h, rows_cons, List.getElem?_append_left (by rw [hk]; exact hj)]
  rw [← h1, List.getElem?_drop]
theorem rows_all {p : AV → Bool} (hp : ∀ x, (f x).all p = true) (l : List α) : (rows f l).all p = true := by
  simp only [rows, List.all_flatten, List.all_map, List.all_eq_true]
  exact fun x _ => by simpa using hp x
theorem rows_flat (hp : ∀ x, (f x).all S.flat = true) (l : List α) : (rows f l).all S.flat = true := rows_all hp l
theorem rows_one (hp : ∀ x, (f x).all oneCell = true) (l : List α) : (rows f l).all oneCell = true := rows_all hp l
theorem rows_norm (hp : ∀ x, norms (f x) = f x) : ∀ l : List α, norms (rows f l) = rows f l
  | [] => rfl
  | x :: l => by rw [rows_cons, S.norms_append, hp, rows_norm hp l]
end
def setcells (l : List BSet) : List AV := rows scells l
theorem setcells_len (l : List BSet) : (setcells l).length = l.length * 4 := rows_len scells_len l
theorem setcells_at {l : List BSet} {i : Nat} (h : i < l.length) : ((setcells l).drop (i * 4)).take 4 = scells l[i] := rows_at scells_len h
theorem setcells_get {l : List BSet} {i j : Nat} (h : i < l.length) (hj : j < 4) : (setcells l)[i * 4 + j]? = some (.int .u64 (sword l[i] j).toNat) := by
  rw [← scells_get l[i] hj]; exact rows_get scells_len h hj
theorem setcells_flat (l : List BSet) : (setcells l).all S.flat = true := rows_flat scells_flat l
theorem setcells_norm (l : List BSet) : norms (setcells l) = setcells l := rows_norm scells_norm l
theorem setcells_snoc (l : List BSet) (s : BSet) : setcells (l ++ [s]) = setcells l ++ scells s := rows_snoc l s

theorem R5 : type_of% (And.intro @scells_len (And.intro @wcells_len (And.intro @setcells_len (And.intro @List.length_append.{0} (And.intro @List.length_set.{0} (And.intro @List.length_take.{0} (And.intro @List.length_drop.{0} (And.intro @List.length_map.{0,0} (And.intro @List.length_replicate.{0} (And.intro @List.length_cons.{0} (And.intro @List.length_nil.{0} (And.intro @List.length_reverse.{0} (And.intro @bcells_len (And.intro @icells_len (And.intro @ucells_len (And.intro @ocells_len (@strcells_len))))))))))))))))):=
  And.intro @scells_len (And.intro @wcells_len (And.intro @setcells_len (And.intro @List.length_append.{0} (And.intro @List.length_set.{0} (And.intro @List.length_take.{0} (And.intro @List.length_drop.{0} (And.intro @List.length_map.{0,0} (And.intro @List.length_replicate.{0} (And.intro @List.length_cons.{0} (And.intro @List.length_nil.{0} (And.intro @List.length_reverse.{0} (And.intro @bcells_len (And.intro @icells_len (And.intro @ucells_len (And.intro @ocells_len (@strcells_len))))))))))))))))
theorem R6 : type_of% (And.intro @wcells_okc (And.intro @wcells_get (And.intro @wcells_set (And.intro @setcells_at (And.intro @setcells_get (And.intro @setcells_flat (And.intro @setcells_norm (And.intro @scells_get (And.intro @scells_okc (And.intro @scells_flat (And.intro @scells_norm (And.intro @scells_noRef (And.intro @bcells_get (And.intro @bcells_okc (And.intro @bcells_flat (And.intro @bcells_norm (And.intro @bcells_noRef (And.intro @bcells_one (And.intro @icells_get (And.intro @icells_okc (And.intro @icells_flat (And.intro @icells_norm (And.intro @icells_noRef (And.intro @icells_one (And.intro @ucells_get (And.intro @ucells_okc (And.intro @ucells_flat (And.intro @ucells_norm (And.intro @ucells_noRef (And.intro @ucells_one (And.intro @ocells_get (And.intro @ocells_okc (And.intro @ocells_flat (And.intro @ocells_norm (And.intro @ocells_noRef (And.intro @ocells_one (And.intro @strcells_get (And.intro @strcells_okc (And.intro @strcells_flat (And.intro @strcells_norm (And.intro @strcells_noRef (And.intro @strcells_one (@eq_int4))))))))))))))))))))))))))))))))))))))))))) :=
  And.intro @wcells_okc (And.intro @wcells_get (And.intro @wcells_set (And.intro @setcells_at (And.intro @setcells_get (And.intro @setcells_flat (And.intro @setcells_norm (And.intro @scells_get (And.intro @scells_okc (And.intro @scells_flat (And.intro @scells_norm (And.intro @scells_noRef (And.intro @bcells_get (And.intro @bcells_okc (And.intro @bcells_flat (And.intro @bcells_norm (And.intro @bcells_noRef (And.intro @bcells_one (And.intro @icells_get (And.intro @icells_okc (And.intro @icells_flat (And.intro @icells_norm (And.intro @icells_noRef (And.intro @icells_one (And.intro @ucells_get (And.intro @ucells_okc (And.intro @ucells_flat (And.intro @ucells_norm (And.intro @ucells_noRef (And.intro @ucells_one (And.intro @ocells_get (And.intro @ocells_okc (And.intro @ocells_flat (And.intro @ocells_norm (And.intro @ocells_noRef (And.intro @ocells_one (And.intro @strcells_get (And.intro @strcells_okc (And.intro @strcells_flat (And.intro @strcells_norm (And.intro @strcells_noRef (And.intro @strcells_one (@eq_int4))))))))))))))))))))))))))))))))))))))))))
theorem RA : type_of% (And.intro @R1 (And.intro @R2 (And.intro @R3 (And.intro @R4 (And.intro @R5 @R6))))) := And.intro @R1 (And.intro @R2 (And.intro @R3 (And.intro @R4 (And.intro @R5 @R6))))
end Go.Abs

/- A slice that a call builds: what it holds, and what 'append' makes of it. -/
namespace Go.Abs
open S

theorem rowAt_set (h : AHeap) (b ver fz tag : Nat) (cells : List AV) (hb : b < h.length) : rowAt (h.set b (.row ver fz tag cells)) b ver = some (fz, tag, cells) := by
  rw [rowAt_some]; simp [List.getD_eq_getElem?_getD, hb]
theorem rowAt_set_ne (h : AHeap) {b b' : Nat} (o : AObj) (ver : Nat) (hb : b' ≠ b) : rowAt (h.set b o) b' ver = rowAt h b' ver := by
  unfold rowAt; simp [List.getD_eq_getElem?_getD, List.getElem?_set, Ne.symm hb]
theorem rowAt_lt {h : AHeap} {b ver : Nat} {r : Nat × Nat × List AV} (hr : rowAt h b ver = some r) : b < h.length := by
  obtain ⟨fz, tag, cells⟩ := r
  exact row_lt (rowAt_some.1 hr)
theorem rowAt_app (h l : AHeap) {b ver : Nat} (hb : b < h.length) : rowAt (h ++ l) b ver = rowAt h b ver := by
  unfold rowAt; simp [List.getD_eq_getElem?_getD, List.getElem?_append_left hb]
theorem rowAt_new (h : AHeap) (ver fz tag : Nat) (cells : List AV) : rowAt (h ++ [.row ver fz tag cells]) h.length ver = some (fz, tag, cells) := by
  rw [rowAt_some]; simp [List.getD_eq_getElem?_getD]

/-- A slice that is built: n elements of esz cells; of these at most the first z cells may be written by nobody. -/
def Own (h : AHeap) (tag esz : Nat) (v : AV) (cells : List AV) (n z : Nat) : Prop :=
  (v = .nils ∧ cells = [] ∧ n = 0) ∨ ∃ b ver fz, v = .sl b ver 0 n esz none ∧ rowAt h b ver = some (fz, tag, cells) ∧ fz ≤ z ∧ fz ≤ cells.length ∧ cells.length = n * esz

/-- The row that it lies in. -/
def rowOf : AV → Option Nat
  | .sl b .. => some b
  | _ => none

theorem Own.nil (h : AHeap) (tag esz z : Nat) : Own h tag esz .nils [] 0 z := .inl ⟨rfl, rfl, rfl⟩
theorem Own.len {h : AHeap} {tag esz n z : Nat} {v : AV} {cells : List AV} (o : Own h tag esz v cells n z) : cells.length = n * esz := by
  rcases o with ⟨_, rfl, rfl⟩ | ⟨b, ver, fz, _, _, _, _, h⟩
  · simp
  · exact h
theorem Own.v_len {h : AHeap} {tag esz n z : Nat} {v : AV} {cells : List AV} (o : Own h tag esz v cells n z) : V_len v = some (.int .i64 n) := by
  rcases o with ⟨rfl, rfl, rfl⟩ | ⟨b, ver, fz, rfl, _, _, _, h⟩ <;> rfl
theorem Own.rval {h : AHeap} {tag esz n z : Nat} {v : AV} {cells : List AV} (o : Own h tag esz v cells n z) (q : Nat) : rval q v = v := by
  rcases o with ⟨rfl, rfl, rfl⟩ | ⟨b, ver, fz, rfl, _, _, _, h⟩ <;> rfl
theorem Own.keeps {h : AHeap} {tag esz n z : Nat} {v : AV} {cells : List AV} (o : Own h tag esz v cells n z) : keeps v = true := by
  rcases o with ⟨rfl, rfl, rfl⟩ | ⟨b, ver, fz, rfl, _, _, _, h⟩ <;> rfl
/-- What it reads as, in a call. -/
theorem Own.argR {h : AHeap} {tag esz n z : Nat} {v : AV} {cells : List AV} (o : Own h tag esz v cells n z) (hf : cells.all flat = true) : argR h v = some (.ps (norms cells) n none) := by
  rcases o with ⟨rfl, rfl, rfl⟩ | ⟨b, ver, fz, rfl, h1, _, _, h2⟩
  · rfl
  · have e : (cells.drop 0).take (n * esz) = cells := by rw [List.drop_zero, ← h2, List.take_length]
    rw [argR_sl h h1 (by omega) (by rw [e]; exact hf), e]
theorem Own.frz {h : AHeap} {tag esz n z : Nat} {v : AV} {cells : List AV} (o : Own h tag esz v cells n z) (hf : cells.all flat = true) : ∃ h', frz depth h v = h' ∧ Own h' tag esz v cells n (n * esz) ∧ h'.length = h.length ∧ ∀ b ver, some b ≠ rowOf v → rowAt h' b ver = rowAt h b ver := by
  rcases o with ⟨rfl, rfl, rfl⟩ | ⟨b, ver, fz, rfl, h1, h2, h3, h4⟩
  · exact ⟨h, rfl, .inl ⟨rfl, rfl, rfl⟩, rfl, fun _ _ _ => rfl⟩
  · have e : (cells.drop 0).take (n * esz) = cells := by rw [List.drop_zero, ← h4, List.take_length]
    refine ⟨_, frz_sl h h1 (by rw [e]; exact hf), .inr ⟨b, ver, _, rfl, rowAt_set _ _ _ _ _ _ (rowAt_lt h1), by omega, by omega, h4⟩, by simp, fun b' ver' hb => rowAt_set_ne _ _ _ fun he => hb (by rw [he]; rfl)⟩

/-- One more, or some. -/
theorem Own.app {h : AHeap} {tag esz n z : Nat} {v : AV} {cells : List AV} (o : Own h tag esz v cells n z) {x : AV} {m : Nat} {news : List AV} (hx : xTag tag h x = true) (hm : moreA esz h x = some (m, news)) (hn : news.length = m * esz)
    (ho : news.all oneCell = true) {bytes : Nat} (hb : (n + m) * bytes ≤ 140737488355328) (hb' : n + m ≤ 9223372036854775807) :
    ∃ v' h', (∀ ts, V_append ts h tag esz bytes v x = some (v', ts, h')) ∧ Own h' tag esz v' (cells ++ news) (n + m) z ∧ h.length ≤ h'.length ∧ (∀ b ver, b < h.length → some b ≠ rowOf v → rowAt h' b ver = rowAt h b ver) ∧ (∀ b, rowOf v' = some b → rowOf v = some b ∨ h.length ≤ b) := by
  rcases o with ⟨rfl, rfl, rfl⟩ | ⟨b, ver, fz, rfl, h1, h2, h3, h4⟩
  · by_cases h0 : m = 0
    · subst h0
      have : news = [] := List.eq_nil_of_length_eq_zero (by simpa using hn)
      subst this
      refine ⟨.nils, h, fun ts => ?_, Own.nil _ _ _ _, Nat.le_refl _, fun _ _ _ _ => rfl, fun b hb => .inl hb⟩
      simp [V_append, hx, hm]
    · refine ⟨.sl h.length 0 0 m esz none, h ++ [.row 0 0 tag news], fun ts => ?_, .inr ⟨_, _, 0, by simp, rowAt_new _ _ _ _ _, Nat.zero_le _, Nat.zero_le _, by simpa using hn⟩, by simp, fun b ver hb _ => rowAt_app _ _ hb, fun b hb => .inr (by simp [rowOf] at hb; omega)⟩
      have hb1 : m * bytes ≤ 140737488355328 := by simpa using hb
      have hb2 : m ≤ 9223372036854775807 := by omega
      simp [V_append, hx, hm, ho, hb1, hb2, h0]
  · have hc : (n + m) * bytes ≤ 140737488355328 ∧ n + m ≤ 9223372036854775807 ∧ True ∧ True ∧ 0 + n * esz ≤ cells.length ∧ fz ≤ 0 + n * esz := ⟨hb, hb', trivial, trivial, by omega, by omega⟩
    have hb2 : m ≤ 9223372036854775807 := by omega
    by_cases h0 : m = 0
    · subst h0
      have : news = [] := List.eq_nil_of_length_eq_zero (by simpa using hn)
      subst this
      refine ⟨.sl b ver 0 n esz none, h, fun ts => ?_, .inr ⟨b, ver, fz, rfl, by simpa using h1, h2, by simpa using h3, by simpa using h4⟩, Nat.le_refl _, fun _ _ _ _ => rfl, fun b hb => .inl hb⟩
      simp only [V_append, hx, hm, h1]
      rw [if_neg (by simp), if_pos ⟨ho, hb2⟩, if_pos hc, if_pos trivial]
    · refine ⟨.sl b (ver + 1) 0 (n + m) esz none, h.set b (.row (ver + 1) fz tag (cells ++ news)), fun ts => ?_, .inr ⟨b, ver + 1, fz, rfl, rowAt_set _ _ _ _ _ _ (rowAt_lt h1), h2, by simp; omega, by simp [Nat.add_mul]; omega⟩, by simp, fun b' ver' _ hb => rowAt_set_ne _ _ _ fun he => hb (by rw [he]; rfl), fun b' hb => .inl hb⟩
      simp only [V_append, hx, hm, h1]
      rw [if_neg (by simp), if_pos ⟨ho, hb2⟩, if_pos hc, if_neg h0]
      have e : (cells.drop 0).take (n * esz) = cells := by rw [List.drop_zero, ← h4, List.take_length]
      rw [e]; simp

/-- .. of a slice that was written out. -/
theorem more_ps (esz : Nat) (h : AHeap) (cells : List AV) (m : Nat) (c : Option Nat) (hl : cells.length = m * esz) : moreA esz h (.ps cells m c) = some (m, cells) := by
  simp only [moreA]
  rw [if_pos (by omega), ← hl, List.take_length]
theorem xTag_ps (tag : Nat) (h : AHeap) (cells : List AV) (m : Nat) (c : Option Nat) : xTag tag h (.ps cells m c) = true := rfl

/-! ### more fuel -/
section
variable {C : Machine}
theorem opsA_mono {call call' : CallF} (hc : ∀ f args h r, call f args h = some r → call' f args h = some r) {draw : Bool} {ops : List AOper} : ∀ (l : List AOper) (s s' : St), opsA C draw call ops l s = some s' → opsA C draw call' ops l s = some s'
  | [], s, s', h => h
  | o :: l, s, s', h => by
    simp only [opsA] at h ⊢
    have key : ∀ s1, opA C draw call ops o s = some s1 → opA C draw call' ops o s = some s1 := by
      intro s1 h1
      unfold opA at h1 ⊢
      split at h1
      · rename_i hw
        rw [if_pos hw]
        have ho : ∀ r, operA C draw call s.c o.op s.t s.h = some r → operA C draw call' s.c o.op s.t s.h = some r := by
          intro r hr
          cases hop : o.op
          case call f args =>
            rw [hop] at hr
            simp only [operA] at hr ⊢
            split at hr
            · rename_i h2
              rw [if_pos h2]
              simp only [Option.map_eq_some_iff] at hr ⊢
              obtain ⟨x, h3, h4⟩ := hr
              exact ⟨x, hc _ _ _ _ h3, h4⟩
            · cases hr
          case callv x args =>
            rw [hop] at hr
            simp only [operA] at hr ⊢
            split at hr
            · split at hr
              · rename_i h2
                rw [if_pos h2]
                simp only [Option.map_eq_some_iff] at hr ⊢
                obtain ⟨x, h3, h4⟩ := hr
                exact ⟨x, hc _ _ _ _ h3, h4⟩
              · cases hr
            · cases hr
          all_goals (rw [hop] at hr; exact hr)
        split at h1
        · rename_i v t h' he
          rw [ho _ he]; exact h1
        · cases h1
      · rename_i hw
        rw [if_neg hw]; exact h1
    split at h
    · rename_i s1 h1
      rw [key s1 h1]
      exact opsA_mono hc l s1 s' h
    · cases h

theorem iterA_mono {f f' : St → Option (AExit × St)} (hf : ∀ s r, f s = some r → f' s = some r) : ∀ (n n' : Nat), n ≤ n' → ∀ s r, iterA f n s = some r → iterA f' n' s = some r
  | 0, _, _, s, r, h => by simp [iterA] at h
  | n + 1, 0, hn, _, _, _ => by omega
  | n + 1, n' + 1, hn, s, r, h => by
    simp only [iterA] at h ⊢
    cases h1 : f s with
    | none => rw [h1] at h; cases h
    | some x =>
      rw [hf _ _ h1]
      rw [h1] at h
      obtain ⟨e, s1⟩ := x
      cases e with
      | normal => exact iterA_mono hf n n' (by omega) s1 r h
      | ret => exact h
      | exit i => exact h

theorem execA_mono {call call' : CallF} (hc : ∀ f args h r, call f args h = some r → call' f args h = some r) {n n' : Nat} (hn : n ≤ n') : ∀ (a : ACode) (s : St) (r : AExit × St), execA C call n a s = some r → execA C call' n' a s = some r
  | .skip, s, r, h => h
  | .ret, s, r, h => h
  | .exit i, s, r, h => h
  | .bad, s, r, h => by simp [execA] at h
  | .region d ops, s, r, h => by
    simp only [execA, Option.map_eq_some_iff] at h ⊢
    obtain ⟨s1, h1, h2⟩ := h
    exact ⟨s1, opsA_mono hc _ _ _ h1, h2⟩
  | .seq a b, s, r, h => by
    simp only [execA] at h ⊢
    cases h1 : execA C call n a s with
    | none => rw [h1] at h; cases h
    | some x =>
      rw [execA_mono hc hn a s _ h1]
      rw [h1] at h
      obtain ⟨e, s1⟩ := x
      cases e with
      | normal => exact execA_mono hc hn b s1 r h
      | ret => exact h
      | exit i => exact h
  | .cond c a b, s, r, h => by
    simp only [execA] at h ⊢
    split at h
    · exact execA_mono hc hn a s r h
    · exact execA_mono hc hn b s r h
    · cases h
  | .block i a, s, r, h => by
    simp only [execA] at h ⊢
    cases h1 : execA C call n a s with
    | none => rw [h1] at h; cases h
    | some x =>
      rw [execA_mono hc hn a s _ h1]
      rw [h1] at h
      exact h
  | .loop a, s, r, h => by
    simp only [execA] at h ⊢
    exact iterA_mono (fun s r => execA_mono hc hn a s r) n n' hn s r h

theorem callOf_mono {raw raw' : CallF} (hr : ∀ f args h r, raw f args h = some r → raw' f args h = some r) (f : FuncId) (args : List AV) (h : AHeap) (r : AV × AHeap) (he : callOf C raw f args h = some r) : callOf C raw' f args h = some r := by
  unfold callOf at he ⊢
  split
  · rename_i g hg
    rw [hg] at he; exact he
  · rename_i hg
    rw [hg] at he
    simp only at he
    split
    · rename_i hm; rw [hm] at he; exact hr _ _ _ _ he
    · rename_i hm
      rw [hm] at he
      simp only [Option.map_eq_some_iff, Option.bind_eq_some_iff] at he ⊢
      obtain ⟨v, ⟨x, ⟨as, h1, h2⟩, h3⟩, h4⟩ := he
      exact ⟨v, ⟨x, ⟨as, h1, hr _ _ _ _ h2⟩, h3⟩, h4⟩
    · rename_i hm
      rw [hm] at he
      simp only at he
      cases ha : argsR h args with
      | none => rw [ha] at he; simp at he
      | some as =>
        rw [ha] at he
        simp only [Option.bind_some] at he ⊢
        cases hx : raw f as [] with
        | none => rw [hx] at he; cases he
        | some x => rw [hr _ _ _ _ hx]; rw [hx] at he; exact he

theorem runA_mono : ∀ (n n' : Nat), n ≤ n' → ∀ f args h r, runA C n f args h = some r → runA C n' f args h = some r
  | 0, _, _, f, args, h, r, he => by simp [runA] at he
  | n + 1, 0, hn, _, _, _, _, _ => by omega
  | n + 1, n' + 1, hn, f, args, h, r, he => by
    simp only [runA] at he ⊢
    cases hf : C.funcs f with
    | none => rw [hf] at he; cases he
    | some fn =>
      rw [hf] at he
      simp only at he ⊢
      cases h1 : execA C (callOf C (runA C n)) n fn.body ⟨args, h, 0⟩ with
      | none => rw [h1] at he; cases he
      | some x =>
        rw [execA_mono (callOf_mono (runA_mono n n' (by omega))) (by omega) _ _ _ h1]
        rw [h1] at he
        exact he

theorem runL_run {n : Nat} {f : FuncId} {args : List AV} {h : AHeap} {r : AV × AHeap} (he : runA C n f args h = some r) : runL C f args h = some r :=
  runL_iff.2 ⟨n, fun m hm => runA_mono n m hm f args h r he⟩
theorem pcL_run {n : Nat} {f : FuncId} (hp : C.prim f = none) {args : List AV} {v : AV} (he : (runA C n f args []).bind purify = some v) : pcL C f args = some v := by
  unfold pcL
  rw [hp]
  simp only [Option.bind_eq_some_iff] at he
  obtain ⟨r, h1, h2⟩ := he
  simp [runL_run h1, h2]
theorem pcL_iff {f : FuncId} (hp : C.prim f = none) {args : List AV} {v : AV} : pcL C f args = some v ↔ Ev fun m => (runA C m f args []).bind purify = some v := by
  constructor
  · intro h
    unfold pcL at h
    rw [hp] at h
    simp only [Option.bind_eq_some_iff] at h
    obtain ⟨r, h1, h2⟩ := h
    exact (runL_iff.1 h1).mono fun m hm => by simp [hm, h2]
  · rintro ⟨n, hn⟩
    exact pcL_run hp (hn n (Nat.le_refl _))
theorem callL_pureE {f : FuncId} (hp : C.prim f = none) (hm : C.mode f = .pure) (args : List AV) (h : AHeap) : callL C f args h = match argsR h args with | some as => (match pcL C f as with | some v => some (v, args.foldl (frz depth) h) | none => none) | none => none := by
  have key : ∀ r, callL C f args h = some r ↔ (match argsR h args with | some as => (match pcL C f as with | some v => some (v, args.foldl (frz depth) h) | none => none) | none => none) = some r := by
    intro r
    rw [callL_iff]
    simp only [callOf, hp, hm]
    cases ha : argsR h args with
    | none =>
      constructor
      · rintro ⟨n, hn⟩
        have := hn n (Nat.le_refl _)
        simp at this
      · intro h; cases h
    | some as =>
      simp only [Option.bind_some]
      constructor
      · intro he
        obtain ⟨m, hm⟩ := he.some
        simp only [Option.map_eq_some_iff] at hm
        obtain ⟨v, h1, rfl⟩ := hm
        rw [pcL_run hp h1]
      · intro he
        split at he
        · rename_i v hv
          injection he with he
          subst he
          exact ((pcL_iff hp).1 hv).mono fun m hm => by rw [hm]; rfl
        · cases he
  cases h1 : callL C f args h with
  | none =>
    cases h2 : (match argsR h args with | some as => (match pcL C f as with | some v => some (v, args.foldl (frz depth) h) | none => none) | none => none) with
    | none => rfl
    | some r => rw [(key r).2 h2] at h1; cases h1
  | some r => exact ((key r).1 h1).symm
def notPs : AV → Bool
  | .ps .. => false
  | _ => true
theorem notPs_agg (l : List AV) : notPs (.agg l) = true := rfl
theorem notPs_tuple (l : List AV) : notPs (.tuple l) = true := rfl
theorem notPs_int (k : IntKind) (n : Int) : notPs (.int k n) = true := rfl
theorem notPs_bool (b : Bool) : notPs (.bool b) = true := rfl
theorem notPs_str (l : List UInt8) : notPs (.str l) = true := rfl
theorem notPs_ps (l : List AV) (n : Nat) (c : Option Nat) : notPs (.ps l n c) = false := rfl
/-- (the same, under another name) -/
noncomputable def callO (C : Machine) : CallF := callL C
theorem purify_sl {b v o n e : Nat} {c : Option Nat} {h : AHeap} {r : AV} (hr : purify (.sl b v o n e c, h) = some r) : notPs r = false := by
  obtain ⟨v0, h1, rfl⟩ := purify_some hr
  rw [show depth = 23 + 1 from rfl] at h1
  generalize 23 = d at h1
  rw [res_sl] at h1
  split at h1
  · split at h1
    · simp only [Option.map_eq_some_iff] at h1
      obtain ⟨cs, _, rfl⟩ := h1
      rfl
    · cases h1
  · cases h1
theorem callL_freshE {f : FuncId} (hp : C.prim f = none) (hm : C.mode f = .fresh) (args : List AV) (h : AHeap) : callL C f args h = match argsR h args with | some as => (match pcL C f as with | some v => if notPs v = true then some (v, args.foldl (frz depth) h) else callO C f args h | none => callO C f args h) | none => callO C f args h := by
  split
  · rename_i as ha
    split
    · rename_i v hv
      split
      · rename_i hn
        obtain ⟨n, hr⟩ := (pcL_iff hp).1 hv
        refine callL_iff.2 ⟨n, fun m hm' => ?_⟩
        have h1 := hr m hm'
        simp only [Option.bind_eq_some_iff] at h1
        obtain ⟨⟨r, h'⟩, h2, h3⟩ := h1
        simp only [callOf, hp, hm, ha, Option.bind_some, h2]
        cases r with
        | sl b ver off len esz cap => rw [purify_sl h3] at hn; cases hn
        | _ => simp only [h3, Option.map_some]
      · rfl
    · rfl
  · rfl
theorem callL_sharedE {f : FuncId} (hp : C.prim f = none) (hm : C.mode f = .shared) (args : List AV) (h : AHeap) : callL C f args h = runL C f args h := callL_shared hp hm
theorem mode_ps : (Mode.pure == Mode.shared) = false := rfl
theorem mode_pf : (Mode.pure == Mode.fresh) = false := rfl
theorem mode_ss : (Mode.shared == Mode.shared) = true := rfl
theorem mode_ff : (Mode.fresh == Mode.fresh) = true := rfl
theorem mode_sf : (Mode.shared == Mode.fresh) = false := rfl
theorem mode_fs : (Mode.fresh == Mode.shared) = false := rfl
end
end Go.Abs

/- What a law is handed, as typed values; and a law that answers true, as a row. -/
namespace Go.Abs
open Go.RowKit S

section
variable {P : Program} {H : Type} {enc : TypeId × Value → H}

/-- All arguments read as they did. -/
theorem trodAll_stays (hl : laidOutB P = true) {W W' : World} (hb : Below W.heap.size W W') : ∀ {ts : List TypeId} {vs : List Value} {ds : List (DataW H)} {ps : List MemPlace},
    (ts.all fun t => P.readableRec t && decide (t < P.types.size)) = true → DataW.TrodAll enc P W 0 (fun _ => true) true ts vs ds ps → DataW.TrodAll enc P W' 0 (fun b => decide (b < W.heap.size)) true ts vs ds ps
  | [], vs, ds, ps, _, h => by
    obtain ⟨rfl, rfl, rfl⟩ := Go.ChangeShapes.trodAll_nil h
    rfl
  | t :: ts, vs, ds, ps, hts, h => by
    obtain ⟨v, vs', d, ds', p, q, rfl, rfl, rfl, h1, h2⟩ := Go.ChangeShapes.trodAll_cons h
    simp only [List.all_cons, Bool.and_eq_true, decide_eq_true_eq] at hts
    obtain ⟨fuel, h1'⟩ := h1
    have hlt := DataW.trod_lt fuel t _ _ h1'
    exact ⟨p, q, Below.trod hl hts.1.1 hts.1.2 ⟨fuel, h1'⟩ hb hlt, trodAll_stays hl hb (by simpa using hts.2) h2, rfl⟩

/-- An argument, as a tree. -/
def argOf (P : Program) (t : TypeId) (xs : List AV) : AV :=
  match P.underlying t with
  | some (.struct _) | some (.array ..) => .agg xs
  | _ => xs.getD 0 undefA

theorem args_trees {S : List TypeId} (hS : ∀ t ∈ S, plainIn P S t = true) {W : World} {base : Nat} : ∀ {ts : List TypeId} {vs : List Value} {ds : List (DataW H)} {ps : List MemPlace}, (∀ t ∈ ts, t ∈ S) → DataW.TrodAll enc P W 0 (fun _ => true) true ts vs ds ps →
    (∀ (j : Nat) t v, ts[j]? = some t → vs[j]? = some v → Value.okWide P W .any base t v) →
    ∃ xss : List (List AV), xss.length = ts.length ∧ (∀ j t, ts[j]? = some t → ∃ fuel, Has P fuel t (xss.getD j [])) ∧ PRs W (fun g _ => g < W.heap.size) ((ts.zip xss).map fun x => argOf P x.1 x.2) vs
  | [], vs, ds, ps, _, h, _ => by
    obtain ⟨rfl, rfl, rfl⟩ := Go.ChangeShapes.trodAll_nil h
    exact ⟨[], rfl, fun j t hj => by simp at hj, PRs.nil⟩
  | t :: ts, vs, ds, ps, hts, h, hv => by
    obtain ⟨v, vs', d, ds', p, q, rfl, rfl, rfl, ⟨fuel, h1⟩, h2⟩ := Go.ChangeShapes.trodAll_cons h
    obtain ⟨xss, e1, e2, e3⟩ := args_trees hS (fun t ht => hts t (List.mem_cons_of_mem _ ht)) h2 (fun j t v hj hv' => hv (j + 1) t v (by simpa using hj) (by simpa using hv'))
    obtain ⟨xs, x1, x2, x3⟩ := trod_has hS fuel t _ _ (hts t (List.mem_cons_self ..)) h1
    refine ⟨xs :: xss, by simp [e1], fun j t' hj => ?_, ?_⟩
    · cases j with
      | zero => simp at hj; subst hj; exact ⟨fuel, x1⟩
      | succ j => simpa using e2 j t' (by simpa using hj)
    · have hok := hv 0 t v rfl rfl
      have one : PR W (fun g _ => g < W.heap.size) (argOf P t xs) v := by
        have hp := hS t (hts t (List.mem_cons_self ..))
        have scalar : (∀ cs, v ≠ .agg cs) → P.cellsOf t = 1 → argOf P t xs = xs.getD 0 undefA → PR W (fun g _ => g < W.heap.size) (argOf P t xs) v := by
          intro hne hc ha
          have hcells : v.cells = #[v] := by cases v <;> first | rfl | exact absurd rfl (hne _)
          rw [hcells] at x2
          rw [ha]
          have := x2.2 0 (by rw [x3, hc]; omega)
          simpa using this
        have whole : (∃ cs, v = .agg cs ∧ cs.size = P.cellsOf t ∧ Row.okWide P W .any base t cs) → argOf P t xs = .agg xs → PR W (fun g _ => g < W.heap.size) (argOf P t xs) v := by
          rintro ⟨cs, rfl, _, _⟩ ha
          rw [ha]
          have := PR.agg xs cs.toList x2.1 x2.2
          simpa using this
        unfold plainIn at hp
        unfold Value.okWide at hok
        unfold argOf at scalar whole ⊢
        cases hu : P.underlying t with
        | none => rw [hu] at hp; simp at hp
        | some d =>
          rw [hu] at hp hok scalar whole
          have noagg : (∀ cs, ¬ Cell.okWide P W .any base t (.agg cs)) → Cell.okWide P W .any base t v → ∀ cs, v ≠ .agg cs := fun h1 h2 cs he => h1 cs (he ▸ h2)
          cases d with
          | bool => exact scalar (noagg (fun cs h => by simp [Cell.okWide, Cell.ok, hu] at h) hok) (by simpa using hp) rfl
          | int k => exact scalar (noagg (fun cs h => by simp [Cell.okWide, Cell.ok, hu] at h) hok) (by simpa using hp) rfl
          | string => exact scalar (noagg (fun cs h => by simp [Cell.okWide, Cell.ok, hu] at h) hok) (by simpa using hp) rfl
          | pointer e => exact scalar (noagg (fun cs h => by simp [Cell.okWide, Cell.ok, hu] at h) hok) (by simp at hp; exact hp.2) rfl
          | slice e => exact scalar (noagg (fun cs h => by simp [Cell.okWide, Cell.ok, hu] at h) hok) (by simp at hp; exact hp.2) rfl
          | struct fs => exact whole hok rfl
          | array n e => exact whole hok rfl
          | _ => simp at hp
      exact PRs.append (xs := [argOf P t xs]) (cs := [v]) (PRs.one one) e3

/-! ### what types hold -/
theorem has_int {n : Nat} {t : TypeId} {k : IntKind} (hu : P.underlying t = some (.int k)) {xs : List AV} (h : Has P n t xs) : ∃ m, xs = [.int k m] ∧ k.min ≤ m ∧ m ≤ k.max := by
  cases n with
  | zero => simp [Has] at h
  | succ n =>
    unfold Has at h
    rw [hu] at h
    obtain ⟨m, rfl, hw⟩ := h
    simp only [Lit.wf, Bool.and_eq_true, decide_eq_true_eq] at hw
    exact ⟨m, rfl, hw⟩
theorem has_u8 {n : Nat} {t : TypeId} (hu : P.underlying t = some (.int .u8)) {xs : List AV} (h : Has P n t xs) : ∃ b : UInt8, xs = [.int .u8 b.toNat] := by
  obtain ⟨m, rfl, h1, h2⟩ := has_int hu h
  have h1' : 0 ≤ m := h1
  have h2' : m ≤ 255 := h2
  refine ⟨UInt8.ofNat m.toNat, ?_⟩
  rw [UInt8.toNat_ofNat_of_lt' (show m.toNat < 256 by omega), Int.toNat_of_nonneg h1']
theorem has_u64 {n : Nat} {t : TypeId} (hu : P.underlying t = some (.int .u64)) {xs : List AV} (h : Has P n t xs) : ∃ x : BitVec 64, xs = [.int .u64 x.toNat] := by
  obtain ⟨m, rfl, h1, h2⟩ := has_int hu h
  have h1' : 0 ≤ m := h1
  have h2' : m ≤ 18446744073709551615 := h2
  refine ⟨BitVec.ofNat 64 m.toNat, ?_⟩
  rw [BitVec.toNat_ofNat, Nat.mod_eq_of_lt (show m.toNat < 2 ^ 64 by omega), Int.toNat_of_nonneg h1']
theorem has_bool {n : Nat} {t : TypeId} (hu : P.underlying t = some .bool) {xs : List AV} (h : Has P n t xs) : ∃ b : Bool, xs = [.bool b] := by
  cases n with
  | zero => simp [Has] at h
  | succ n => unfold Has at h; rw [hu] at h; exact h
theorem has_str {n : Nat} {t : TypeId} (hu : P.underlying t = some .string) {xs : List AV} (h : Has P n t xs) : ∃ l : List UInt8, xs = [.str l] ∧ l.length ≤ 9223372036854775807 := by
  cases n with
  | zero => simp [Has] at h
  | succ n => unfold Has at h; rw [hu] at h; exact h
theorem list_of {α : Type} {f : α → List AV} : ∀ (rows : List (List AV)), (∀ r ∈ rows, ∃ x : α, r = f x) → ∃ l : List α, rows = l.map f
  | [], _ => ⟨[], rfl⟩
  | r :: rows, h => by
    obtain ⟨x, rfl⟩ := h r (List.mem_cons_self ..)
    obtain ⟨l, rfl⟩ := list_of rows fun r hr => h r (List.mem_cons_of_mem _ hr)
    exact ⟨x :: l, rfl⟩
theorem has_slice {α : Type} {f : α → List AV} {n : Nat} {t e : TypeId} (hu : P.underlying t = some (.slice e)) (he : ∀ n r, Has P n e r → ∃ x : α, r = f x) {xs : List AV} (h : Has P n t xs) :
    ∃ l : List α, xs = [.ps (rows f l) l.length none] ∧ l.length ≤ 9223372036854775807 := by
  cases n with
  | zero => simp [Has] at h
  | succ n =>
    unfold Has at h
    rw [hu] at h
    obtain ⟨rs, rfl, hl, hr⟩ := h
    obtain ⟨l, rfl⟩ := list_of rs fun r hr' => he n r (hr r hr').1
    exact ⟨l, by simp [Abs.rows], by simpa [maxLen] using hl⟩
theorem has_array {α : Type} {f : α → List AV} {n m : Nat} {t e : TypeId} (hu : P.underlying t = some (.array m e)) (he : ∀ n r, Has P n e r → ∃ x : α, r = f x) {xs : List AV} (h : Has P n t xs) :
    ∃ l : List α, xs = rows f l ∧ l.length = m := by
  cases n with
  | zero => simp [Has] at h
  | succ n =>
    unfold Has at h
    rw [hu] at h
    obtain ⟨rs, rfl, hl, hr⟩ := h
    obtain ⟨l, rfl⟩ := list_of rs fun r hr' => he n r (hr r hr').1
    exact ⟨l, rfl, by simpa using hl⟩
theorem rows_single {α : Type} (g : α → AV) (l : List α) : rows (fun x => [g x]) l = l.map g := by
  induction l with
  | nil => rfl
  | cons x l ih => rw [rows_cons, ih]; rfl
theorem has_bytes {n : Nat} {t e : TypeId} (hu : P.underlying t = some (.slice e)) (he : P.underlying e = some (.int .u8)) {xs : List AV} (h : Has P n t xs) : ∃ l : List UInt8, xs = [.ps (bcells l) l.length none] ∧ l.length ≤ 9223372036854775807 := by
  obtain ⟨l, h1, h2⟩ := has_slice (f := fun b : UInt8 => [.int .u8 b.toNat]) hu (fun n r hr => has_u8 he hr) h
  rw [rows_single] at h1
  exact ⟨l, h1, h2⟩
def ofWords (a b c d : BitVec 64) : BSet := d ++ c ++ b ++ a
theorem ofWords_bit (a b c d : BitVec 64) (i : Nat) : (ofWords a b c d).getLsbD i = if i < 64 then a.getLsbD i else if i - 64 < 64 then b.getLsbD (i - 64) else if i - 64 - 64 < 64 then c.getLsbD (i - 64 - 64) else d.getLsbD (i - 64 - 64 - 64) := by
  show BitVec.getLsbD (w := 64 + 64 + 64 + 64) (d ++ c ++ b ++ a) i = _
  rw [BitVec.getLsbD_append, BitVec.getLsbD_append, BitVec.getLsbD_append]
theorem scells_words (a b c d : BitVec 64) : scells (ofWords a b c d) = [.int .u64 a.toNat, .int .u64 b.toNat, .int .u64 c.toNat, .int .u64 d.toNat] := by
  have h0 : sword (ofWords a b c d) 0 = a := by
    apply BitVec.eq_of_getLsbD_eq; intro j hj
    rw [sword_bit, ofWords_bit, if_pos (by omega)]; simp [hj]
  have h1 : sword (ofWords a b c d) 1 = b := by
    apply BitVec.eq_of_getLsbD_eq; intro j hj
    rw [sword_bit, ofWords_bit, if_neg (by omega), if_pos (by omega), show 64 * 1 + j - 64 = j by omega]; simp [hj]
  have h2 : sword (ofWords a b c d) 2 = c := by
    apply BitVec.eq_of_getLsbD_eq; intro j hj
    rw [sword_bit, ofWords_bit, if_neg (by omega), if_neg (by omega), if_pos (by omega), show 64 * 2 + j - 64 - 64 = j by omega]; simp [hj]
  have h3 : sword (ofWords a b c d) 3 = d := by
    apply BitVec.eq_of_getLsbD_eq; intro j hj
    rw [sword_bit, ofWords_bit, if_neg (by omega), if_neg (by omega), if_neg (by omega), show 64 * 3 + j - 64 - 64 - 64 = j by omega]; simp [hj]
  unfold scells
  rw [h0, h1, h2, h3]
theorem has_set {n : Nat} {t e : TypeId} (hu : P.underlying t = some (.array 4 e)) (he : P.underlying e = some (.int .u64)) {xs : List AV} (h : Has P n t xs) : ∃ s : BSet, xs = scells s := by
  obtain ⟨l, rfl, hl⟩ := has_array (f := fun x : BitVec 64 => [.int .u64 x.toNat]) hu (fun n r hr => has_u64 he hr) h
  rw [rows_single]
  match l, hl with
  | [a, b, c, d], _ => exact ⟨ofWords a b c d, (scells_words a b c d).symm⟩
theorem has_sets {n : Nat} {t e u : TypeId} (hu : P.underlying t = some (.slice e)) (he : P.underlying e = some (.array 4 u)) (h8 : P.underlying u = some (.int .u64)) {xs : List AV} (h : Has P n t xs) :
    ∃ l : List BSet, xs = [.ps (setcells l) l.length none] ∧ l.length ≤ 9223372036854775807 := has_slice (f := scells) hu (fun n r hr => has_set he h8 hr) h
end
end Go.Abs
