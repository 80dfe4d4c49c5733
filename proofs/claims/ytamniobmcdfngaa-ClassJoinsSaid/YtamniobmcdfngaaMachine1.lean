/- The abstract machine: all operations that touch no memory, together. -/
import Derived.Test.YtamniobmcdfngaaMachine0
import Derived.Laws.Append
import Derived.Laws.AppendOwn
import Derived.Laws.BytesString
import Derived.Control
set_option linter.unusedSimpArgs false
set_option linter.unusedVariables false
/- The abstract machine: all operations that touch no memory, together. -/
namespace Go.Abs
open Go.RowKit

section
variable {Γ : Gh} {k k' : Kf} {P : Program}

set_option maxHeartbeats 1000000 in
theorem pure_sound (hI : Inv Γ k) {a : Act} (hT : TR Γ k a.tmps) {o : Oper} {ao : AOp} {d : Option Nat} (hc : chkOp P d o.op ao = true) {v : AV} (hv : pureA k.s.c ao k.s.t = some v) : PurePost P Γ k a o v := by
  have opd : ∀ {x : AOpd} {y : Operand}, chkOpd x y = true → FV Γ k (aev k.s.t x) (a.eval y) := fun h => opd_sound hI hT h
  cases ao with
  | mov x =>
    simp only [pureA, Option.some.injEq] at hv
    subst hv
    unfold chkOp at hc
    split at hc <;> try (first | contradiction | (simp at hc; done))
    · rename_i ho q
      cases q
      exact .same (by simp [execOp, ho]) (opd hc)
    · rename_i ho q
      cases q
      exact .same (by simp [execOp, ho]) (opd hc)
  | pick c x y =>
    unfold chkOp at hc
    split at hc <;> try (first | contradiction | (simp at hc; done))
    rename_i ho q
    cases q
    simp only [Bool.and_eq_true] at hc
    obtain ⟨⟨h1, h2⟩, h3⟩ := hc
    have b := opd h1
    simp only [pureA] at hv
    split at hv
    · rename_i hb
      rw [hb] at b
      have hb' := b.bool
      injection hv with hv; subst hv
      exact .same (by simp [execOp, ho, hb', asBool]) (opd h2)
    · rename_i hb
      rw [hb] at b
      have hb' := b.bool
      injection hv with hv; subst hv
      exact .same (by simp [execOp, ho, hb', asBool]) (opd h3)
    · simp at hv
  | alloc reg tag zero =>
    cases reg with
    | false => simp [pureA] at hv
    | true =>
      simp only [pureA, Option.some.injEq] at hv
      subst hv
      unfold chkOp at hc
      split at hc <;> try (first | contradiction | (simp at hc; done))
      rename_i t _ _ _ ho q
      cases q
      simp only [Bool.and_eq_true] at hc
      obtain ⟨i, z, hi, hz, hvk⟩ := zero_sound (Γ := Γ) (k := k) hc.1
      refine ⟨_, k.w.alloc (.cells z.cells t (0, 0)), ?_, below_alloc' _ _, .inl ⟨.inl ⟨_, ho⟩, zero, z.cells, t, rfl, rfl, rfl, hvk⟩⟩
      simp [execOp, ho, Instr.alloc, run_zeroValue hi hz, newVar, newRow]
  | box reg tag x =>
    cases reg with
    | false => simp [pureA] at hv
    | true =>
      unfold chkOp at hc
      split at hc <;> try (first | contradiction | (simp at hc; done))
      rename_i t y _ _ _ ho q
      cases q
      simp only [Bool.and_eq_true] at hc
      simp only [pureA] at hv
      split at hv
      · rename_i hk
        injection hv with hv; subst hv
        have hx := (opd hc.1).keep hk
        refine ⟨_, k.w.alloc (.cells (a.eval y).cells t (0, 0)), ?_, below_alloc' _ _, .inl ⟨.inr ⟨_, _, ho⟩, _, _, t, rfl, rfl, rfl, hx.cells⟩⟩
        simp [execOp, ho, Instr.box, newVar, newRow]
      · simp at hv
  | nilchk x =>
    unfold chkOp at hc
    split at hc <;> try (first | contradiction | (simp at hc; done))
    rename_i y _ ho q
    cases q
    have b := opd hc
    simp only [pureA] at hv
    split at hv
    · rename_i hb
      rw [hb] at b
      injection hv with hv; subst hv
      obtain ⟨ad, he, _⟩ := (b.keep rfl).ptr
      exact .same (by simp [execOp, ho, he]) (he ▸ b)
    · rename_i hb
      rw [hb] at b
      injection hv with hv; subst hv
      obtain ⟨ad, he⟩ := b.pp_inv
      exact .same (by simp [execOp, ho, he]) (he ▸ b)
    · rename_i hb
      rw [hb] at b
      injection hv with hv; subst hv
      obtain ⟨ad, he⟩ := b.rp_inv
      exact .same (by simp [execOp, ho, he]) (he ▸ b)
    · rename_i hb
      rw [hb] at b
      injection hv with hv; subst hv
      obtain ⟨cvs, he, _⟩ := (b.keep rfl).func
      exact .same (by simp [execOp, ho, he]) (he ▸ b)
    · simp at hv
  | bin op x y =>
    unfold chkOp at hc
    split at hc <;> try (first | contradiction | (simp at hc; done))
    rename_i op' t u w' s _ _ _ ho q
    cases q
    simp only [Bool.and_eq_true, beq_iff_eq] at hc
    obtain ⟨⟨⟨rfl, h1⟩, h2⟩, _⟩ := hc
    simp only [pureA] at hv
    obtain ⟨c, hr, hk⟩ := run_bin (P := P) op' t _ _ _ _ _ (opd h1) (opd h2) hv
    refine .vk (cv := c) ?_ hk
    have hg : (eqGuard op' t u w' (a.eval u) (a.eval w')).run P k.w = .ok () k.w := by
      have b1 := opd h1
      have b2 := opd h2
      unfold binA at hv
      split at hv
      · rename_i e1 e2
        rw [e1] at b1; rw [e2] at b2
        rw [b1.int, b2.int]; exact eqGuard_int _ _ _ _ _ _ _ _ _
      · rename_i e1 e2
        rw [e1] at b1; rw [e2] at b2
        rw [b1.str, b2.str]; exact eqGuard_str _ _ _ _ _ _ _
      · simp at hv
    simp [execOp, ho, hg, hr]
  | eqv neg sh x y =>
    have main : ∀ (t : TypeId) (u w' : Operand) (z : TypeId), o.op = .binOp (if neg then .neq else .eql) t u w' z → chkOpd x u = true → chkOpd y w' = true → chkEq P t sh x y = true → PurePost P Γ k a o v := by
      intro t u w' z ho h1 h2 h3
      simp only [pureA, Option.map_eq_some_iff] at hv
      obtain ⟨b, hb, rfl⟩ := hv
      obtain ⟨k1, k2⟩ := eqVal_keeps hb
      have hr := run_eqv (P := P) (neg := neg) (o1 := u) (o2 := w') h3 ((opd h1).keep k1) ((opd h2).keep k2) hb
      refine .vk (cv := .bool (b != neg)) ?_ (.mkBool _)
      simp only [execOp, ho, Sem.run_bind] at hr ⊢
      rw [hr]; rfl
    unfold chkOp at hc
    split at hc <;> try (first | contradiction | (simp at hc; done))
    · rename_i t u w' z _ _ _ ho q
      cases q
      simp only [Bool.and_eq_true] at hc
      exact main t u w' z (by simpa using ho) hc.1.1 hc.1.2 hc.2
    · rename_i t u w' z _ _ _ ho q
      cases q
      simp only [Bool.and_eq_true] at hc
      exact main t u w' z (by simpa using ho) hc.1.1 hc.1.2 hc.2
  | un op x =>
    unfold chkOp at hc
    split at hc <;> try (first | contradiction | (simp at hc; done))
    rename_i op' t u _ _ ho q
    cases q
    simp only [Bool.and_eq_true, beq_iff_eq] at hc
    obtain ⟨rfl, h1⟩ := hc
    obtain ⟨c, hr, hk⟩ := run_un (P := P) op' _ _ _ (opd h1) hv
    exact .vk (cv := c) (by simp [execOp, ho, hr]) hk
  | conv κ x =>
    unfold chkOp at hc
    split at hc <;> try (first | contradiction | (simp at hc; done))
    rename_i src dst u _ _ ho q
    cases q
    simp only [Bool.and_eq_true] at hc
    obtain ⟨h1, h2⟩ := hc
    have b := opd h1
    simp only [pureA] at hv
    split at hv
    · rename_i hb
      rw [hb] at b
      injection hv with hv; subst hv
      split at h2
      · rename_i e1 e2
        simp only [beq_iff_eq] at h2
        subst h2
        exact .vk (by simp [execOp, ho, convert, b.int, run_underlying e1, run_underlying e2, Conv.intToInt]) (.mkInt _ _)
      · simp at h2
    · simp at hv
  | strId x =>
    unfold chkOp at hc
    split at hc <;> try (first | contradiction | (simp at hc; done))
    rename_i src dst u _ ho q
    cases q
    simp only [Bool.and_eq_true] at hc
    obtain ⟨h1, h2⟩ := hc
    have b := opd h1
    simp only [pureA] at hv
    split at hv
    · rename_i hb
      rw [hb] at b
      injection hv with hv; subst hv
      split at h2
      · rename_i e1 e2
        exact .vk (by simp [execOp, ho, convert, b.str, run_underlying e1, run_underlying e2]) (.mkStr _)
      · simp at h2
    · simp at hv
  | build zero parts =>
    unfold chkOp at hc
    split at hc <;> try (first | contradiction | (simp at hc; done))
    rename_i t ps _ _ ho q
    cases q
    simp only [Bool.and_eq_true] at hc
    obtain ⟨hz, hp⟩ := hc
    obtain ⟨i, z, hi, hzz, hvk⟩ := zero_sound (Γ := Γ) (k := k) hz
    simp only [pureA] at hv
    split at hv
    · rename_i hk
      simp only [Option.map_eq_some_iff] at hv
      obtain ⟨cs, hf, rfl⟩ := hv
      split at hp
      · rename_i fs hu
        simp only [Bool.and_eq_true] at hp
        obtain ⟨hall, hp⟩ := hp
        have places : (fs.mapM (fun (f : Field) => (do pure (f.offset, ← sizeOf f.type) : Sem (Nat × Nat)))).run P k.w = .ok (fs.map fun (f : Field) => (f.offset, (szT P f.type).getD 0)) k.w := by
          rw [Array.mapM_eq_mapM_toList]
          have key : ∀ (l : List Field), l.all (fun (f : Field) => (szT P f.type).isSome) = true → (l.mapM (fun (f : Field) => (do pure (f.offset, ← sizeOf f.type) : Sem (Nat × Nat)))).run P k.w = .ok (l.map fun (f : Field) => (f.offset, (szT P f.type).getD 0)) k.w := by
            intro l
            induction l with
            | nil => intro _; simp
            | cons f l ih =>
              intro h
              simp only [List.all_cons, Bool.and_eq_true] at h
              obtain ⟨s, hs⟩ := Option.isSome_iff_exists.1 h.1
              simp only [List.mapM_cons, Sem.run_bind, run_sizeOf hs, Result.andThen_ok, Sem.run_pure, ih h.2, List.map_cons, hs, Option.getD_some]
          simp only [Sem.run_map, key fs.toList hall, Result.andThen_ok]
          congr 1
          apply Array.ext'
          simp
        obtain ⟨cs', h1, h2, _⟩ := parts_sound hI hT (fun (i : Nat) => (fs[i]?).bind fun (f : Field) => (szT P f.type).map fun s => (f.offset, s)) parts ps.toList hp hk zero cs z.cells hf hvk
        have hfill : Instr.fill (fun (i : Nat) => (fs.map fun (f : Field) => (f.offset, (szT P f.type).getD 0))[i]?) z.cells (ps.toList.map fun x => (x.1, a.eval x.2)) = some cs' := by
          have e : (fun (i : Nat) => (fs.map fun (f : Field) => (f.offset, (szT P f.type).getD 0))[i]?) = fun (i : Nat) => (fs[i]?).bind fun (f : Field) => (szT P f.type).map fun s => (f.offset, s) := by
            funext i
            simp only [Array.getElem?_map]
            cases hfi : fs[i]? with
            | none => rfl
            | some f =>
              simp only [Option.map_some, Option.bind_some]
              have hm : f ∈ fs.toList := by
                have := Array.getElem?_eq_some_iff.1 hfi
                obtain ⟨hlt, he⟩ := this
                rw [← he]; simp
              have := (List.all_eq_true.1 hall) f hm
              obtain ⟨s, hs⟩ := Option.isSome_iff_exists.1 this
              rw [hs]; rfl
          rw [e]; exact h1
        refine .vk (cv := .agg cs') ?_ ?_
        · simp only [execOp, ho, Sem.run_bind, Instr.build, run_zeroValue hi hzz, Result.andThen_ok, run_underlying hu, places, Array.toList_map]
          have hm : (List.map (fun x : Nat × Operand => match x with | (i, x) => (i, a.eval x)) ps.toList) = ps.toList.map fun x => (x.1, a.eval x.2) := by
            apply List.map_congr_left; intro x _; cases x; rfl
          rw [hm, hfill]
          rfl
        · have := VR.agg (h := k.s.h) (μ := k.μ) (w := k.w) (I := Imm Γ k) cs cs'.toList h2.1 h2.2
          simpa using this
      · rename_i n e hu
        split at hp
        · rename_i sz hsz
          obtain ⟨cs', h1, h2, _⟩ := parts_sound hI hT (fun i => some (i * sz, sz)) parts ps.toList hp hk zero cs z.cells hf hvk
          refine .vk (cv := .agg cs') ?_ ?_
          · simp only [execOp, ho, Sem.run_bind, Instr.build, run_zeroValue hi hzz, Result.andThen_ok, run_underlying hu, run_sizeOf hsz, Array.toList_map]
            have hm : (List.map (fun x : Nat × Operand => match x with | (i, x) => (i, a.eval x)) ps.toList) = ps.toList.map fun x => (x.1, a.eval x.2) := by
              apply List.map_congr_left; intro x _; cases x; rfl
            rw [hm, h1]
            rfl
          · have := VR.agg (h := k.s.h) (μ := k.μ) (w := k.w) (I := Imm Γ k) cs cs'.toList h2.1 h2.2
            simpa using this
        · simp at hp
      · simp at hp
    · simp at hv
  | mkfunc f caps =>
    unfold chkOp at hc
    split at hc <;> try (first | contradiction | (simp at hc; done))
    rename_i f' first cs _ _ ho q
    cases q
    simp only [Bool.and_eq_true, beq_iff_eq] at hc
    obtain ⟨⟨rfl, he⟩, hcs⟩ := hc
    have he' : first = #[] := by simpa using he
    subst he'
    simp only [pureA] at hv
    split at hv
    · rename_i hk
      injection hv with hv; subst hv
      obtain ⟨h1, h2⟩ := opds_sound hI hT hcs
      have hvk := h2 hk
      refine .vk (cv := .func (.func f') #[] (cs.toList.map a.eval).toArray) ?_ (VR.func _ _ _ hvk.1 hvk.2)
      simp only [execOp, ho, Sem.run_bind, Instr.makeFunc, Sem.run_pure, Result.andThen_ok]
      have : (cs.toList.map a.eval).toArray = cs.map a.eval := by apply Array.ext'; simp
      rw [this]; simp
    · simp at hv
  | sliceStr x lo hi =>
    unfold chkOp at hc
    split at hc <;> try (first | contradiction | (simp at hc; done))
    rename_i t u lo' hi' _ _ _ ho q
    cases q
    simp only [Bool.and_eq_true] at hc
    obtain ⟨⟨⟨h1, h2⟩, h3⟩, h4⟩ := hc
    have b := opd h1
    simp only [pureA] at hv
    split at hv
    · rename_i s hb
      rw [hb] at b
      split at hv
      · rename_i l r c hs
        injection hv with hv; subst hv
        split at h4
        · rename_i hu
          have esz : (⟨s.toArray⟩ : ByteArray).size = s.length := by simp [ByteArray.size]
          obtain ⟨m, hr, q1, q2, q3, _⟩ := run_sliceBounds (P := P) hI hT false (mx := none) (mx' := none) h2 h3 rfl (Nat.le_refl s.length) (fun x hx => by injection hx) hs k.w
          refine .vk (cv := .string ((⟨s.toArray⟩ : ByteArray).extract l r)) ?_ ?_
          · have hr' := hr
            simp only [Option.map_none] at hr'
            simp only [execOp, ho, Sem.run_bind, Instr.sliceAt, run_underlying hu, Result.andThen_ok, Instr.slice, b.str, Option.map_none, Option.isSome_none, Bool.false_eq_true, if_false, esz, hr', Sem.run_pure]
          · have : (⟨s.toArray⟩ : ByteArray).extract l r = ⟨((s.take r).drop l).toArray⟩ := by
              apply ByteArray.ext
              simp [ByteArray.data_extract]
              rw [List.drop_take]
            rw [this]; exact .mkStr _
        · simp at h4
      · simp at hv
    · simp at hv
  | fieldAddr off x =>
    unfold chkOp at hc
    split at hc <;> try (first | contradiction | (simp at hc; done))
    rename_i t u f _ _ ho q
    cases q
    simp only [Bool.and_eq_true] at hc
    obtain ⟨h1, h2⟩ := hc
    have b := opd h1
    split at h2
    · rename_i fs hu
      cases hf : fs[f]? with
      | none => rw [hf] at h2; simp at h2
      | some fd =>
        rw [hf] at h2
        simp only [Option.any_some, Bool.and_eq_true, beq_iff_eq] at h2
        obtain ⟨rfl, hz⟩ := h2
        cases hsz : szT P fd.type with
        | none => rw [hsz] at hz; simp at hz
        | some sz =>
          rw [hsz] at hz
          simp at hz
          have run : ∀ ad, a.eval u = .pointer (some ad) → (execOp a.eval o).run P k.w = .ok (.value (.pointer (some (ad.add fd.offset)))) k.w := by
            intro ad hu'
            simp [execOp, ho, Instr.fieldAt, run_underlying hu, hf, hu', Instr.sureAddr, fieldPlace, run_sizeOf hsz, hz]
          simp only [pureA] at hv
          split at hv
          · rename_i hb
            injection hv with hv; subst hv
            obtain ⟨ad, he, hf'⟩ := FV.shift fd.offset b _ _ _ hb
            exact .same (run ad he) hf'
          · rename_i hb
            injection hv with hv; subst hv
            obtain ⟨ad, he, hf'⟩ := FV.shiftR fd.offset b _ _ _ hb
            exact .same (run ad he) hf'
          · rename_i hb
            injection hv with hv; subst hv
            obtain ⟨ad, he, hf'⟩ := FV.shiftP fd.offset b _ hb
            exact .same (run ad he) hf'
          · simp at hv
    · simp at h2
  | field isA n off x =>
    unfold chkOp at hc
    split at hc <;> try (first | contradiction | (simp at hc; done))
    rename_i t u f _ _ _ _ ho q
    cases q
    simp only [Bool.and_eq_true] at hc
    obtain ⟨⟨h1, h1'⟩, h2⟩ := hc
    have b := opd h1
    split at h2
    · rename_i fs hu
      cases hf : fs[f]? with
      | none => rw [hf] at h2; simp at h2
      | some fd =>
        rw [hf] at h2
        simp only [Option.any_some, Bool.and_eq_true, beq_iff_eq] at h2
        obtain ⟨⟨rfl, ha⟩, hz⟩ := h2
        simp only [pureA] at hv
        split at hv
        · rename_i hb
          rw [hb] at b
          obtain ⟨cvs, he, hvk⟩ := (b.keep rfl).agg
          obtain ⟨cv, hr, hk⟩ := run_part (P := P) ha hz hvk fd.offset hv k.w
          exact .vk (by simp [execOp, ho, Instr.field, run_underlying hu, hf, he, asAgg, hr]) hk
        · simp at hv
    · simp at h2
  | idxArr len esz x i =>
    unfold chkOp at hc
    split at hc <;> try (first | contradiction | (simp at hc; done))
    rename_i t u j _ _ _ _ ho q
    cases q
    simp only [Bool.and_eq_true] at hc
    obtain ⟨⟨h1, h2⟩, h3⟩ := hc
    have b := opd h1
    have bi := opd h2
    split at h3
    · rename_i n e hu
      simp only [Bool.and_eq_true, beq_iff_eq] at h3
      obtain ⟨rfl, hz⟩ := h3
      simp only [pureA] at hv
      split at hv
      · rename_i κ jj hj
        rw [hj] at bi
        by_cases hb0 : 0 ≤ jj ∧ jj < n
        · rw [if_pos hb0] at hv
          have run : ∀ ad, a.eval u = .pointer (some ad) → (execOp a.eval o).run P k.w = .ok (.value (.pointer (some (ad.add (jj.toNat * esz))))) k.w := by
            intro ad hu'
            simp only [execOp, ho, Instr.indexAt, bi.int, asIntOf, hu', Sem.run_bind, Sem.run_pure, Result.andThen_ok, run_underlying hu, Instr.sureAddr]
            rw [if_pos hb0]
            simp [run_sizeOf hz]
          split at hv
          · rename_i hb
            injection hv with hv; subst hv
            obtain ⟨ad, he, hf'⟩ := FV.shift (jj.toNat * esz) b _ _ _ hb
            exact .same (run ad he) hf'
          · rename_i hb
            injection hv with hv; subst hv
            obtain ⟨ad, he, hf'⟩ := FV.shiftR (jj.toNat * esz) b _ _ _ hb
            exact .same (run ad he) hf'
          · rename_i hb
            injection hv with hv; subst hv
            obtain ⟨ad, he, hf'⟩ := FV.shiftP (jj.toNat * esz) b _ hb
            exact .same (run ad he) hf'
          · simp at hv
        · rw [if_neg hb0] at hv; simp at hv
      · simp at hv
    · simp at h3
  | idxSl esz x i =>
    unfold chkOp at hc
    split at hc <;> try (first | contradiction | (simp at hc; done))
    rename_i t u j _ _ _ ho q
    cases q
    simp only [Bool.and_eq_true] at hc
    obtain ⟨⟨h1, h2⟩, h3⟩ := hc
    have b := opd h1
    have bi := opd h2
    split at h3
    · rename_i e hu0
      have hu := elemOf_sound hu0
      simp only [beq_iff_eq] at h3
      simp only [pureA] at hv
      split at hv
      · rename_i κ jj hj
        rw [hj] at bi
        have run : ∀ ad len c, a.eval u = .slice (some ad) len c → 0 ≤ jj ∧ jj < (len : Int) → (execOp a.eval o).run P k.w = .ok (.value (.pointer (some (ad.add (jj.toNat * esz))))) k.w := by
          intro ad len c hu' hb0
          simp only [execOp, ho, Instr.indexAt, bi.int, asIntOf, hu', Sem.run_bind, Sem.run_pure, Result.andThen_ok, run_underlying hu]
          rw [if_pos hb0]
          simp [run_sizeOf h3]
        split at hv
        · rename_i bb ver off len esz' cap hb
          rw [hb] at b
          by_cases hb0 : 0 ≤ jj ∧ jj < (len : Int) ∧ esz' = esz
          · rw [if_pos hb0] at hv
            obtain ⟨q1, q2, q3⟩ := hb0
            subst q3
            injection hv with hv; subst hv
            obtain ⟨ad, c, he, hk, hl, _, ha⟩ := (b.keep rfl).sl
            refine .vk (run ad len c he ⟨q1, q2⟩) (VR.ptr _ _ _ _ hk fun fz tag cells hrow => ?_)
            obtain ⟨z1, z2⟩ := ha fz tag cells hrow
            have := z1 (by omega)
            subst this
            rw [add_none _ _ rfl, Nat.add_assoc]
          · rw [if_neg hb0] at hv; simp at hv
        · rename_i cells len cap hb
          rw [hb] at b
          by_cases hb0 : 0 ≤ jj ∧ jj < (len : Int)
          · rw [if_pos hb0] at hv
            injection hv with hv; subst hv
            have hp := (b.keep rfl).ps
            obtain ⟨ad, c, he, hp2⟩ : ∃ ad c, a.eval u = .slice (some ad) len c ∧ PR k.w (Imm Γ k) (.pp cells) (.pointer (some ad)) := by
              generalize a.eval u = cu at hp
              cases hp with
              | ps _ _ _ ad c cvs s1 s2 s3 s4 s5 => exact ⟨ad, c, rfl, .pp cells ad cvs s1 s4 s5⟩
              | psn _ _ => simp at hb0; omega
            exact .vk (run ad len c he hb0) (.pr _ _ (PR.pp_drop hp2 _))
          · rw [if_neg hb0] at hv; simp at hv
        · simp at hv
      · simp at hv
    · simp at h3
  | idxAgg isA len esz x i =>
    unfold chkOp at hc
    split at hc <;> try (first | contradiction | (simp at hc; done))
    rename_i t u j _ _ _ _ _ ho q
    cases q
    simp only [Bool.and_eq_true] at hc
    obtain ⟨⟨⟨h1, h2⟩, _⟩, h3⟩ := hc
    have b := opd h1
    have bi := opd h2
    split at h3
    · rename_i n e hu
      simp only [Bool.and_eq_true, beq_iff_eq] at h3
      obtain ⟨⟨rfl, ha⟩, hz⟩ := h3
      simp only [pureA] at hv
      split at hv
      · rename_i κ jj hj
        rw [hj] at bi
        split at hv
        · rename_i cells hb
          rw [hb] at b
          by_cases hb0 : 0 ≤ jj ∧ jj < (n : Int)
          · rw [if_pos hb0] at hv
            obtain ⟨cvs, he, hvk⟩ := (b.keep rfl).agg
            obtain ⟨cv, hr, hk⟩ := run_part (P := P) ha hz hvk (jj.toNat * esz) hv k.w
            refine .vk (cv := cv) ?_ hk
            simp only [execOp, ho, Instr.index, bi.int, asIntOf, he, Sem.run_bind, Sem.run_pure, Result.andThen_ok, run_underlying hu]
            rw [if_pos hb0]
            simp [run_sizeOf hz, hr]
          · rw [if_neg hb0] at hv; simp at hv
        · simp at hv
      · simp at hv
    · simp at h3
  | idxStr x i =>
    unfold chkOp at hc
    split at hc <;> try (first | contradiction | (simp at hc; done))
    rename_i t u j _ _ ho q
    cases q
    simp only [Bool.and_eq_true] at hc
    obtain ⟨⟨h1, h2⟩, h3⟩ := hc
    have b := opd h1
    have bi := opd h2
    split at h3
    · rename_i hu
      simp only [pureA] at hv
      split at hv
      · rename_i κ jj hj
        rw [hj] at bi
        split at hv
        · rename_i s hb
          rw [hb] at b
          by_cases hb0 : 0 ≤ jj
          · rw [if_pos hb0] at hv
            split at hv
            · rename_i c hcs
              injection hv with hv; subst hv
              refine .vk (cv := .int .u8 c.toNat) ?_ (.mkInt _ _)
              have hgs : (⟨s.toArray⟩ : ByteArray)[jj.toNat]? = some c := by
                obtain ⟨hlt, he⟩ := List.getElem?_eq_some_iff.1 hcs
                have hlt' : jj.toNat < (⟨s.toArray⟩ : ByteArray).size := by simpa [ByteArray.size] using hlt
                exact (getElem?_pos (⟨s.toArray⟩ : ByteArray) jj.toNat hlt').trans (congrArg some he)
              simp only [execOp, ho, Instr.index, bi.int, asIntOf, b.str, Sem.run_bind, Sem.run_pure, Result.andThen_ok, run_underlying hu]
              rw [if_pos hb0, hgs]
              rfl
            · simp at hv
          · rw [if_neg hb0] at hv; simp at hv
        · simp at hv
      · simp at hv
    · simp at h3
  | extract x i =>
    unfold chkOp at hc
    split at hc <;> try (first | contradiction | (simp at hc; done))
    rename_i u j _ _ ho q
    cases q
    simp only [Bool.and_eq_true, beq_iff_eq] at hc
    obtain ⟨rfl, h1⟩ := hc
    have b := opd h1
    simp only [pureA] at hv
    split at hv
    · rename_i vs hb
      rw [hb] at b
      obtain ⟨cvs, he, hvk⟩ := (b.keep rfl).tuple
      obtain ⟨c, q1, q2⟩ := hvk.get hv
      exact .vk (cv := c) (by simp [execOp, ho, Instr.extract, he, q1]) q2
    · simp at hv
  | len x =>
    unfold chkOp at hc
    split at hc <;> try (first | contradiction | (simp at hc; done))
    rename_i args argTypes _ ho q
    cases q
    simp only [Bool.and_eq_true] at hc
    obtain ⟨h1, h2⟩ := hc
    obtain ⟨u, rfl, hx⟩ := one_arg h1
    have b := opd hx
    cases ht : argTypes[0]? with
    | none => rw [ht] at h2; simp at h2
    | some t =>
      rw [ht] at h2
      simp only [Option.bind_some] at h2
      split at h2
      · rename_i e hu
        have run : ∀ (ad : Option Addr) (n c : Nat), a.eval u = .slice ad n c → (execOp a.eval o).run P k.w = .ok (.value (.int .i64 n)) k.w := by
          intro ad n c hn
          simp [execOp, ho, resolve, invoke, builtin, Builtin.len_, ht, run_underlying hu, hn, goInt]
        simp only [pureA] at hv
        split at hv
        · rename_i hb
          rw [hb] at b
          injection hv with hv; subst hv
          exact .vk (run _ _ _ (b.keep rfl).nils) (.mkInt _ _)
        · rename_i hb
          rw [hb] at b
          injection hv with hv; subst hv
          obtain ⟨ad, c, he, _⟩ := (b.keep rfl).sl
          exact .vk (run _ _ _ he) (.mkInt _ _)
        · rename_i hb
          rw [hb] at b
          injection hv with hv; subst hv
          obtain ⟨ad, c, he⟩ := b.ps_inv
          exact .vk (run _ _ _ he) (.mkInt _ _)
        · simp at hv
      · simp at h2
  | lenS x =>
    unfold chkOp at hc
    split at hc <;> try (first | contradiction | (simp at hc; done))
    rename_i args argTypes _ ho q
    cases q
    simp only [Bool.and_eq_true] at hc
    obtain ⟨h1, h2⟩ := hc
    obtain ⟨u, rfl, hx⟩ := one_arg h1
    have b := opd hx
    cases ht : argTypes[0]? with
    | none => rw [ht] at h2; simp at h2
    | some t =>
      rw [ht] at h2
      simp only [Option.bind_some] at h2
      split at h2
      · rename_i hu
        simp only [pureA] at hv
        split at hv
        · rename_i s hb
          rw [hb] at b
          injection hv with hv; subst hv
          have esz : (⟨s.toArray⟩ : ByteArray).size = s.length := by simp [ByteArray.size]
          exact .vk (cv := .int .i64 s.length) (by simp only [execOp, ho, resolve, invoke, builtin, Sem.run_bind, Sem.run_pure, Result.andThen_ok, Builtin.len_, List.map_toArray, List.map_cons, List.map_nil, ht, b.str, run_underlying hu, goInt, esz]; simp [run_underlying hu, esz]) (.mkInt _ _)
        · simp at hv
      · simp at h2
  | cap x =>
    unfold chkOp at hc
    split at hc <;> try (first | contradiction | (simp at hc; done))
    rename_i args argTypes _ ho q
    cases q
    simp only [Bool.and_eq_true] at hc
    obtain ⟨h1, h2⟩ := hc
    obtain ⟨u, rfl, hx⟩ := one_arg h1
    have b := opd hx
    cases ht : argTypes[0]? with
    | none => rw [ht] at h2; simp at h2
    | some t =>
      rw [ht] at h2
      simp only [Option.bind_some] at h2
      split at h2
      · rename_i e hu
        have run : ∀ (ad : Option Addr) (n c : Nat), a.eval u = .slice ad n c → (execOp a.eval o).run P k.w = .ok (.value (.int .i64 c)) k.w := by
          intro ad n c hn
          simp [execOp, ho, resolve, invoke, builtin, Builtin.cap_, ht, run_underlying hu, hn, goInt]
        simp only [pureA] at hv
        split at hv
        · rename_i hb
          rw [hb] at b
          injection hv with hv; subst hv
          exact .vk (run _ _ _ (b.keep rfl).nils) (.mkInt _ _)
        · rename_i hb
          rw [hb] at b
          injection hv with hv; subst hv
          obtain ⟨ad, c, he, _, _, hcap, _⟩ := (b.keep rfl).sl
          have := hcap _ rfl
          subst this
          exact .vk (run _ _ _ he) (.mkInt _ _)
        · rename_i hb
          rw [hb] at b
          injection hv with hv; subst hv
          obtain ⟨ad, c, he, hcap⟩ := b.ps_cap
          subst hcap
          exact .vk (run _ _ _ he) (.mkInt _ _)
        · simp at hv
      · simp at h2
  | mn xs =>
    unfold chkOp at hc
    split at hc <;> try (first | contradiction | (simp at hc; done))
    rename_i args argTypes _ ho q
    cases q
    obtain ⟨h1, h2⟩ := opds_sound hI hT hc
    simp only [pureA] at hv
    have hvk := h2 (foldInt_keeps hv)
    obtain ⟨κ, x, as, e1, e2, rfl⟩ := foldInt_sound _ hvk hv
    refine .vk (cv := .int κ (as.foldl min x)) ?_ (.mkInt _ _)
    have hm := run_min (P := P) κ k.w as x
    simp only [execOp, ho, resolve, invoke, builtin, Sem.run_bind, Sem.run_pure, Result.andThen_ok, Builtin.min_, Array.toList_map, e2, hm]
  | mx xs =>
    unfold chkOp at hc
    split at hc <;> try (first | contradiction | (simp at hc; done))
    rename_i args argTypes _ ho q
    cases q
    obtain ⟨h1, h2⟩ := opds_sound hI hT hc
    simp only [pureA] at hv
    have hvk := h2 (foldInt_keeps hv)
    obtain ⟨κ, x, as, e1, e2, rfl⟩ := foldInt_sound _ hvk hv
    refine .vk (cv := .int κ (as.foldl max x)) ?_ (.mkInt _ _)
    have hm := run_max (P := P) κ k.w as x
    simp only [execOp, ho, resolve, invoke, builtin, Sem.run_bind, Sem.run_pure, Result.andThen_ok, Builtin.max_, Array.toList_map, e2, hm]
  | bslice rw tag esz len zero parts =>
    cases rw with
    | true => simp [pureA] at hv
    | false =>
      unfold chkOp at hc
      split at hc <;> try (first | contradiction | (simp at hc; done))
      rename_i t n ps _ _ _ _ _ _ ho q
      cases q
      simp only [Bool.and_eq_true, beq_iff_eq] at hc
      obtain ⟨rfl, hc⟩ := hc
      split at hc
      · rename_i e hu0
        have hu := elemOf_sound hu0
        simp only [Bool.and_eq_true, beq_iff_eq, decide_eq_true_eq] at hc
        obtain ⟨⟨⟨⟨⟨⟨hz, hzero⟩, hzl⟩, hpos⟩, h24⟩, h63⟩, hp⟩ := hc
        obtain ⟨i, z, hi, hzz, hvk⟩ := zero_sound (Γ := Γ) (k := k) hzero
        simp only [pureA] at hv
        split at hv
        · rename_i hk
          simp only [Option.map_eq_some_iff] at hv
          obtain ⟨cs, hf, rfl⟩ := hv
          have hzs : z.cells.size = esz := by have := hvk.1; simp at this; omega
          have hcells : VKs Γ k (reps n zero) ((Array.range (n * esz)).map (fun i => z.cells[i % z.cells.size]!)).toList := by
            have := range_rep n z.cells (by omega)
            rw [hzs] at this ⊢
            rw [this]; exact reps_VKs hvk n
          have hkeep : (partsA k.s.t parts).all (fun x => keeps x.2.2) = true := by
            rw [List.all_eq_true] at hk ⊢
            intro x hx
            have := hk x hx
            revert this
            cases x.2.2 <;> simp [noRef, keeps]
          obtain ⟨cs', h1, h2, h3⟩ := parts_sound hI hT (fun i => some (i * esz, esz)) parts ps.toList hp hkeep (reps n zero) cs _ hf hcells
          have hb := below_alloc' k.w (.cells cs' e (0, 0))
          refine ⟨.slice (some ⟨k.w.heap.size, 0, none⟩) n n, k.w.alloc (.cells cs' e (0, 0)), ?_, hb, .inr (.vr _ _ (.pr _ _ ?_))⟩
          · have hm : (List.map (fun x : Nat × Operand => match x with | (i, x) => (i, a.eval x)) ps.toList) = ps.toList.map fun x => (x.1, a.eval x.2) := by
              apply List.map_congr_left; intro x _; cases x; rfl
            have h24' : ¬ n * esz > 2 ^ 24 := by simpa using h24
            by_cases hn0 : n * esz = 0
            · have he0 : (Array.range (n * esz)).map (fun i => z.cells[i % z.cells.size]!) = (Array.range (n * esz)).map (fun i => (#[] : Array Value)[i % (#[] : Array Value).size]!) := by rw [hn0]; simp
              rw [he0] at h1
              simp only [execOp, ho, Sem.run_bind, Instr.buildSlice, run_underlying hu, Result.andThen_ok, run_sizeOf hz]
              rw [if_neg h24', if_pos hn0]
              simp only [Sem.run_bind, Sem.run_pure, Result.andThen_ok, Array.toList_map]
              rw [hm, h1]
              simp [newRow]
            · simp only [execOp, ho, Sem.run_bind, Instr.buildSlice, run_underlying hu, Result.andThen_ok, run_sizeOf hz]
              rw [if_neg h24', if_neg hn0]
              simp only [Sem.run_bind, Sem.run_pure, Result.andThen_ok, Array.toList_map, run_zeroValue hi hzz]
              rw [hm, h1]
              simp [newRow]
          · have hpr : ∀ j, j < cs.length → PR (k.w.alloc (.cells cs' e (0, 0))) (Imm Γ { k with w := k.w.alloc (.cells cs' e (0, 0)) }) (cs.getD j undefA) (cs'.toList.getD j undef) := by
              intro j hj
              have hnr := fillA_noRef _ _ _ hf (reps_noRef (zero_noRef hzero) n) hk
              have hg := Grow.ext (Γ := Γ) k (k.w.alloc (.cells cs' e (0, 0))) hb hI.size hI.outer
              exact ((h2.2 j hj).toPR ((noRefs_iff _).1 hnr _ (getD_mem hj))).mono hg.imm
            refine .ps cs n (some n) _ n cs'.toList (fun _ => rfl) (Nat.le_refl _) (fun x hx => by injection hx) (fun j hj => ⟨⟨by simp, fun h => absurd hI.size (by simp at h; omega), fun hx => by have := hI.outer _ hx; simp at this, fun hr => by have := hI.isReg_lt hr; simp at this, fun b ver fz tag cells he hm => ?_⟩, ?_⟩) hpr
            · have := (hI.rows b ver fz tag cells he).lt
              simp at hm; omega
            · simp only [Nat.zero_add]
              rw [cell?_alloc_new, List.getD_eq_getElem?_getD]
              have : j < cs'.toList.length := by rw [h2.1]; exact hj
              simp at this
              simp [this]
        · simp at hv
      · simp at hc
  | sliceSl esz x lo hi mx =>
    unfold chkOp at hc
    split at hc <;> try (first | contradiction | (simp at hc; done))
    rename_i t u lo' hi' mx' _ _ _ _ _ ho q
    cases q
    simp only [Bool.and_eq_true] at hc
    obtain ⟨⟨⟨⟨h1, h2⟩, h3⟩, h4⟩, h5⟩ := hc
    have b := opd h1
    split at h5
    · rename_i e hu0
      have hu := elemOf_sound hu0
      simp only [beq_iff_eq] at h5
      have run : ∀ (ad : Option Addr) (n c l r m : Nat), a.eval u = .slice ad n c → (Instr.sliceBounds true n c (lo'.map a.eval) (hi'.map a.eval) (mx'.map a.eval)).run P k.w = .ok (l, r, m) k.w →
          (execOp a.eval o).run P k.w = .ok (.value (.slice (if m = l then ad else ad.map (·.add (l * esz))) (r - l) (m - l))) k.w := by
        intro ad n c l r m hn hb
        simp only [execOp, ho, Instr.sliceAt, hn, Sem.run_bind, run_underlying hu, Result.andThen_ok, Instr.slice, hb, run_sizeOf h5, Sem.run_pure]
      simp only [pureA] at hv
      split at hv
      · rename_i hb
        rw [hb] at b
        split at hv
        · rename_i hs
          injection hv with hv; subst hv
          rename_i x
          obtain ⟨l, r, c⟩ := x
          obtain ⟨m, hr, q1, q2, q3, _⟩ := run_sliceBounds (P := P) hI hT true h2 h3 h4 (Nat.le_refl 0) (fun x hx => by injection hx) hs k.w
          have hm0 : m = 0 := by omega
          have hl0 : l = 0 := by omega
          have hr0 : r = 0 := by omega
          subst hm0; subst hl0; subst hr0
          have := run _ _ _ _ _ _ (b.keep rfl).nils hr
          exact .vk (by simpa using this) (.pr _ _ .nils)
        · simp at hv
      · rename_i bb ver off len esz' cap hb
        rw [hb] at b
        by_cases hz : esz' = esz
        · subst hz
          rw [if_pos rfl] at hv
          split at hv
          · rename_i l r c hs
            injection hv with hv; subst hv
            obtain ⟨ad, cc, he, hk, hl, hcap, ha⟩ := (b.keep rfl).sl
            obtain ⟨m, hr, q1, q2, q3, q4, _⟩ := run_sliceBounds (P := P) hI hT true h2 h3 h4 hl hcap hs k.w
            refine .vk (run _ _ _ _ _ _ he hr) ?_
            have hsome : (if m = l then some ad else (some ad).map (·.add (l * esz'))) = some (if m = l then ad else ad.add (l * esz')) := by split <;> rfl
            rw [hsome]
            refine VR.sl _ _ _ _ _ _ _ _ hk (by omega) (fun x hx => q4 x hx) fun fz tag cells hrow => ?_
            obtain ⟨z1, z2⟩ := ha fz tag cells hrow
            refine ⟨fun h0 => ?_, ?_⟩
            · have hml : m ≠ l := by omega
              rw [if_neg hml]
              have := z1 (by omega)
              subst this
              rw [add_none _ _ rfl, Nat.add_assoc]
            · have : l * esz' + (m - l) * esz' = m * esz' := by rw [← Nat.add_mul]; congr 1; omega
              have h6 : m * esz' ≤ cc * esz' := Nat.mul_le_mul_right _ q3
              omega
          · simp at hv
        · rw [if_neg hz] at hv; simp at hv
      · rename_i cells len cap hb
        rw [hb] at b
        split at hv
        · rename_i l r c hs
          by_cases hcl : len * esz ≤ cells.length
          · rw [if_pos hcl] at hv
            injection hv with hv; subst hv
            have hrl : l ≤ r ∧ r ≤ len := by
              obtain ⟨m, hr, q1, q2, q3, q4, q5, q6⟩ := run_sliceBounds (P := P) (cap := none) hI hT true h2 h3 h4 (Nat.le_refl len) (fun x hx => by simp at hx) hs k.w
              exact ⟨q1, by omega⟩
            obtain ⟨ad, cc, he, hl, hcap, hps⟩ := PR.ps_slice (b.keep rfl).ps esz l r hrl.1 hrl.2 hcl (if mx.isSome then c else cap.map (· - l))
            obtain ⟨m, hr, q1, q2, q3, q4, q5, q6⟩ := run_sliceBounds (P := P) (cap := none) hI hT true h2 h3 h4 hl (fun x hx => by simp at hx) hs k.w
            refine .vk (run _ _ _ _ _ _ he hr) (.pr _ _ (hps m q2 q3 fun x hx => ?_))
            by_cases hmx : mx.isSome = true
            · rw [if_pos hmx] at hx; exact q4 x hx
            · rw [if_neg hmx] at hx
              have hnone : mx = none := by cases mx <;> simp at hmx ⊢
              obtain ⟨z1, _, _⟩ := q5 hnone
              cases cap with
              | none => simp at hx
              | some y => simp at hx; have := hcap y rfl; omega
          · rw [if_neg hcl] at hv; simp at hv
        · simp at hv
      · simp at hv
    · simp at h5
  | _ => simp [pureA] at hv
end
end Go.Abs

/- The abstract machine: operations that read or write. -/
namespace Go.Abs
open Go.RowKit

section
variable {Γ : Gh} {k k' : Kf} {P : Program}

/-- The state behind an operation that reads or writes. -/
def memK (k : Kf) (ts : List AV) (h : AHeap) (μ : Nat → Place) (w : World) : Kf := ⟨⟨ts, h, k.s.c⟩, k.ρ, μ, w⟩

def MemPost (P : Program) (Γ : Gh) (k : Kf) (a : Act) (o : Oper) (v : AV) (ts : List AV) (h : AHeap) : Prop :=
  ∃ nx cv w' μ', (execOp a.eval o).run P k.w = .ok nx w' ∧ (nx = .value cv ∨ (nx = .skip ∧ cv = undef)) ∧ Inv Γ (memK k ts h μ' w') ∧ Grow Γ k (memK k ts h μ' w') ∧ GrowR k (memK k ts h μ' w') ∧ TR Γ (memK k ts h μ' w') a.tmps ∧ VK Γ (memK k ts h μ' w') v cv

/-- It has only read. -/
theorem MemPost.read (hI : Inv Γ k) {a : Act} (hT : TR Γ k a.tmps) {o : Oper} {v : AV} {cv : Value} (hr : (execOp a.eval o).run P k.w = .ok (.value cv) k.w) (hv : VK Γ k v cv) : MemPost P Γ k a o v k.s.t k.s.h :=
  ⟨_, cv, k.w, k.μ, hr, .inl rfl, hI, Grow.refl _ _, GrowR.refl _, hT, hv⟩

/-- A new object. -/
theorem MemPost.row (hI : Inv Γ k) {a : Act} (hT : TR Γ k a.tmps) {o : Oper} {v : AV} {cv : Value} {tag : Nat} {cells : List AV} {cs : Array Value} {e : TypeId} (hvk : VKs Γ k cells cs.toList)
    (hr : (execOp a.eval o).run P k.w = .ok (.value cv) (k.w.alloc (.cells cs e (0, 0)))) (hv : VK Γ (addObj k (.row 0 0 tag cells) cs.size (.cells cs e (0, 0))) v cv) : MemPost P Γ k a o v k.s.t (k.s.h ++ [.row 0 0 tag cells]) := by
  have g := Grow.addObj hI (.row 0 0 tag cells) cs.size (.cells cs e (0, 0)) (by simp; intros; omega)
  have hI' := hI.addRow tag cells cs e (0, 0) (.inl (Nat.le_refl 0)) (by have := hvk.1; simp at this; omega) (fun j hj => by
    have h1 := hvk.2 j hj
    have : j < cs.size := by have := hvk.1; simp at this; omega
    refine ⟨cs[j], by simp [this], ?_⟩
    rw [List.getD_eq_getElem?_getD] at h1
    simpa [List.getD_eq_getElem?_getD, this] using h1)
  exact ⟨_, cv, _, _, hr, .inl rfl, hI', g, GrowR.addObj _ _ _ _, hT.same g rfl rfl rfl, hv⟩

theorem known_new (h : AHeap) (o : AObj) (h0 : ∀ ver fz tag cells, o = .row ver fz tag cells → ver = 0) : Known (h ++ [o]) h.length 0 :=
  ⟨by simp, fun v fz tag cells _ => Nat.zero_le _⟩

theorem new_place (k : Kf) (o : AObj) (n : Nat) (co : Obj) : (addObj k o n co).μ k.s.h.length = ⟨k.w.heap.size, 0, n⟩ := muSet_same _ _ _

/-- What a load finds. -/
theorem run_loadOf (hI : Inv Γ k) {tg : Tg} {isA : Bool} {n : Nat} {t : TypeId} (ha : aggT P t = some isA) (hn : szT P t = some n) (h1 : isA = true ∨ n = 1) {u v : AV} {cu : Value} (hu : FV Γ k u cu) (hv : loadOf tg isA n k.s.t k.s.h u = some v) :
    ∃ ad cv, cu = .pointer (some ad) ∧ (loadVar t ad).run P k.w = .ok cv k.w ∧ VK Γ k v cv := by
  unfold loadOf at hv
  split at hv
  · rename_i p st off
    split at hv
    · rename_i st' cells he
      by_cases hc : st = st' ∧ tgReg tg p = true
      · rw [if_pos hc] at hv
        obtain ⟨rfl, _⟩ := hc
        cases hu with
        | vr _ _ h => exact h.not_rp.elim
        | rp _ _ _ ad g1 g2 g3 =>
          have := g3 cells he
          subst this
          have hr := hI.regs p st cells he
          have hh : Holds Γ k ⟨k.ρ p, 0, none⟩ cells := fun j hj => by
            obtain ⟨cv, q1, q2⟩ := hr.cell j hj
            exact ⟨cv, by simpa using q1, q2⟩
          have hh2 := hh.drop off
          simp only [Nat.zero_add] at hh2
          obtain ⟨cv, q1, q2⟩ := run_loadVar (P := P) ha hn h1 (fun _ => rfl) hh2 hv
          exact ⟨_, cv, rfl, q1, q2⟩
      · rw [if_neg hc] at hv; simp at hv
    · simp at hv
  · rename_i b ver off
    obtain ⟨ad, rfl, hk, had⟩ := (hu.keep rfl).ptr
    split at hv
    · rename_i fz tag cells hrow
      have he := rowAt_some.1 hrow
      by_cases hc : tgOk tg tag = true
      · rw [if_pos hc] at hv
        have := had _ _ _ he
        subst this
        have hr := hI.rows b ver _ _ cells he
        have hh : Holds Γ k ⟨(k.μ b).g, (k.μ b).d, none⟩ cells := fun j hj => hr.cell j hj
        obtain ⟨cv, q1, q2⟩ := run_loadVar (P := P) ha hn h1 (fun _ => rfl) (hh.drop off) hv
        exact ⟨_, cv, rfl, q1, q2⟩
      · rw [if_neg hc] at hv; simp at hv
    · simp at hv
  · rename_i cells
    have hp := (hu.keep rfl).pp
    have hv' : loadA isA n cells = some v := by
      split at hv
      · simp at hv
      · exact hv
    cases hp with
    | pp _ ad cvs s1 s2 s3 =>
      have hh : Holds Γ k ad cells := fun j hj => ⟨_, (s2 j hj).2, .pr _ _ (s3 j hj)⟩
      obtain ⟨cv, q1, q2⟩ := run_loadVar (P := P) ha hn h1 s1 hh hv'
      exact ⟨ad, cv, rfl, q1, q2⟩
  · simp at hv

theorem allOne {vs : List AV} {cvs : List Value} (h : VKs Γ k vs cvs) (h1 : vs.all oneCell = true) : ∀ c ∈ cvs, c.oneCell' = true := by
  intro c hc
  obtain ⟨j, hj, rfl⟩ := List.mem_iff_getElem.1 hc
  have hj' : j < vs.length := by rw [← h.1]; exact hj
  have h2 := h.2 j hj'
  have : cvs.getD j undef = cvs[j] := by simp [List.getD_eq_getElem?_getD, hj]
  rw [this] at h2
  exact h2.one ((List.all_eq_true.1 h1) _ (getD_mem hj'))

theorem run_storeVar {t : TypeId} {n : Nat} (hn : szT P t = some n) {ad : Addr} (hs : ad.spot = none) {cv : Value} (hsz : cv.cells.size = n) (h1 : ∀ c ∈ cv.cells.toList, c.oneCell' = true) {w : World}
    (hc : ∀ j, j < n → ∃ x, w.cell? ⟨ad.block, ad.off + j, none⟩ = some x) (hf : ∀ j, j < n → w.frozen? ⟨ad.block, ad.off + j, none⟩ = false) :
    (storeVar t ad cv).run P w = .ok () (setCells w ad.block ad.off cv.cells.toList) := by
  have hl : cv.cells.toList.length = n := by simpa using hsz
  have := run_storeCells P ad hs cv.cells.toList w 0 h1 (fun j hj => by simpa using hc j (by omega)) (fun j hj => by simpa using hf j (by omega))
  simp only [storeVar, Sem.run_bind, run_sizeOf hn, Result.andThen_ok]
  rw [if_neg (by omega)]
  simpa using this
end
end Go.Abs

/- The abstract machine: the builtin append and copy of the model, run. -/
namespace Go.Abs
open Go.RowKit

section
variable {Γ : Gh} {k k' : Kf} {P : Program}

theorem run_loadAt (w : World) (ad : Addr) (cs : List Value) (h : ∀ j v, cs[j]? = some v → ad.spot = none ∧ w.cell? ⟨ad.block, ad.off + j, none⟩ = some v) : (loadCells ad cs.length).run P w = .ok cs.toArray w :=
  run_loadCells_list w ad cs fun j v hj => by
    obtain ⟨h1, h2⟩ := h j v hj
    rw [add_none _ _ h1]; exact h2

/-- What is appended or copied, read: in any world that has the same cells. -/
theorem more_sound (hI : Inv Γ k) {esz m : Nat} {u : AV} {cu : Value} {news : List AV} (hu : FV Γ k u cu) (h : moreA esz k.s.h u = some (m, news)) :
    news.length = m * esz ∧ (∀ w, (Builtin.lenOf cu).run P w = .ok m w) ∧ ∃ cnews : List Value, VKs Γ k news cnews ∧
      ∀ n w, n ≤ m → (∀ g o, w.cell? ⟨g, o, none⟩ = k.w.cell? ⟨g, o, none⟩) → (Builtin.firstCells esz n cu).run P w = .ok (cnews.take (n * esz)).toArray w := by
  unfold moreA at h
  have slice : ∀ (ad : Addr) (c : Nat) (cells : List AV), (cells ≠ [] → ad.spot = none) → Holds Γ k ad cells → m * esz ≤ cells.length → cu = .slice (some ad) m c → news = cells.take (m * esz) →
      news.length = m * esz ∧ (∀ w, (Builtin.lenOf cu).run P w = .ok m w) ∧ ∃ cnews : List Value, VKs Γ k news cnews ∧
        ∀ n w, n ≤ m → (∀ g o, w.cell? ⟨g, o, none⟩ = k.w.cell? ⟨g, o, none⟩) → (Builtin.firstCells esz n cu).run P w = .ok (cnews.take (n * esz)).toArray w := by
    rintro ad c cells hsp hh hl rfl rfl
    refine ⟨by simp; omega, fun w => by simp [Builtin.lenOf], ?_⟩
    obtain ⟨cvs, hvk, hc⟩ := hh.list
    refine ⟨cvs.take (m * esz), hvk.take _, fun n w hn hw => ?_⟩
    have hnm : n * esz ≤ m * esz := Nat.mul_le_mul_right _ hn
    have hlen : ((cvs.take (m * esz)).take (n * esz)).length = n * esz := by simp [hvk.1]; omega
    have := run_loadAt (P := P) w ad ((cvs.take (m * esz)).take (n * esz)) (fun j v hj => by
      have hlt : j < n * esz := by have := (List.getElem?_eq_some_iff.1 hj).1; omega
      rw [List.getElem?_take, if_pos hlt, List.getElem?_take, if_pos (by omega)] at hj
      refine ⟨hsp (fun e => by subst e; simp at hl; omega), ?_⟩
      rw [hw]; exact hc j v hj)
    rw [hlen] at this
    simpa [Builtin.firstCells] using this
  split at h
  · simp at h
    obtain ⟨rfl, rfl⟩ := h
    have := (hu.keep rfl).nils
    subst this
    exact ⟨by simp, fun w => by simp [Builtin.lenOf], [], .nil, fun n w _ _ => by simp [Builtin.firstCells]⟩
  · rename_i cells mm cap
    by_cases hl : mm * esz ≤ cells.length
    · rw [if_pos hl] at h
      simp at h
      obtain ⟨rfl, rfl⟩ := h
      have hp := (hu.keep rfl).ps
      cases hp with
      | ps _ _ _ ad c cvs s1 s2 s3 s4 s5 => exact slice ad c cells s1 (fun j hj => ⟨_, (s4 j hj).2, .pr _ _ (s5 j hj)⟩) hl rfl rfl
      | psn _ _ => exact ⟨by simp, fun w => by simp [Builtin.lenOf], [], by simpa using VKs.nil, fun n w _ _ => by simp [Builtin.firstCells]⟩
    · rw [if_neg hl] at h; simp at h
  · rename_i b ver off mm esz' cap
    split at h
    · rename_i fz tag cells hrow
      have he := rowAt_some.1 hrow
      by_cases hc : esz' = esz ∧ off + mm * esz ≤ cells.length
      · rw [if_pos hc] at h
        simp at h
        obtain ⟨rfl, rfl⟩ := h
        obtain ⟨rfl, hl⟩ := hc
        obtain ⟨ad, c, rfl, hk, hle, _, ha⟩ := (hu.keep rfl).sl
        obtain ⟨z1, z2⟩ := ha _ _ _ he
        by_cases hc0 : c = 0
        · have : mm = 0 := by omega
          subst this
          refine ⟨by simp, fun w => by simp [Builtin.lenOf], [], by simpa using VKs.nil, fun n w hn _ => ?_⟩
          have : n = 0 := by omega
          subst this
          simp [Builtin.firstCells, loadCells, loadCellsFrom]
        · have := z1 hc0
          subst this
          have hr := hI.rows b ver _ _ cells he
          have hh : Holds Γ k ⟨(k.μ b).g, (k.μ b).d, none⟩ cells := fun j hj => hr.cell j hj
          exact slice _ c (cells.drop off) (fun _ => rfl) (hh.drop off) (by simp; omega) rfl rfl
      · rw [if_neg hc] at h; simp at h
    · simp at h
  · rename_i s
    by_cases hc : esz = 1
    · subst hc
      rw [if_pos rfl] at h
      simp at h
      obtain ⟨rfl, rfl⟩ := h
      obtain rfl := hu.str
      have hsz : (⟨s.toArray⟩ : ByteArray).size = s.length := by simp [ByteArray.size]
      refine ⟨by simp, fun w => by simp [Builtin.lenOf, ByteArray.size], s.map fun b => .int .u8 b.toNat, ⟨by simp, fun j hj => ?_⟩, fun n w hn _ => ?_⟩
      · simp at hj
        simp [List.getD_eq_getElem?_getD, hj]
        exact .mkInt _ _
      · simp only [Builtin.firstCells, Sem.run_pure]
        congr 1
        apply Array.ext'
        simp [ByteArray.data_extract]
    · rw [if_neg hc] at h; simp at h
  · simp at h

theorem two_kinds {u : TypeId} (hu : (match P.underlying u with | some (.slice _) | some .string => true | _ => false) = true) : (∃ e, P.underlying u = some (.slice e)) ∨ P.underlying u = some .string := by
  split at hu
  · rename_i h; exact .inl ⟨_, h⟩
  · rename_i h; exact .inr h
  · simp at hu

/-- append, where there is room. -/
theorem run_append_in {t u ty e : TypeId} {i : TypeInfo} (ht : P.underlying t = some (.slice e)) (hu : (match P.underlying u with | some (.slice _) | some .string => true | _ => false) = true) (hi : P.info? e = some i)
    {base : Option Addr} {n c m : Nat} {cx : Value} {w : World} (hlen : (Builtin.lenOf cx).run P w = .ok m w) {news : List Value} (hnews : (Builtin.firstCells i.size m cx).run P w = .ok news.toArray w) (hroom : n + m ≤ c)
    {w' : World} (hst : ∀ ad, base = some ad → (storeCells (ad.add (n * i.size)) news).run P w = .ok () w') (hnone : base = none → w' = w) :
    (Builtin.append_ #[t, u] ty #[.slice base n c, cx]).run P w = .ok (.slice base (n + m) c) w' := by
  have key : ∀ ad, base = some ad → (storeCells (ad.add (n * i.size)) news).run P w = .ok () w' := hst
  rcases two_kinds hu with ⟨e', hdu⟩ | hdu <;> cases base with
  | none =>
    have := hnone rfl
    subst this
    simp [Builtin.append_, run_underlying ht, run_underlying hdu, sizeOf, typeInfo, hi, hlen, hroom, hnews]
  | some ad =>
    have h1 := hst ad rfl
    simp [Builtin.append_, run_underlying ht, run_underlying hdu, sizeOf, typeInfo, hi, hlen, hroom, hnews, h1]

/-- append, where there is none. -/
theorem run_append_out {t u ty e : TypeId} {i : TypeInfo} {z : Value} (ht : P.underlying t = some (.slice e)) (hu : (match P.underlying u with | some (.slice _) | some .string => true | _ => false) = true) (hi : P.info? e = some i) (hz : i.zero = some z)
    {base : Option Addr} {n c m : Nat} {cx : Value} {w : World} (hlen : (Builtin.lenOf cx).run P w = .ok m w) {olds news : List Value} (holds : (Builtin.firstCells i.size n (.slice base n c)).run P w.drew = .ok olds.toArray w.drew)
    (hnews : (Builtin.firstCells i.size m cx).run P w.drew = .ok news.toArray w.drew) (hroom : c < n + m) (h63 : n + m ≤ 9223372036854775807) (hfit : (n + m) * i.bytes ≤ 140737488355328) :
    (Builtin.append_ #[t, u] ty #[.slice base n c, cx]).run P w = .ok (.slice (some ⟨w.heap.size, 0, none⟩) (n + m) (grownCap w (n + m) c e))
      (w.drew.alloc (.cells (olds.toArray ++ news.toArray ++ Builtin.zeroCells z.cells (grownCap w (n + m) c e - (n + m))) e)) := by
  have hn : ¬ (n + m ≤ c) := by omega
  have h48 := growslice_fits hroom hfit
  have h48' : ¬ (281474976710656 < Builtin.nextslicecap (n + m) c * i.bytes) := by omega
  have h63' : ¬ (9223372036854775807 < ((n : Int) + (m : Int))) := by omega
  rcases two_kinds hu with ⟨e', hdu⟩ | hdu
  · simp [Builtin.append_, run_underlying ht, run_underlying hdu, sizeOf, typeInfo, zeroValue, hi, hz, hlen, hn, h63', h48', Question.forced, holds, hnews, newRow, grownCap]
    congr 2; apply Array.ext'; simp [List.append_assoc]
  · simp [Builtin.append_, run_underlying ht, run_underlying hdu, sizeOf, typeInfo, zeroValue, hi, hz, hlen, hn, h63', h48', Question.forced, holds, hnews, newRow, grownCap]
    congr 2; apply Array.ext'; simp [List.append_assoc]
end
end Go.Abs

/- The abstract machine: operations that read or write, together (but for maps). -/
namespace Go.Abs
open Go.RowKit

section
variable {Γ : Gh} {k k' : Kf} {P : Program}

theorem below_drew' (w : World) : Below w.heap.size w w.drew := ⟨rfl, rfl, rfl, Nat.le_refl _, fun _ _ => rfl⟩

/-- A new row of cells that an append made. -/
theorem new_row (hI : Inv Γ k) {a : Act} (hT : TR Γ k a.tmps) {o : Oper} {tag esz n c : Nat} {cells : List AV} {cs : Array Value} {e : TypeId} {cells0 : List Value} {rest : Array Value} (hvk : VKs Γ k cells cells0) (hcs : cs = cells0.toArray ++ rest)
    (hsz : cs.size = c * esz) (hn : n ≤ c)
    (hr : (execOp a.eval o).run P k.w = .ok (.value (.slice (some ⟨k.w.heap.size, 0, none⟩) n c)) (k.w.drew.alloc (.cells cs e (0, 0)))) :
    MemPost P Γ k a o (.sl k.s.h.length 0 0 n esz none) k.s.t (k.s.h ++ [.row 0 0 tag cells]) := by
  have hI1 := hI.ext k.w.drew (below_drew' _)
  have g1 := Grow.ext (Γ := Γ) k k.w.drew (below_drew' _) hI.size hI.outer
  have hT1 := hT.ext k.w.drew (below_drew' _) hI.size hI.outer
  have hle : cells.length ≤ cs.size := by subst hcs; simp; rw [hvk.1]; omega
  have g2 := Grow.addObj hI1 (.row 0 0 tag cells) cs.size (.cells cs e (0, 0)) (by simp; intros; omega)
  have hI2 := hI1.addRow tag cells cs e (0, 0) (.inl (Nat.le_refl 0)) hle (fun j hj => by
    have h1 := hvk.2 j hj
    have hj2 : j < cells0.length := by rw [hvk.1]; exact hj
    refine ⟨cells0[j], ?_, ?_⟩
    · subst hcs; rw [Array.getElem?_append_left (by simpa using hj2)]; simp [hj2]
    · have : cells0.getD j undef = cells0[j] := by simp [List.getD_eq_getElem?_getD, hj2]
      rw [this] at h1
      exact VK.grow g1 h1)
  refine ⟨_, _, _, _, hr, .inl rfl, hI2, g1.trans g2, ⟨Nat.le_refl _, fun _ _ cells he => .inl ⟨cells, he, rfl⟩⟩, hT1.same g2 rfl rfl rfl, VR.sl _ _ _ _ _ _ _ _ (known_new _ _ (by simp; intros; omega)) hn (by simp) fun fz tag' cells' he => ?_⟩
  have hμ : (addObj { k with w := k.w.drew } (.row 0 0 tag cells) cs.size (.cells cs e (0, 0))).μ k.s.h.length = ⟨k.w.heap.size, 0, cs.size⟩ := muSet_same _ _ _
  refine ⟨fun _ => ?_, ?_⟩
  · show _ = (⟨((addObj { k with w := k.w.drew } (.row 0 0 tag cells) cs.size (.cells cs e (0, 0))).μ k.s.h.length).g, ((addObj { k with w := k.w.drew } (.row 0 0 tag cells) cs.size (.cells cs e (0, 0))).μ k.s.h.length).d + 0, none⟩ : Addr)
    rw [hμ]
  · show 0 + c * esz ≤ ((addObj { k with w := k.w.drew } (.row 0 0 tag cells) cs.size (.cells cs e (0, 0))).μ k.s.h.length).n
    rw [hμ]; simp; omega

theorem chk_append {t u : TypeId} {esz bytes : Nat} (h : (match elemOfSlice P t with
        | some e => (P.info? e).any (fun i => i.size == esz && i.bytes == bytes && (match i.zero with | some z => z.cells.size == esz | none => false)) && decide (0 < esz) &&
            (match P.underlying u with | some (.slice _) | some .string => true | _ => false)
        | none => false) = true) :
    ∃ e i z, P.underlying t = some (.slice e) ∧ P.info? e = some i ∧ i.zero = some z ∧ i.size = esz ∧ i.bytes = bytes ∧ z.cells.size = esz ∧ 0 < esz ∧ (match P.underlying u with | some (.slice _) | some .string => true | _ => false) = true := by
  split at h
  · rename_i e he
    simp only [Bool.and_eq_true, decide_eq_true_eq] at h
    obtain ⟨⟨h1, h2⟩, h3⟩ := h
    cases hi : P.info? e with
    | none => rw [hi] at h1; simp at h1
    | some i =>
      rw [hi] at h1
      simp only [Option.any_some, Bool.and_eq_true, beq_iff_eq] at h1
      obtain ⟨⟨q1, q2⟩, q3⟩ := h1
      cases hz : i.zero with
      | none => rw [hz] at q3; simp at q3
      | some z =>
        rw [hz] at q3
        simp only [beq_iff_eq] at q3
        exact ⟨e, i, z, elemOf_sound he, hi, hz, q1, q2, q3, h2, h3⟩
  · simp at h

theorem drew_cell (w : World) (g o : Nat) : w.drew.cell? ⟨g, o, none⟩ = w.cell? ⟨g, o, none⟩ := rfl

set_option maxHeartbeats 1000000 in
theorem append_sound (hI : Inv Γ k) {a : Act} (hT : TR Γ k a.tmps) {o : Oper} {tag esz bytes : Nat} {s x : AOpd} {d : Option Nat} (hc : chkOp P d o.op (.append tag esz bytes s x) = true) {v : AV} {ts : List AV} {h' : AHeap}
    (hv : memA (.append tag esz bytes s x) k.s.t k.s.h = some (v, ts, h')) : MemPost P Γ k a o v ts h' := by
  unfold chkOp at hc
  split at hc <;> try (first | contradiction | (simp at hc; done))
  rename_i args argTypes _ _ _ _ _ ho q
  cases q
  simp only [Bool.and_eq_true] at hc
  obtain ⟨hargs, hc⟩ := hc
  obtain ⟨cs, cx, rfl, hs, hx⟩ := two_args hargs
  split at hc
  · rename_i t u htu
    have hat : argTypes = #[t, u] := by apply Array.ext'; simp [htu]
    subst hat
    obtain ⟨e, i, z, ht, hi, hz, hsz, hby, hzs, hpos, hu⟩ := chk_append hc
    have fs := opd_sound hI hT hs
    have fx := opd_sound hI hT hx
    simp only [memA] at hv
    split at hv
    · simp at hv
    split at hv
    · simp at hv
    · rename_i m news hmore
      obtain ⟨hnl, hlen, cnews, hcv, hfirst⟩ := more_sound (P := P) hI fx hmore
      have hfull : cnews.take (m * esz) = cnews := List.take_of_length_le (by rw [hcv.1]; omega)
      have run : ∀ cu r w', a.eval cs = cu → (Builtin.append_ #[t, u] o.type #[cu, a.eval cx]).run P k.w = .ok r w' → (execOp a.eval o).run P k.w = .ok (.value r) w' := by
        intro cu r w' he hr
        simp only [execOp, ho, resolve, invoke, builtin, Sem.run_bind, Sem.run_pure, Result.andThen_ok, List.map_toArray, List.map_cons, List.map_nil, he, hr]
      by_cases hone : news.all oneCell = true ∧ m ≤ 9223372036854775807
      · rw [if_pos hone] at hv
        obtain ⟨hone, hm63⟩ := hone
        have hf1 : (Builtin.firstCells i.size m (a.eval cx)).run P k.w = .ok cnews.toArray k.w := by rw [hsz, hfirst m k.w (Nat.le_refl _) (fun _ _ => rfl), hfull]
        have hf2 : (Builtin.firstCells i.size m (a.eval cx)).run P k.w.drew = .ok cnews.toArray k.w.drew := by rw [hsz, hfirst m k.w.drew (Nat.le_refl _) (fun _ _ => rfl), hfull]
        split at hv
        · rename_i hb
          rw [hb] at fs
          have es := (fs.keep rfl).nils
          by_cases hfit : m * bytes ≤ 140737488355328
          · rw [if_pos hfit] at hv
            by_cases hm0 : m = 0
            · rw [if_pos hm0] at hv
              injection hv with hv; injection hv with e1 hv; injection hv with e2 e3
              subst e1; subst e2; subst e3
              subst hm0
              have hr := run_append_in (P := P) (ty := o.type) ht hu hi (base := none) (n := 0) (c := 0) (hlen k.w) hf1 (Nat.le_refl _) (w' := k.w) (fun ad h => by simp at h) (fun _ => rfl)
              exact MemPost.read hI hT (run _ _ _ es hr) (.pr _ _ .nils)
            · rw [if_neg hm0] at hv
              injection hv with hv; injection hv with e1 hv; injection hv with e2 e3
              subst e1; subst e2; subst e3
              have hr := run_append_out (P := P) (ty := o.type) ht hu hi hz (base := none) (n := 0) (c := 0) (hlen k.w) (olds := []) (by simp [Builtin.firstCells]) hf2 (by omega) (by omega) (by rw [hby]; simpa using hfit)
              simp only [Nat.zero_add, List.nil_append] at hr
              have hge := grownCap_ge k.w m 0 e
              refine new_row hI hT hcv (rest := Builtin.zeroCells z.cells (grownCap k.w m 0 e - m)) (by simp) ?_ hge (run _ _ _ es hr)
              simp only [Array.size_append, List.size_toArray, size_zeroCells, hzs, hcv.1, hnl, List.length_nil, Nat.zero_add, ← Nat.add_mul]
              congr 1; omega
          · rw [if_neg hfit] at hv; simp at hv
        · rename_i cells n cap hb
          rw [hb] at fs
          split at hv
          · simp at hv
          · rename_i c
            by_cases hfit : (n + m) * bytes ≤ 140737488355328 ∧ n + m ≤ 9223372036854775807 ∧ n * esz ≤ cells.length
            · rw [if_pos hfit] at hv
              obtain ⟨f1, f2, f3⟩ := hfit
              obtain ⟨ad, cc, es, hce⟩ := fs.ps_cap
              subst hce
              have hle : n ≤ cc := by
                have hp := (fs.keep rfl).ps
                rw [es] at hp
                cases hp with
                | ps _ _ _ _ _ _ _ q2 _ _ _ => exact q2
                | psn _ _ => exact Nat.zero_le _
              by_cases hm0 : m = 0
              · rw [if_pos hm0] at hv
                injection hv with hv; injection hv with e1 hv; injection hv with e2 e3
                subst e1; subst e2; subst e3
                subst hm0
                have hnil : cnews = [] := List.eq_nil_of_length_eq_zero (by rw [hcv.1, hnl]; simp)
                subst hnil
                have hr := run_append_in (P := P) (ty := o.type) ht hu hi (base := ad) (n := n) (c := cc) (hlen k.w) hf1 (by omega) (w' := k.w) (fun ad h => by simp [storeCells]) (fun _ => rfl)
                refine MemPost.read hI hT (run _ _ _ es hr) ?_
                rw [es] at fs
                simpa using fs.keep rfl
              · rw [if_neg hm0] at hv
                by_cases hroom : cc < n + m
                · rw [if_pos hroom] at hv
                  injection hv with hv; injection hv with e1 hv; injection hv with e2 e3
                  subst e1; subst e2; subst e3
                  have hmo : moreA esz k.s.h (.ps cells n (some cc)) = some (n, cells.take (n * esz)) := by simp [moreA, f3]
                  obtain ⟨onl, _, colds, hov, hof⟩ := more_sound (P := P) hI fs hmo
                  have hofull : colds.take (n * esz) = colds := List.take_of_length_le (by rw [hov.1]; omega)
                  have ho2 : (Builtin.firstCells i.size n (.slice ad n cc)).run P k.w.drew = .ok colds.toArray k.w.drew := by
                    rw [← es, hsz, hof n k.w.drew (Nat.le_refl _) (fun _ _ => rfl), hofull]
                  have hr := run_append_out (P := P) (ty := o.type) ht hu hi hz (base := ad) (n := n) (c := cc) (hlen k.w) ho2 hf2 hroom f2 (by rw [hby]; exact f1)
                  have hge := grownCap_ge k.w (n + m) cc e
                  refine new_row hI hT (hov.append hcv) (rest := Builtin.zeroCells z.cells (grownCap k.w (n + m) cc e - (n + m))) (by simp) ?_ hge (run _ _ _ es hr)
                  simp only [Array.size_append, List.size_toArray, List.length_append, size_zeroCells, hzs, hcv.1, hnl, hov.1, onl, ← Nat.add_mul]
                  congr 1; omega
                · rw [if_neg hroom] at hv; simp at hv
            · rw [if_neg hfit] at hv; simp at hv
        · rename_i b ver off n esz' cap hb
          rw [hb] at fs
          split at hv
          · rename_i fz tag' cells hrow
            have he := rowAt_some.1 hrow
            by_cases hfit : (n + m) * bytes ≤ 140737488355328 ∧ n + m ≤ 9223372036854775807 ∧ esz' = esz ∧ tag' = tag ∧ off + n * esz ≤ cells.length ∧ fz ≤ off + n * esz
            · rw [if_pos hfit] at hv
              obtain ⟨f1, f2, f3, f4, f5, f6⟩ := hfit
              subst f3; subst f4
              obtain ⟨ad, cc, es, hk, hle, hcap, ha⟩ := (fs.keep rfl).sl
              obtain ⟨z1, z2⟩ := ha _ _ _ he
              have hr0 := hI.rows b ver _ _ cells he
              by_cases hm0 : m = 0
              · rw [if_pos hm0] at hv
                injection hv with hv; injection hv with e1 hv; injection hv with e2 e3
                subst e1; subst e2; subst e3
                subst hm0
                have hnil : cnews = [] := List.eq_nil_of_length_eq_zero (by rw [hcv.1, hnl]; simp)
                subst hnil
                have hr := run_append_in (P := P) (ty := o.type) ht hu hi (base := some ad) (n := n) (c := cc) (hlen k.w) hf1 (by omega) (w' := k.w) (fun ad h => by simp [storeCells]) (fun _ => rfl)
                refine MemPost.read hI hT (run _ _ _ es hr) ?_
                rw [es] at fs
                simpa using fs.keep rfl
              · rw [if_neg hm0] at hv
                injection hv with hv; injection hv with e1 hv; injection hv with e2 e3
                subst e1; subst e2; subst e3
                have hmo : moreA esz' k.s.h (.sl b ver off n esz' cap) = some (n, (cells.drop off).take (n * esz')) := by simp [moreA, hrow, f5]
                obtain ⟨onl, _, colds, hov, hof⟩ := more_sound (P := P) hI fs hmo
                have hofull : colds.take (n * esz') = colds := List.take_of_length_le (by rw [hov.1]; omega)
                have hall := hov.append hcv
                have hlen' : ((cells.drop off).take (n * esz') ++ news).length = (n + m) * esz' := by rw [List.length_append, onl, hnl, Nat.add_mul]
                have hval : ∀ (k2 : Kf) (ad' : Addr) (c' : Nat), b < k2.s.h.length → n + m ≤ c' → (∀ fz tag cells, k2.s.h.getD b .dead = .row (ver + 1) fz tag cells → ad' = ⟨(k2.μ b).g, (k2.μ b).d, none⟩ ∧ c' * esz' ≤ (k2.μ b).n) → (∀ v fz tag cells, k2.s.h.getD b .dead = .row v fz tag cells → ver + 1 ≤ v) → VK Γ k2 (.sl b (ver + 1) 0 (n + m) esz' none) (.slice (some ad') (n + m) c') := by
                  intro k2 ad' c' hb2 hn2 hp hv2
                  refine VR.sl _ _ _ _ _ _ _ _ ⟨hb2, hv2⟩ hn2 (by simp) fun fz tag cells hx => ?_
                  obtain ⟨p1, p2⟩ := hp fz tag cells hx
                  exact ⟨fun _ => by rw [p1]; simp, by omega⟩
                by_cases hroom : n + m ≤ cc
                · have hcc : cc ≠ 0 := by omega
                  have had := z1 hcc
                  subst had
                  have hroom' : n * esz' + m * esz' ≤ cc * esz' := by rw [← Nat.add_mul]; exact Nat.mul_le_mul_right _ hroom
                  have hcn : cnews.length = m * esz' := by rw [hcv.1, hnl]
                  have hcell : ∀ j, j < cnews.length → ∃ x, k.w.cell? ⟨(k.μ b).g, (k.μ b).d + off + n * esz' + j, none⟩ = some x := by
                    intro j hj
                    obtain ⟨ca, ee, fr, q1, q2⟩ := hr0.block
                    refine ⟨ca[(k.μ b).d + off + n * esz' + j]'(by omega), ?_⟩
                    simp only [World.cell?, q1]
                    simp
                  have hst := run_storeCells P ⟨(k.μ b).g, (k.μ b).d + off + n * esz', none⟩ rfl cnews k.w 0 (allOne hcv hone) (fun j hj => by simpa using hcell j hj) (fun j hj => by
                    have := hr0.free (off + n * esz' + j) (by omega)
                    simpa [Nat.add_assoc] using this)
                  simp only [Nat.add_zero] at hst
                  have hr := run_append_in (P := P) (ty := o.type) ht hu hi (base := some ⟨(k.μ b).g, (k.μ b).d + off, none⟩) (n := n) (c := cc) (hlen k.w) hf1 hroom (w' := setCells k.w (k.μ b).g ((k.μ b).d + off + n * esz') cnews)
                    (fun ad h => by injection h with h; subst h; rw [add_none _ _ rfl, hsz]; exact hst) (fun h => by simp at h)
                  have hsc := setCells_cell cnews k.w (k.μ b).g ((k.μ b).d + off + n * esz')
                  obtain ⟨bI, bG⟩ := hI.bump he (fz - off) ((cells.drop off).take (n * esz') ++ news) ⟨(k.μ b).g, (k.μ b).d + off, (k.μ b).n - off⟩ (setCells k.w (k.μ b).g ((k.μ b).d + off + n * esz') cnews)
                    (setCells_os _ _ _ _) (Nat.le_of_eq (setCells_size _ _ _ _).symm) (fun y _ hy => setCells_heap _ _ _ _ _ hy)
                    (fun j hj => by rw [hsc _ _ hcell, if_neg (by omega)])
                    (.inl ⟨rfl, fun j hj => by show j < (k.μ b).d + off + (fz - off); omega⟩) (by rw [hlen', Nat.add_mul]; show _ ≤ (k.μ b).n - off; omega)
                    (by
                      obtain ⟨ca, ee, fr, q1, q2⟩ := hr0.block
                      obtain ⟨ca', q3, q4⟩ := setCells_block cnews k.w (k.μ b).g ((k.μ b).d + off + n * esz') ca ee fr q1
                      exact ⟨ca', ee, fr, q3, by show (k.μ b).d + off + ((k.μ b).n - off) ≤ _; omega⟩)
                    (fun j hj => by
                      rw [setCells_frozen]
                      have : j < (k.μ b).n - off := hj
                      have := hr0.free (off + j) (by omega)
                      simpa [Nat.add_assoc] using this)
                    (fun j hj => by
                      rw [hsc _ _ hcell]
                      rw [hlen', Nat.add_mul] at hj
                      by_cases hj2 : n * esz' ≤ j
                      · rw [if_pos ⟨rfl, by show _ ≤ (k.μ b).d + off + j; omega, by show (k.μ b).d + off + j < _; omega⟩]
                        have hj3 : j - n * esz' < news.length := by omega
                        have h3 := hcv.2 _ hj3
                        refine ⟨cnews.getD (j - n * esz') undef, ?_, ?_⟩
                        · show cnews[(k.μ b).d + off + j - ((k.μ b).d + off + n * esz')]? = _
                          rw [show (k.μ b).d + off + j - ((k.μ b).d + off + n * esz') = j - n * esz' from by omega, List.getD_eq_getElem?_getD, List.getElem?_eq_getElem (by omega)]; rfl
                        · rw [List.getD_eq_getElem?_getD, List.getElem?_append_right (by rw [onl]; exact hj2), onl]
                          rw [List.getD_eq_getElem?_getD] at h3; exact h3
                      · rw [if_neg (by show ¬ (_ ∧ _ ≤ (k.μ b).d + off + j ∧ _); omega)]
                        obtain ⟨cv, q1, q2⟩ := hr0.cell (off + j) (by omega)
                        refine ⟨cv, by rw [← q1]; show k.w.cell? ⟨_, (k.μ b).d + off + j, none⟩ = _; rw [Nat.add_assoc], ?_⟩
                        rw [List.getD_eq_getElem?_getD, List.getElem?_append_left (by omega), ← List.getD_eq_getElem?_getD, getD_take' _ _ _ _ (by omega), getD_drop']
                        exact q2)
                  have hTb := hT.same bG rfl rfl rfl
                  refine ⟨_, _, _, _, run _ _ _ es hr, .inl rfl, bI, bG, ⟨Nat.le_refl _, fun _ _ cells he => .inl ⟨cells, he, rfl⟩⟩, hTb, hval _ _ _ (by simpa [memK] using row_lt he) hroom (fun fz2 tag2 cells2 hx => ?_) (fun v2 fz2 tag2 cells2 hx => ?_)⟩
                  · show _ = (⟨(muSet k.μ b ⟨(k.μ b).g, (k.μ b).d + off, (k.μ b).n - off⟩ b).g, (muSet k.μ b ⟨(k.μ b).g, (k.μ b).d + off, (k.μ b).n - off⟩ b).d, none⟩ : Addr) ∧ _ ≤ (muSet k.μ b ⟨(k.μ b).g, (k.μ b).d + off, (k.μ b).n - off⟩ b).n
                    rw [muSet_same]
                    exact ⟨rfl, by show cc * esz' ≤ (k.μ b).n - off; omega⟩
                  · have hx' : (k.s.h.set b (.row (ver + 1) (fz - off) tag' ((cells.drop off).take (n * esz') ++ news))).getD b .dead = .row v2 fz2 tag2 cells2 := hx
                    rw [getD_set', if_pos ⟨rfl, row_lt he⟩] at hx'
                    injection hx' with hx'; omega
                · have hge := grownCap_ge k.w (n + m) cc e
                  have ho2 : (Builtin.firstCells i.size n (.slice (some ad) n cc)).run P k.w.drew = .ok colds.toArray k.w.drew := by
                    rw [← es, hsz, hof n k.w.drew (Nat.le_refl _) (fun _ _ => rfl), hofull]
                  have hr := run_append_out (P := P) (ty := o.type) ht hu hi hz (base := some ad) (n := n) (c := cc) (hlen k.w) ho2 hf2 (by omega) f2 (by rw [hby]; exact f1)
                  generalize hcs0 : colds.toArray ++ cnews.toArray ++ Builtin.zeroCells z.cells (grownCap k.w (n + m) cc e - (n + m)) = ncs at hr
                  have hcs : (colds ++ cnews).toArray ++ Builtin.zeroCells z.cells (grownCap k.w (n + m) cc e - (n + m)) = ncs := by rw [← hcs0]; simp
                  have hcl : (colds ++ cnews).length = (n + m) * esz' := by rw [hall.1, hlen']
                  have hnsz : ncs.size = grownCap k.w (n + m) cc e * esz' := by
                    rw [← hcs, Array.size_append, List.size_toArray, hcl, size_zeroCells, hzs, ← Nat.add_mul]; congr 1; omega
                  have hbo := (below_drew' k.w).trans (below_alloc' k.w.drew (.cells ncs e (0, 0)))
                  obtain ⟨bI, bG⟩ := hI.bump he (fz - off) ((cells.drop off).take (n * esz') ++ news) ⟨k.w.heap.size, 0, ncs.size⟩ (k.w.drew.alloc (.cells ncs e (0, 0)))
                    ⟨hbo.os, hbo.tape, hbo.output⟩ hbo.size (fun y hy _ => hbo.block y hy) (fun j _ => cell?_of_heap (a := ⟨(k.μ b).g, j, none⟩) (hbo.block _ hr0.lt))
                    (.inr ⟨rfl, hbo.block _ hr0.lt⟩) (by rw [hlen']; show _ ≤ ncs.size; rw [hnsz]; exact Nat.mul_le_mul_right _ hge)
                    ⟨ncs, e, (0, 0), heap_alloc_new k.w.drew _, by simp⟩ (fun j _ => frozen?_alloc_new k.w.drew _ _ _)
                    (fun j hj => by
                      rw [hlen'] at hj
                      have hj2 : j < (colds ++ cnews).length := by omega
                      refine ⟨(colds ++ cnews).getD j undef, ?_, hall.2 j (by omega)⟩
                      show World.cell? (k.w.drew.alloc _) ⟨k.w.drew.heap.size, 0 + j, none⟩ = _
                      rw [Nat.zero_add, cell?_alloc_new, ← hcs, Array.getElem?_append_left (by simpa using hj2), List.getD_eq_getElem?_getD]
                      simp only [List.getElem?_toArray, List.getElem?_eq_getElem hj2]; rfl)
                  have hTb := hT.same bG rfl rfl rfl
                  refine ⟨_, _, _, _, run _ _ _ es hr, .inl rfl, bI, bG, ⟨Nat.le_refl _, fun _ _ cells he => .inl ⟨cells, he, rfl⟩⟩, hTb, hval _ _ _ (by simpa [memK] using row_lt he) hge (fun fz2 tag2 cells2 hx => ?_) (fun v2 fz2 tag2 cells2 hx => ?_)⟩
                  · show _ = (⟨(muSet k.μ b ⟨k.w.heap.size, 0, ncs.size⟩ b).g, (muSet k.μ b ⟨k.w.heap.size, 0, ncs.size⟩ b).d, none⟩ : Addr) ∧ _ ≤ (muSet k.μ b ⟨k.w.heap.size, 0, ncs.size⟩ b).n
                    rw [muSet_same]
                    exact ⟨rfl, by show _ ≤ ncs.size; rw [hnsz]; exact Nat.le_refl _⟩
                  · have hx' : (k.s.h.set b (.row (ver + 1) (fz - off) tag' ((cells.drop off).take (n * esz') ++ news))).getD b .dead = .row v2 fz2 tag2 cells2 := hx
                    rw [getD_set', if_pos ⟨rfl, row_lt he⟩] at hx'
                    injection hx' with hx'; omega
            · rw [if_neg hfit] at hv; simp at hv
          · simp at hv
        · simp at hv
      · rw [if_neg hone] at hv; simp at hv
  · simp at hc
end
end Go.Abs

/- The abstract machine: the other operations that read or write. -/
namespace Go.Abs
open Go.RowKit

section
variable {Γ : Gh} {k k' : Kf} {P : Program}

theorem new_ptr (hI : Inv Γ k) {a : Act} (hT : TR Γ k a.tmps) {o : Oper} {tag : Nat} {cells : List AV} {cs : Array Value} {e : TypeId} (hvk : VKs Γ k cells cs.toList)
    (hr : (execOp a.eval o).run P k.w = .ok (.value (.pointer (some ⟨k.w.heap.size, 0, none⟩))) (k.w.alloc (.cells cs e (0, 0)))) : MemPost P Γ k a o (.ptr k.s.h.length 0 0) k.s.t (k.s.h ++ [.row 0 0 tag cells]) := by
  refine MemPost.row hI hT hvk hr (VR.ptr _ _ _ _ (known_new _ _ (by simp; intros; omega)) fun fz tag' cells' he => ?_)
  rw [new_place]

theorem patch_eq (cells vs : List AV) (off n : Nat) (h : vs.length = n) : cells.take off ++ vs ++ cells.drop (off + n) = patch cells off vs := by subst h; rfl

theorem bytesIn_sound {l : List AV} {cvs : List Value} (hv : VKs Γ k l cvs) : ∀ {s : List UInt8}, bytesIn l = some s → ∃ ns : List Int, cvs = ns.map (Value.int .u8) ∧ s = ns.map fun n => UInt8.ofNat n.toNat := by
  induction l generalizing cvs with
  | nil => intro s h; simp [bytesIn] at h; subst h; have := hv.of_nil; exact ⟨[], by simp [this], rfl⟩
  | cons v l ih =>
    intro s h
    obtain ⟨c, cs, rfl, h1, h2⟩ := hv.of_cons
    unfold bytesIn at h
    split at h
    · rename_i q; cases q
    · rename_i n r q
      injection q with q1 q2
      subst q1; subst q2
      simp only [Option.map_eq_some_iff] at h
      obtain ⟨s', hs', rfl⟩ := h
      obtain rfl := h1.int
      obtain ⟨ns, e1, e2⟩ := ih h2 hs'
      exact ⟨n :: ns, by simp [e1], by simp [e2]⟩
    · simp at h

theorem foldl_push (ns : List Int) : ∀ (b : List UInt8), ns.foldl (fun (r : ByteArray) n => r.push (UInt8.ofNat n.toNat)) ⟨b.toArray⟩ = ⟨(b ++ ns.map fun n => UInt8.ofNat n.toNat).toArray⟩ := by
  induction ns with
  | nil => intro b; simp
  | cons n ns ih =>
    intro b
    simp only [List.foldl_cons]
    have : (⟨b.toArray⟩ : ByteArray).push (UInt8.ofNat n.toNat) = ⟨(b ++ [UInt8.ofNat n.toNat]).toArray⟩ := by
      apply ByteArray.ext; simp [ByteArray.push]
    rw [this, ih]
    simp

theorem slice_bytes (hI : Inv Γ k) {a : Act} (hT : TR Γ k a.tmps) {o : Oper} {src dst e : TypeId} {u : Operand} (ho : o.op = .convert src dst u) (hs : P.underlying src = some (.slice e)) (he : P.underlying e = some (.int .u8)) (hd : P.underlying dst = some .string)
    {ad : Addr} {len c : Nat} {cells : List AV} (hsp : cells ≠ [] → ad.spot = none) (hh : Holds Γ k ad cells) (hl : cells.length = len) (hu : a.eval u = .slice (some ad) len c) {s : List UInt8} (hb : bytesIn cells = some s) : MemPost P Γ k a o (.str s) k.s.t k.s.h := by
  obtain ⟨cvs, hvk, hc⟩ := hh.list
  obtain ⟨ns, e1, e2⟩ := bytesIn_sound hvk hb
  have hrun := run_loadAt (P := P) k.w ad cvs (fun j v hj => ⟨hsp (fun e0 => by subst e0; have := hvk.of_nil; subst this; simp at hj), hc j v hj⟩)
  rw [hvk.1, hl] at hrun
  rw [e1] at hrun
  have h2 := run_bytesToString (P := P) k.w ad len c ns hrun
  have h3 := foldl_push ns []
  have : (ByteArray.empty : ByteArray) = ⟨([] : List UInt8).toArray⟩ := rfl
  rw [this, h3] at h2
  simp only [List.nil_append, ← e2] at h2
  refine MemPost.read hI hT ?_ (.mkStr s)
  simp only [execOp, ho, hu, Sem.run_bind, run_convert_bytes_string (P := P) k.w src dst e (some ad) len c hs he hd, h2, Result.andThen_ok, Sem.run_pure]

theorem Holds.take {ad : Addr} {cells : List AV} (h : Holds Γ k ad cells) (n : Nat) : Holds Γ k ad (cells.take n) := fun j hj => by
  simp at hj
  obtain ⟨cv, q1, q2⟩ := h j (by omega)
  exact ⟨cv, q1, by rw [getD_take' _ _ _ _ (by omega)]; exact q2⟩

theorem FV.rp_at {p st off : Nat} {cv : Value} (h : FV Γ k (.rp p st off) cv) : ∃ ad, cv = .pointer (some ad) ∧ ∀ cells, tget k.s.t p = .reg st cells → ad = ⟨k.ρ p, off, none⟩ := by
  cases h with
  | vr _ _ h => exact h.not_rp.elim
  | rp _ _ _ ad _ _ h3 => exact ⟨ad, rfl, h3⟩

set_option maxHeartbeats 1000000 in
theorem mem_sound1 (hI : Inv Γ k) {a : Act} (hT : TR Γ k a.tmps) {o : Oper} {ao : AOp} {d : Option Nat} (hc : chkOp P d o.op ao = true) {v : AV} {ts : List AV} {h' : AHeap} (hv : memA ao k.s.t k.s.h = some (v, ts, h'))
    (hk : (match ao with | .lookup .. | .mapSet .. | .lenM _ | .mkmap | .copy .. | .append .. => false | _ => true) = true) : MemPost P Γ k a o v ts h' := by
  have opd : ∀ {x : AOpd} {y : Operand}, chkOpd x y = true → FV Γ k (aev k.s.t x) (a.eval y) := fun h => opd_sound hI hT h
  cases ao with
  | alloc reg tag zero =>
    cases reg with
    | true => simp [memA] at hv
    | false =>
      simp only [memA] at hv
      injection hv with hv; injection hv with e1 hv; injection hv with e2 e3
      subst e1; subst e2; subst e3
      unfold chkOp at hc
      split at hc <;> try (first | contradiction | (simp at hc; done))
      rename_i t _ _ _ ho q
      cases q
      simp only [Bool.and_eq_true] at hc
      obtain ⟨i, z, hi, hz, hvk⟩ := zero_sound (Γ := Γ) (k := k) hc.1
      refine new_ptr (e := t) hI hT hvk ?_
      simp [execOp, ho, Instr.alloc, run_zeroValue hi hz, newVar, newRow]
  | box reg tag x =>
    cases reg with
    | true => simp [memA] at hv
    | false =>
      simp only [memA] at hv
      split at hv
      · rename_i hkp
        injection hv with hv; injection hv with e1 hv; injection hv with e2 e3
        subst e1; subst e2; subst e3
        unfold chkOp at hc
        split at hc <;> try (first | contradiction | (simp at hc; done))
        rename_i t y _ _ _ ho q
        cases q
        simp only [Bool.and_eq_true] at hc
        refine new_ptr (e := t) hI hT ((opd hc.1).keep hkp).cells ?_
        simp [execOp, ho, Instr.box, newVar, newRow]
      · simp at hv
  | bslice rw tag esz len zero parts =>
    cases rw with
    | false => simp [memA] at hv
    | true =>
      simp only [memA] at hv
      split at hv
      · rename_i hkeep
        simp only [Option.map_eq_some_iff] at hv
        obtain ⟨cs, hf, hv⟩ := hv
        injection hv with e1 hv; injection hv with e2 e3
        subst e1; subst e2; subst e3
        unfold chkOp at hc
        split at hc <;> try (first | contradiction | (simp at hc; done))
        rename_i t n ps _ _ _ _ _ _ ho q
        cases q
        simp only [Bool.and_eq_true, beq_iff_eq] at hc
        obtain ⟨e0, hc2⟩ := hc
        subst e0
        cases hu0 : elemOfSlice P t with
        | none => rw [hu0] at hc2; simp at hc2
        | some e =>
          rw [hu0] at hc2
          have hu := elemOf_sound hu0
          simp only [Bool.and_eq_true, beq_iff_eq, decide_eq_true_eq] at hc2
          obtain ⟨⟨⟨⟨⟨⟨hz, hzero⟩, hzl⟩, hpos⟩, h24⟩, h63⟩, hp⟩ := hc2
          obtain ⟨i, z, hi, hzz, hvk⟩ := zero_sound (Γ := Γ) (k := k) hzero
          have hzs : z.cells.size = esz := by have := hvk.1; simp at this; omega
          have hcells : VKs Γ k (reps n zero) ((Array.range (n * esz)).map (fun i => z.cells[i % z.cells.size]!)).toList := by
            have := range_rep n z.cells (by omega)
            rw [hzs] at this ⊢
            rw [this]; exact reps_VKs hvk n
          obtain ⟨cs', h1, h2, h3⟩ := parts_sound hI hT (fun i => some (i * esz, esz)) parts ps.toList hp hkeep (reps n zero) cs _ hf hcells
          have hcs : cs'.size = n * esz := by
            have := h2.1; simp at this; rw [this, h3, reps_length, ← hzl]
          have hval : VK Γ (addObj k (.row 0 0 tag cs) cs'.size (.cells cs' e (0, 0))) (.sl k.s.h.length 0 0 n esz (some n)) (.slice (some ⟨k.w.heap.size, 0, none⟩) n n) := by
            refine VR.sl _ _ _ _ _ _ _ _ (known_new _ _ (by simp; intros; omega)) (Nat.le_refl _) (fun x hx => by injection hx) fun fz tag' cells' he => ?_
            rw [new_place]
            exact ⟨fun _ => rfl, by show 0 + n * esz ≤ cs'.size; omega⟩
          refine MemPost.row hI hT (e := e) h2 ?_ hval
          have hm : (List.map (fun x : Nat × Operand => match x with | (i, x) => (i, a.eval x)) ps.toList) = ps.toList.map fun x => (x.1, a.eval x.2) := by
            apply List.map_congr_left; intro x _; cases x; rfl
          have h24' : ¬ n * esz > 2 ^ 24 := by simpa using h24
          by_cases hn0 : n * esz = 0
          · have he0 : (Array.range (n * esz)).map (fun i => z.cells[i % z.cells.size]!) = (Array.range (n * esz)).map (fun i => (#[] : Array Value)[i % (#[] : Array Value).size]!) := by rw [hn0]; simp
            rw [he0] at h1
            simp only [execOp, ho, Sem.run_bind, Instr.buildSlice, run_underlying hu, Result.andThen_ok, run_sizeOf hz]
            rw [if_neg h24', if_pos hn0]
            simp only [Sem.run_bind, Sem.run_pure, Result.andThen_ok, Array.toList_map]
            rw [hm, h1]
            simp [newRow]
          · simp only [execOp, ho, Sem.run_bind, Instr.buildSlice, run_underlying hu, Result.andThen_ok, run_sizeOf hz]
            rw [if_neg h24', if_neg hn0]
            simp only [Sem.run_bind, Sem.run_pure, Result.andThen_ok, Array.toList_map, run_zeroValue hi hzz]
            rw [hm, h1]
            simp [newRow]
      · simp at hv
  | load tg isA n x =>
    unfold chkOp at hc
    split at hc <;> try (first | contradiction | (simp at hc; done))
    rename_i t u _ _ _ _ ho q
    cases q
    simp only [Bool.and_eq_true, beq_iff_eq, Bool.or_eq_true] at hc
    obtain ⟨⟨⟨h1, h2⟩, h3⟩, h4⟩ := hc
    simp only [memA, Option.map_eq_some_iff] at hv
    obtain ⟨r, hr, hv⟩ := hv
    injection hv with e1 hv; injection hv with e2 e3
    subst e1; subst e2; subst e3
    obtain ⟨ad, cv, q1, q2, q3⟩ := run_loadOf (P := P) hI h1 h2 h4 (opd h3) hr
    exact MemPost.read hI hT (by simp [execOp, ho, Instr.loadAt, q1, Instr.sureAddr, q2]) q3
  | store tg n x y =>
    unfold chkOp at hc
    split at hc <;> try (first | contradiction | (simp at hc; done))
    rename_i t u w0 _ _ _ _ ho q
    cases q
    simp only [Bool.and_eq_true, beq_iff_eq] at hc
    obtain ⟨⟨h1, h2⟩, h3⟩ := hc
    have bx := opd h2
    have by' := opd h3
    simp only [memA] at hv
    split at hv
    · rename_i hcond
      simp only [List.all_eq_true, Bool.and_eq_true] at hcond
      obtain ⟨hlen, hall⟩ := hcond
      have hone : (cellsOf (aev k.s.t y)).all oneCell = true := List.all_eq_true.2 fun z hz => (hall z hz).1
      have hky : keeps (aev k.s.t y) = true := by
        cases hy : aev k.s.t y <;> first | rfl | skip
        all_goals
          rw [hy] at hall
          have := (hall _ (by simp [cellsOf]; rfl)).2
          simp [keeps] at this
      have vy := (by'.keep hky).cells
      have hcs : (a.eval w0).cells.size = n := by have := vy.1; simp at this; omega
      have run : ∀ (ad : Addr) w', a.eval u = .pointer (some ad) → (storeVar t ad (a.eval w0)).run P k.w = .ok () w' → (execOp a.eval o).run P k.w = .ok .skip w' := by
        intro ad w' hu hs
        simp [execOp, ho, Instr.storeAt, hu, Instr.sureAddr, hs]
      split at hv
      · rename_i p st off hb
        rw [hb] at bx
        split at hv
        · rename_i st' cells he
          by_cases hcc : st = st' ∧ tgReg tg p = true ∧ off + n ≤ cells.length
          · rw [if_pos hcc] at hv
            obtain ⟨rfl, _, hb2⟩ := hcc
            injection hv with hv; injection hv with e1 hv; injection hv with e2 e3
            subst e1; subst e2; subst e3
            have hr := hI.regs p st cells he
            obtain ⟨ad, hu, g3⟩ := bx.rp_at
            have := g3 cells he
            subst this
            obtain ⟨sI, sG, sR⟩ := hI.setReg he off (cellsOf (aev k.s.t y)) (a.eval w0).cells.toList (by omega) vy.1 vy.2
            rw [patch_eq _ _ _ _ hlen]
            have hs := run_storeVar (P := P) h1 (ad := ⟨k.ρ p, off, none⟩) rfl hcs (allOne vy hone) (w := k.w) (fun j hj => by
              obtain ⟨cv, q1, _⟩ := hr.cell (off + j) (by omega)
              exact ⟨cv, q1⟩) (fun j hj => hr.free (off + j) (by omega))
            exact ⟨_, undef, _, k.μ, run _ _ hu hs, .inr ⟨rfl, rfl⟩, sI, sG, sR, hT.setReg he sG sR, .pr _ _ (.tuple [] [] rfl (fun j hj => by simp at hj))⟩
          · rw [if_neg hcc] at hv; simp at hv
        · simp at hv
      · rename_i b ver off hb
        rw [hb] at bx
        obtain ⟨ad, hu, hk2, had⟩ := (bx.keep rfl).ptr
        split at hv
        · rename_i fz tag cells hrow
          have he := rowAt_some.1 hrow
          by_cases hcc : tgOk tg tag = true ∧ off + n ≤ cells.length ∧ fz ≤ off
          · rw [if_pos hcc] at hv
            obtain ⟨_, hb2, hfz⟩ := hcc
            injection hv with hv; injection hv with e1 hv; injection hv with e2 e3
            subst e1; subst e2; subst e3
            have := had _ _ _ he
            subst this
            have hr := hI.rows b ver _ _ cells he
            obtain ⟨sI, sG⟩ := hI.setRow he off (cellsOf (aev k.s.t y)) (a.eval w0).cells.toList hfz (by omega) vy.1 vy.2
            rw [patch_eq _ _ _ _ hlen]
            have hs := run_storeVar (P := P) h1 (ad := ⟨(k.μ b).g, (k.μ b).d + off, none⟩) rfl hcs (allOne vy hone) (w := k.w) (fun j hj => by
              obtain ⟨cv, q1, _⟩ := hr.cell (off + j) (by omega)
              exact ⟨cv, by simpa [Nat.add_assoc] using q1⟩) (fun j hj => by
              have := hr.free (off + j) (by have := hr.len; omega)
              simpa [Nat.add_assoc] using this)
            exact ⟨_, undef, _, k.μ, run _ _ hu hs, .inr ⟨rfl, rfl⟩, sI, sG, ⟨Nat.le_refl _, fun _ _ cells he => .inl ⟨cells, he, rfl⟩⟩, hT.same sG rfl rfl rfl, .pr _ _ (.tuple [] [] rfl (fun j hj => by simp at hj))⟩
          · rw [if_neg hcc] at hv; simp at hv
        · simp at hv
      · simp at hv
    · simp at hv
  | strOf x =>
    unfold chkOp at hc
    split at hc <;> try (first | contradiction | (simp at hc; done))
    rename_i src dst u _ ho q
    cases q
    simp only [Bool.and_eq_true] at hc
    obtain ⟨h1, h2⟩ := hc
    have b := opd h1
    split at h2
    · rename_i e e1 e2
      split at h2
      · rename_i e3
        simp only [memA] at hv
        split at hv
        · rename_i hb
          rw [hb] at b
          injection hv with hv; injection hv with q1 hv; injection hv with q2 q3
          subst q1; subst q2; subst q3
          have hu := (b.keep rfl).nils
          refine MemPost.read hI hT (cv := .string ByteArray.empty) ?_ (by exact VK.mkStr (Γ := Γ) (k := k) [])
          simp only [execOp, ho, hu, Sem.run_bind, run_convert_bytes_string (P := P) k.w src dst e none 0 0 e1 e3 e2, Result.andThen_ok, Sem.run_pure]
          simp [Conv.bytesToString]
        · rename_i cells len cap hb
          rw [hb] at b
          by_cases hl : cells.length = len
          · rw [if_pos hl] at hv
            simp only [Option.map_eq_some_iff] at hv
            obtain ⟨s, hs, hv⟩ := hv
            injection hv with q1 hv; injection hv with q2 q3
            subst q1; subst q2; subst q3
            have hp := (b.keep rfl).ps
            generalize hcu : a.eval u = cu at hp
            cases hp with
            | ps _ _ _ ad c cvs s1 s2 s3 s4 s5 => exact slice_bytes hI hT ho e1 e3 e2 s1 (fun j hj => ⟨_, (s4 j hj).2, .pr _ _ (s5 j hj)⟩) hl hcu hs
            | psn _ _ =>
              simp [bytesIn] at hs
              subst hs
              refine MemPost.read hI hT (cv := .string ByteArray.empty) ?_ (by exact VK.mkStr (Γ := Γ) (k := k) [])
              simp only [execOp, ho, hcu, Sem.run_bind, run_convert_bytes_string (P := P) k.w src dst e none 0 0 e1 e3 e2, Result.andThen_ok, Sem.run_pure]
              simp [Conv.bytesToString]
          · rw [if_neg hl] at hv; simp at hv
        · rename_i bb ver off len cap hb
          rw [hb] at b
          split at hv
          · rename_i fz tag cells hrow
            have he := rowAt_some.1 hrow
            by_cases hl : off + len ≤ cells.length
            · rw [if_pos hl] at hv
              simp only [Option.map_eq_some_iff] at hv
              obtain ⟨s, hs, hv⟩ := hv
              injection hv with q1 hv; injection hv with q2 q3
              subst q1; subst q2; subst q3
              obtain ⟨ad, c, hu, hk2, hle, _, ha⟩ := (b.keep rfl).sl
              obtain ⟨z1, z2⟩ := ha _ _ _ he
              have hr := hI.rows bb ver _ _ cells he
              have hh : Holds Γ k ⟨(k.μ bb).g, (k.μ bb).d, none⟩ cells := fun j hj => hr.cell j hj
              have hh2 := (hh.drop off).take len
              by_cases hc0 : c = 0
              · have hl0 : len = 0 := by omega
                subst hl0
                exact slice_bytes hI hT ho e1 e3 e2 (ad := ad) (cells := []) (fun h => absurd rfl h) (fun j hj => by simp at hj) rfl hu (by simpa using hs)
              · have := z1 hc0
                subst this
                exact slice_bytes hI hT ho e1 e3 e2 (fun _ => rfl) hh2 (by simp; omega) hu hs
            · rw [if_neg hl] at hv; simp at hv
          · simp at hv
        · simp at hv
      · simp at h2
    · simp at h2
  | mkslice tag esz bytes zero len cap =>
    unfold chkOp at hc
    split at hc <;> try (first | contradiction | (simp at hc; done))
    rename_i t u1 u2 _ _ _ _ _ _ ho q
    cases q
    simp only [Bool.and_eq_true] at hc
    obtain ⟨⟨h1, h2⟩, h3⟩ := hc
    have b1 := opd h1
    have b2 := opd h2
    cases hu0 : elemOfSlice P t with
    | none => rw [hu0] at h3; simp at h3
    | some e =>
      rw [hu0] at h3
      have hu := elemOf_sound hu0
      simp only [Bool.and_eq_true, beq_iff_eq, decide_eq_true_eq] at h3
      obtain ⟨⟨⟨hi0, hzero⟩, hzl⟩, hpos⟩ := h3
      obtain ⟨i, z, hi, hzz, hvk⟩ := zero_sound (Γ := Γ) (k := k) hzero
      rw [hi] at hi0
      simp only [Option.any_some, Bool.and_eq_true, beq_iff_eq] at hi0
      obtain ⟨hsz, hby⟩ := hi0
      have hzs : z.cells.size = esz := by have := hvk.1; simp at this; omega
      simp only [memA] at hv
      split at hv
      · rename_i l c hl hc
        rw [hl] at b1
        rw [hc] at b2
        by_cases hcc : 0 ≤ l ∧ l ≤ c ∧ c * (bytes : Int) ≤ 140737488355328 ∧ c ≤ 9223372036854775807
        · rw [if_pos hcc] at hv
          obtain ⟨c1, c2, c3, c4⟩ := hcc
          injection hv with hv; injection hv with q1 hv; injection hv with q2 q3
          subst q1; subst q2; subst q3
          have hcells : VKs Γ k (reps c.toNat zero) ((Array.range (c.toNat * esz)).map (fun i => z.cells[i % z.cells.size]!)).toList := by
            have := range_rep c.toNat z.cells (by omega)
            rw [hzs] at this ⊢
            rw [this]; exact reps_VKs hvk c.toNat
          generalize hcs : (Array.range (c.toNat * esz)).map (fun i => z.cells[i % z.cells.size]!) = cs at hcells
          have hcsz : cs.size = c.toNat * esz := by rw [← hcs]; simp
          have hval : VK Γ (addObj k (.row 0 0 tag (reps c.toNat zero)) cs.size (.cells cs e (0, 0))) (.sl k.s.h.length 0 0 l.toNat esz (some c.toNat)) (.slice (some ⟨k.w.heap.size, 0, none⟩) l.toNat c.toNat) := by
            refine VR.sl _ _ _ _ _ _ _ _ (known_new _ _ (by simp; intros; omega)) (by omega) (fun x hx => by injection hx) fun fz tag' cells' he => ?_
            rw [new_place]
            exact ⟨fun _ => rfl, by show 0 + c.toNat * esz ≤ cs.size; omega⟩
          refine MemPost.row hI hT (e := e) hcells ?_ hval
          have w1 : IntKind.i64.wrap l = l := by simp [IntKind.wrap, IntKind.signed, IntKind.bits]; omega
          have w2 : IntKind.i64.wrap c = c := by simp [IntKind.wrap, IntKind.signed, IntKind.bits]; omega
          have t1 : (decide (c < 0) || decide ((bytes : Int) * c > 2 ^ 48)) = false := by
            simp only [Bool.or_eq_false_iff, decide_eq_false_iff_not]
            refine ⟨by omega, ?_⟩
            rw [Int.mul_comm]; omega
          have t2 : ¬ (c < 0) := by omega
          have t3 : ¬ (2 ^ 48 < (bytes : Int) * c) := by rw [Int.mul_comm]; omega
          have t4 : ¬ (l < 0) := by omega
          have t5 : ¬ (c < l) := by omega
          have hb1 := b1.int
          have hb2 := b2.int
          have t3' : ¬ (281474976710656 < (i.bytes : Int) * c) := by rw [hby]; simpa using t3
          by_cases hn0 : c.toNat * esz = 0
          · have he0 : (Array.range (c.toNat * esz)).map (fun i => z.cells[i % z.cells.size]!) = (Array.range (c.toNat * esz)).map (fun i => (#[] : Array Value)[i % (#[] : Array Value).size]!) := by rw [hn0]; simp
            have he1 : cs = #[] := by rw [← hcs, hn0]; simp
            have hn0' : c.toNat = 0 ∨ i.size = 0 := by rw [hsz]; exact Nat.mul_eq_zero.1 hn0
            simp [execOp, ho, Instr.makeSlice, run_underlying hu, hb1, hb2, asInt, asIntOf, run_typeInfo hi, w1, w2, t2, t3', t4, t5, sizeOf, newRow, hn0', hsz, hn0, he1]
            congr 2; apply Array.ext'; simp
          · have hn1 : ¬ (c.toNat = 0 ∨ i.size = 0) := by rw [hsz]; exact fun h => hn0 (Nat.mul_eq_zero.2 h)
            simp only [not_or] at hn1
            simp [execOp, ho, Instr.makeSlice, run_underlying hu, hb1, hb2, asInt, asIntOf, run_typeInfo hi, w1, w2, t2, t3', t4, t5, sizeOf, newRow, hn1, run_zeroValue hi hzz]
            rw [hsz, hcs, if_neg hn0]
        · rw [if_neg hcc] at hv; simp at hv
      · simp at hv
  | sliceArr n esz x lo hi mx =>
    unfold chkOp at hc
    split at hc <;> try (first | contradiction | (simp at hc; done))
    rename_i t u lo' hi' mx' _ _ _ _ _ _ ho q
    cases q
    simp only [Bool.and_eq_true] at hc
    obtain ⟨⟨⟨⟨h1, h2⟩, h3⟩, h4⟩, h5⟩ := hc
    have b := opd h1
    split at h5
    · rename_i n' e hu
      simp only [Bool.and_eq_true, beq_iff_eq] at h5
      obtain ⟨e0, hz⟩ := h5
      subst e0
      simp only [memA] at hv
      split at hv
      · rename_i l r c hs
        obtain ⟨m, hr, q1, q2, q3, q4, _⟩ := run_sliceBounds (P := P) hI hT false h2 h3 h4 (Nat.le_refl n) (fun x hx => by injection hx) hs k.w
        have run : ∀ (ad : Addr), a.eval u = .pointer (some ad) → (execOp a.eval o).run P k.w = .ok (.value (.slice (some (if m = l then ad else ad.add (l * esz))) (r - l) (m - l))) k.w := by
          intro ad hu'
          simp only [execOp, ho, Instr.sliceAt, Sem.run_bind, run_underlying hu, Result.andThen_ok, hu', Instr.sureAddr, Sem.run_pure, hr, run_sizeOf hz]
        have hmul : m * esz ≤ n * esz := Nat.mul_le_mul_right _ q3
        have hsplit : l * esz + (m - l) * esz = m * esz := by rw [← Nat.add_mul]; congr 1; omega
        have hsplit2 : l * esz + (r - l) * esz = r * esz := by rw [← Nat.add_mul]; congr 1; omega
        have hmul2 : r * esz ≤ m * esz := Nat.mul_le_mul_right _ q2
        split at hv
        · rename_i bb ver off hb
          rw [hb] at b
          split at hv
          · rename_i fz tag cells hrow
            have he := rowAt_some.1 hrow
            by_cases hl : off + n * esz ≤ cells.length
            · rw [if_pos hl] at hv
              injection hv with hv; injection hv with e1 hv; injection hv with e2 e3
              subst e1; subst e2; subst e3
              obtain ⟨ad, hu', hk2, had⟩ := (b.keep rfl).ptr
              have := had _ _ _ he
              subst this
              have hrr := hI.rows bb ver _ _ cells he
              refine MemPost.read hI hT (run _ hu') (VR.sl _ _ _ _ _ _ _ _ hk2 (by omega) (fun x hx => q4 x hx) fun fz2 tag2 cells2 he2 => ⟨fun h0 => ?_, ?_⟩)
              · rw [if_neg (by omega), add_none _ _ rfl, Nat.add_assoc]
              · have := hrr.len; omega
            · rw [if_neg hl] at hv; simp at hv
          · simp at hv
        · rename_i cells hb
          rw [hb] at b
          by_cases hl : n * esz ≤ cells.length
          · rw [if_pos hl] at hv
            injection hv with hv; injection hv with e1 hv; injection hv with e2 e3
            subst e1; subst e2; subst e3
            have hp := (b.keep rfl).pp
            generalize hcu : a.eval u = cu at hp
            cases hp with
            | pp _ ad cvs s1 s2 s3 =>
              have hps : PR k.w (Imm Γ k) (.ps cells n (some n)) (.slice (some ad) n n) := .ps _ _ _ _ _ cvs s1 (Nat.le_refl _) (fun x hx => by injection hx) s2 s3
              obtain ⟨a2, c2, e4, _, _, hfin⟩ := PR.ps_slice hps esz l r q1 (by omega) hl c
              injection e4 with e5 e6 e7
              subst e5; subst e7
              have := hfin m q2 q3 q4
              refine MemPost.read hI hT (run _ hcu) (.pr _ _ ?_)
              have hsome : (if m = l then some ad else (some ad).map (·.add (l * esz))) = some (if m = l then ad else ad.add (l * esz)) := by split <;> rfl
              rw [hsome] at this
              exact this
          · rw [if_neg hl] at hv; simp at hv
        · simp at hv
      · simp at hv
    · simp at h5
  | _ => first | (simp at hk; done) | (simp [memA] at hv; done)
end
end Go.Abs

/- The abstract machine: maps. -/
namespace Go.Abs
open Go.RowKit

section
variable {Γ : Gh} {k k' : Kf} {P : Program}

theorem Inv.addMap (hI : Inv Γ k) : Inv Γ (addObj k (.map []) 0 (.map #[] 0)) := by
  have g := Grow.addObj hI (.map []) 0 (.map #[] 0) (by simp)
  have r := GrowR.addObj k (.map []) 0 (.map #[] 0)
  have hb := below_alloc' k.w (.map #[] 0)
  have hold : ∀ b, b < k.s.h.length → (Abs.addObj k (.map []) 0 (.map #[] 0)).μ b = k.μ b := fun b hb => muSet_ne _ _ _ _ (by omega)
  refine ⟨Nat.le_trans hI.size hb.size, fun x hx => Nat.lt_of_lt_of_le (hI.outer x hx) hb.size, fun b ver fz tag' cells' he => ?_, fun b es he => ?_, fun b b' hb1 hb2 hm => ?_, fun p st cells he => ?_, hI.rinj⟩
  · have hlt := row_lt he
    simp [Abs.addObj] at hlt
    have hbl : b < k.s.h.length := by
      rcases Nat.lt_or_ge b k.s.h.length with h | h
      · exact h
      · have : b = k.s.h.length := by omega
        subst this
        simp only [Abs.addObj] at he
        rw [getD_append_mid] at he
        cases he
    have he' : k.s.h.getD b .dead = .row ver fz tag' cells' := by simp only [Abs.addObj] at he; rwa [getD_append_left' _ _ _ _ hbl] at he
    have h := hI.rows b ver fz tag' cells' he'
    exact h.grow g (hold b hbl) (hb.block _ h.lt) h.notReg
  · by_cases hbl : b < k.s.h.length
    · have he' : k.s.h.getD b .dead = .map es := by simp only [Abs.addObj] at he; rwa [getD_append_left' _ _ _ _ hbl] at he
      have h := hI.maps b es he'
      exact h.grow g (hold b hbl) (hb.block _ h.lt) h.notReg
    · have hlt := map_lt he
      simp [Abs.addObj] at hlt
      have hbe : b = k.s.h.length := by omega
      subst hbe
      simp only [Abs.addObj] at he
      rw [getD_append_mid] at he
      injection he with he
      subst he
      have hμ : (Abs.addObj k (.map []) 0 (.map #[] 0)).μ k.s.h.length = ⟨k.w.heap.size, 0, 0⟩ := muSet_same _ _ _
      refine ⟨by rw [hμ]; exact hI.size, by rw [hμ]; intro hx; have := hI.outer _ hx; simp at this, by rw [hμ]; intro hx; have := hI.isReg_lt hx; simp at this, ?_⟩
      exact ⟨#[], 0, by rw [hμ]; exact heap_alloc_new _ _, rfl, fun j hj => by simp at hj⟩
  · have key : ∀ b, Live (k.s.h ++ [AObj.map []]) b → b < k.s.h.length ∧ Live k.s.h b ∨ b = k.s.h.length := by
      intro b hl
      have hlt := lt_of_getD_ne _ _ _ hl
      simp at hlt
      by_cases hbl : b < k.s.h.length
      · refine .inl ⟨hbl, ?_⟩
        unfold Live at hl ⊢
        rwa [getD_append_left' _ _ _ _ hbl] at hl
      · exact .inr (by omega)
    simp only [Abs.addObj] at hm
    rcases key b hb1 with ⟨h1, l1⟩ | rfl <;> rcases key b' hb2 with ⟨h2, l2⟩ | rfl
    · rw [muSet_ne _ _ _ _ (by omega), muSet_ne _ _ _ _ (by omega)] at hm
      exact hI.inj b b' l1 l2 hm
    · rw [muSet_ne _ _ _ _ (by omega), muSet_same] at hm
      have := hI.live_lt l1
      simp only at hm; omega
    · rw [muSet_same, muSet_ne _ _ _ _ (by omega)] at hm
      have := hI.live_lt l2
      simp only at hm; omega
    · rfl
  · have h := hI.regs p st cells he
    exact h.grow g r rfl (hb.block _ h.lt)

def setMapK (k : Kf) (b : Nat) (es : List (AV × AV)) (o : Obj) : Kf := { k with s := { k.s with h := k.s.h.set b (.map es) }, w := { k.w with heap := k.w.heap.setIfInBounds (k.μ b).g o } }

theorem setMap_get {b : Nat} {es : List (AV × AV)} {o : Obj} (hb : b < k.s.h.length) (b' : Nat) :
    (setMapK k b es o).s.h.getD b' .dead = if b = b' then .map es else k.s.h.getD b' .dead := by
  simp only [setMapK, getD_set']
  by_cases h : b = b'
  · rw [if_pos ⟨h, hb⟩, if_pos h]
  · rw [if_neg (fun x => h x.1), if_neg h]

theorem Inv.setMap (hI : Inv Γ k) {b : Nat} {es es' : List (AV × AV)} (he : k.s.h.getD b .dead = .map es) (ces : Array MapEntry) (clock : Nat) (hs : ces.size = es'.length)
    (hv : ∀ j, j < es'.length → ∃ e, ces[j]? = some e ∧ VK Γ k (es'.getD j (undefA, undefA)).1 e.key ∧ VK Γ k (es'.getD j (undefA, undefA)).2 e.val) :
    Inv Γ (setMapK k b es' (.map ces clock)) ∧ Grow Γ k (setMapK k b es' (.map ces clock)) := by
  have hm := hI.maps b es he
  have hbl := map_lt he
  have hother : ∀ x, x ≠ (k.μ b).g → (setMapK k b es' (.map ces clock)).w.heap[x]? = k.w.heap[x]? := fun x hx => by
    simp only [setMapK, Array.getElem?_setIfInBounds]
    rw [if_neg (fun e => hx e.symm)]
  have hat : (setMapK k b es' (.map ces clock)).w.heap[(k.μ b).g]? = some (.map ces clock) := by
    simp only [setMapK, Array.getElem?_setIfInBounds, if_pos]
    rw [if_pos hm.lt]
  have hsz : (setMapK k b es' (.map ces clock)).w.heap.size = k.w.heap.size := by simp [setMapK]
  obtain ⟨ces0, clock0, hb0, _, _⟩ := hm.block
  have g : Grow Γ k (setMapK k b es' (.map ces clock)) := by
    refine ⟨rfl, rfl, rfl, Nat.le_of_eq hsz.symm, fun x hx => hother x (by have := hm.base; omega), fun x hx => hother x (fun e => hm.notX (e ▸ hx)),
      fun x j h => ⟨⟨by rw [hsz]; exact h.1, h.2.1, h.2.2.1, h.2.2.2.1, fun b' ver fz tag cells he' hmu => ?_⟩, ?_⟩, by simp [setMapK], fun b' ver fz tag cells _ he' => ?_, fun b' es1 _ he' => ?_⟩
    · rw [setMap_get hbl] at he'
      by_cases hbb : b = b'
      · rw [if_pos hbb] at he'; cases he'
      · rw [if_neg hbb] at he'; exact h.2.2.2.2 b' ver fz tag cells he' hmu
    · by_cases hx : x = (k.μ b).g
      · subst hx; simp only [World.cell?, hat, hb0]
      · exact cell?_of_heap (a := ⟨x, j, none⟩) (hother x hx)
    · rw [setMap_get hbl] at he'
      by_cases hbb : b = b'
      · rw [if_pos hbb] at he'; cases he'
      · rw [if_neg hbb] at he'; exact ⟨ver, fz, tag, cells, he', Nat.le_refl _, fun _ => rfl⟩
    · rw [setMap_get hbl] at he'
      by_cases hbb : b = b'
      · subst hbb; exact ⟨es, he, rfl⟩
      · rw [if_neg hbb] at he'; exact ⟨es1, he', rfl⟩
  refine ⟨⟨Nat.le_trans hI.size g.size, fun x hx => Nat.lt_of_lt_of_le (hI.outer x hx) g.size, fun b' ver fz tag cells he' => ?_, fun b' es1 he' => ?_, fun b1 b2 h1 h2 hmu => ?_, fun p st c' he' => ?_, hI.rinj⟩, g⟩
  · rw [setMap_get hbl] at he'
    by_cases hbb : b = b'
    · rw [if_pos hbb] at he'; cases he'
    · rw [if_neg hbb] at he'
      have h := hI.rows b' ver fz tag cells he'
      exact h.grow g rfl (hother _ (fun e => hbb (hI.inj b b' (live_map he) (live_row he') e.symm))) h.notReg
  · rw [setMap_get hbl] at he'
    by_cases hbb : b = b'
    · rw [if_pos hbb] at he'
      injection he' with he'
      subst he'; subst hbb
      refine ⟨hm.base, hm.notX, hm.notReg, ces, clock, hat, hs, fun j hj => ?_⟩
      obtain ⟨e, q1, q2, q3⟩ := hv j hj
      exact ⟨e, q1, VK.grow g q2, VK.grow g q3⟩
    · rw [if_neg hbb] at he'
      have h := hI.maps b' es1 he'
      exact h.grow g rfl (hother _ (fun e => hbb (hI.inj b b' (live_map he) (live_map he') e.symm))) h.notReg
  · refine hI.inj b1 b2 ?_ ?_ hmu
    · unfold Live at h1 ⊢; rw [setMap_get hbl] at h1
      by_cases hbb : b = b1
      · subst hbb; rw [he]; simp
      · rwa [if_neg hbb] at h1
    · unfold Live at h2 ⊢; rw [setMap_get hbl] at h2
      by_cases hbb : b = b2
      · subst hbb; rw [he]; simp
      · rwa [if_neg hbb] at h2
  · have h := hI.regs p st c' he'
    exact h.grow g ⟨Nat.le_refl _, fun _ _ cells he => .inl ⟨cells, he, rfl⟩⟩ rfl (hother _ (fun e => hm.notReg ⟨p, st, c', he', e⟩))

/-! ### keys -/
def CkOk (P : Program) (Γ : Gh) (k : Kf) (n : Nat) (sh : ESh) (t : TypeId) : Prop :=
  ∀ (xs : List AV) (cxs : List Value), eqCells sh xs xs = some true → VKs Γ k xs cxs → ∀ (b : Bool) (w : World), (Instr.checkKey b n t (mkV (shAgg sh) cxs)).run P w = .ok () w

theorem ckItems {n : Nat} {sh : ESh} {e : TypeId} {sz : Nat} (hok : CkOk P Γ k n sh e) (ha : aggT P e = some (shAgg sh)) (hz : szT P e = some sz) {xs : List AV} {cxs : List Value} (hx : VKs Γ k xs cxs) (b : Bool) (w : World) :
    ∀ (m i : Nat), eqArr (eqCells sh) sz m (xs.drop (i * sz)) (xs.drop (i * sz)) = some true →
      (forIn (List.range' i m) PUnit.unit (fun i _ => do Instr.checkKey b n e (← part e cxs.toArray (i * (← sizeOf e))); pure (ForInStep.yield PUnit.unit) : Nat → PUnit → Sem (ForInStep PUnit))).run P w = .ok PUnit.unit w := by
  intro m
  induction m with
  | zero => intro i _; simp
  | succ m ih =>
    intro i h
    simp only [eqArr] at h
    by_cases hl : sz ≤ (xs.drop (i * sz)).length ∧ sz ≤ (xs.drop (i * sz)).length
    · rw [if_pos hl] at h
      have h1 := hl.1
      simp only [List.length_drop] at h1
      cases hc : eqCells sh ((xs.drop (i * sz)).take sz) ((xs.drop (i * sz)).take sz) with
      | none => rw [hc] at h; simp at h
      | some r =>
        rw [hc] at h
        cases r with
        | false => simp at h
        | true =>
          simp only at h
          have h11 : shAgg sh = true ∨ sz = 1 := by
            cases hs : shAgg sh with
            | true => exact .inl rfl
            | false => have := (eqCells_one hs hc).1; simp at this; exact .inr (by omega)
          have hp : (part e cxs.toArray (i * sz)).run P w = .ok (mkV (shAgg sh) ((cxs.drop (i * sz)).take sz)) w := by
            by_cases hsz : sz = 0
            · rcases h11 with hag | hag
              · subst hsz
                rw [hag] at ha ⊢
                simp only [part, Sem.run_bind, run_isAgg ha, Result.andThen_ok, if_true, run_sizeOf hz, Sem.run_pure, mkV]
                congr 2
                apply Array.ext'
                simp
              · omega
            · exact run_partV ha hz h11 cxs (i * sz) (by rw [hx.1]; omega) w
          simp only [List.range'_succ, List.forIn_cons, Sem.run_bind, run_sizeOf hz, Result.andThen_ok, hp, hok _ _ hc ((hx.drop _).take _) b w, Sem.run_pure]
          rw [List.drop_drop] at h
          exact ih (i + 1) (by rw [Nat.add_mul, Nat.one_mul]; exact h)
    · rw [if_neg hl] at h; simp at h

theorem ckFields {n d : Nat} (hok : ∀ sh t, chkSh P d sh t = true → CkOk P Γ k n sh t) {xs : List AV} {cxs : List Value} (hx : VKs Γ k xs cxs) (b : Bool) (w : World) :
    ∀ (fs : List Field) (l : List (Nat × Nat × ESh)), chkFieldsW P (chkSh P d) (fs.filter fun f => f.name ≠ "_") l = true → eqFields l xs xs = some true →
      (forIn fs PUnit.unit (fun f _ => if f.name ≠ "_" then (do Instr.checkKey b n f.type (← part f.type cxs.toArray f.offset); pure (ForInStep.yield PUnit.unit)) else pure (ForInStep.yield PUnit.unit) : Field → PUnit → Sem (ForInStep PUnit))).run P w = .ok PUnit.unit w := by
  intro fs
  induction fs with
  | nil => intro l _ _; simp
  | cons f fs ih =>
    intro l h he
    by_cases hn : f.name ≠ "_"
    · rw [List.filter_cons_of_pos (by simpa using hn)] at h
      cases l with
      | nil => simp [chkFieldsW] at h
      | cons x l =>
        obtain ⟨off, sz, sh⟩ := x
        simp only [chkFieldsW, Bool.and_eq_true, beq_iff_eq] at h
        obtain ⟨⟨⟨ho, hz⟩, hs⟩, hr⟩ := h
        subst ho
        simp only [eqFields] at he
        by_cases hl : f.offset + sz ≤ xs.length ∧ f.offset + sz ≤ xs.length
        · rw [if_pos hl] at he
          cases hc : eqCells sh ((xs.drop f.offset).take sz) ((xs.drop f.offset).take sz) with
          | none => rw [hc] at he; simp at he
          | some r =>
            rw [hc] at he
            cases r with
            | false => simp at he
            | true =>
              simp only at he
              have ha := chkSh_agg hs
              have ha' : aggT P f.type = some (shAgg sh) := by rw [ha]; cases sh <;> rfl
              have h11 : shAgg sh = true ∨ sz = 1 := by
                cases hs' : shAgg sh with
                | true => exact .inl rfl
                | false => have := (eqCells_one hs' hc).1; simp at this; exact .inr (by omega)
              have p1 := run_partV ha' hz h11 cxs f.offset (by rw [hx.1]; exact hl.1) w
              simp only [List.forIn_cons, Sem.run_bind]
              rw [if_pos hn]
              simp only [Sem.run_bind, p1, Result.andThen_ok, hok sh f.type hs _ _ hc ((hx.drop _).take _) b w, Sem.run_pure]
              exact ih l hr he
        · rw [if_neg hl] at he; simp at he
    · rw [List.filter_cons_of_neg (by simpa using hn)] at h
      simp only [List.forIn_cons, Sem.run_bind]
      rw [if_neg hn]
      simp only [Sem.run_pure, Result.andThen_ok]
      exact ih l h he

theorem ck_sound : ∀ (d : Nat) (sh : ESh) (t : TypeId) (n : Nat), d ≤ n → chkSh P d sh t = true → CkOk P Γ k n sh t := by
  intro d
  induction d with
  | zero => intro sh t n _ h; simp [chkSh] at h
  | succ d ih =>
    intro sh t n hn h xs cxs he hx b w
    obtain ⟨n, rfl⟩ : ∃ m, n = m + 1 := ⟨n - 1, by omega⟩
    have hsh := h
    simp only [chkSh] at h
    have hlen : shAgg sh = false → ∃ v, xs = [v] := fun hs => by
      have := (eqCells_one hs he).1
      cases xs with
      | nil => simp at this
      | cons v r => simp at this; subst this; exact ⟨v, rfl⟩
    split at h
    · rename_i κ hu
      simp [mkV, shAgg, Instr.checkKey, run_underlying hu]
    · rename_i hu
      simp [mkV, shAgg, Instr.checkKey, run_underlying hu]
    · rename_i hu
      simp [mkV, shAgg, Instr.checkKey, run_underlying hu]
    · rename_i m e m' sz sh' hu
      simp only [Bool.and_eq_true, beq_iff_eq] at h
      obtain ⟨⟨e0, hz⟩, hs⟩ := h
      subst e0
      simp only [eqCells] at he
      simp only [mkV, shAgg, if_true, Instr.checkKey, Sem.run_bind, run_underlying hu, Result.andThen_ok]
      have ha := chkSh_agg hs
      have := ckItems (ih sh' e n (by omega) hs) (by rw [ha]; cases sh' <;> rfl) hz hx b w m 0 (by simpa using he)
      simp only [Std.Legacy.Range.forIn_eq_forIn_range', Std.Legacy.Range.size, Nat.sub_zero, Nat.add_one_sub_one, Nat.div_one]
      rw [this]; rfl
    · rename_i fs l hu
      simp only [Bool.and_eq_true, Bool.not_eq_true'] at h
      obtain ⟨hp, hf⟩ := h
      simp only [eqCells] at he
      simp only [mkV, shAgg, if_true, Instr.checkKey, Sem.run_bind, run_underlying hu, Result.andThen_ok]
      rw [← Array.forIn_toList]
      have := ckFields (fun sh t hs => ih sh t n (by omega) hs) hx b w fs.toList l hf he
      rw [this]; rfl
    · simp at h
end
end Go.Abs

/- The abstract machine: a map's keys, found; operations on maps. -/
namespace Go.Abs
open Go.RowKit

section
variable {Γ : Gh} {k k' : Kf} {P : Program}

theorem bytes_beq (a b : ByteArray) : (a == b) = true ↔ a = b := by
  obtain ⟨x⟩ := a
  obtain ⟨y⟩ := b
  constructor
  · intro h
    have e : x = y := by simpa using (show (x == y) = true from h)
    rw [e]
  · intro h
    cases h
    show (x == x) = true
    simp

def Ents (Γ : Gh) (k : Kf) : List (AV × AV) → List MapEntry → Prop
  | [], [] => True
  | (x, v) :: r, e :: s => VK Γ k x e.key ∧ VK Γ k v e.val ∧ Ents Γ k r s
  | _, _ => False

theorem Ents.of : ∀ {es : List (AV × AV)} {ces : List MapEntry}, ces.length = es.length →
    (∀ j, j < es.length → ∃ e, ces[j]? = some e ∧ VK Γ k (es.getD j (undefA, undefA)).1 e.key ∧ VK Γ k (es.getD j (undefA, undefA)).2 e.val) → Ents Γ k es ces
  | [], [], _, _ => trivial
  | [], _ :: _, h, _ => by simp at h
  | _ :: _, [], h, _ => by simp at h
  | (x, v) :: r, e :: s, h, hv => by
    obtain ⟨e', h1, h2, h3⟩ := hv 0 (by simp)
    simp at h1; subst h1
    refine ⟨h2, h3, Ents.of (by simpa using h) fun j hj => ?_⟩
    obtain ⟨e', h1, h2, h3⟩ := hv (j + 1) (by simp; omega)
    exact ⟨e', by simpa using h1, by simpa using h2, by simpa using h3⟩

def Fnd (Γ : Gh) (k : Kf) : Option (Nat × AV) → Option (Nat × Value) → Prop
  | none, none => True
  | some (i, v), some (j, cv) => i = j ∧ VK Γ k v cv
  | _, _ => False

theorem asking_sound {sh : ESh} {t : TypeId} (hsh : chkSh P 50 sh t = true) {key : AV} {ck : Value} (hk : VK Γ k key ck) (w : World) :
    ∀ {es : List (AV × AV)} {ces : List MapEntry} (i : Nat) {r : Option (Nat × AV)}, Ents Γ k es ces → findA sh key es i = some r →
      ∃ r', (Instr.findAsking t ck ces i).run P w = .ok r' w ∧ Fnd Γ k r r'
  | [], [], i, r, _, h => by
    simp only [findA] at h
    injection h with h; subst h
    exact ⟨none, by simp [Instr.findAsking], trivial⟩
  | [], _ :: _, _, _, h, _ => h.elim
  | _ :: _, [], _, _, h, _ => h.elim
  | (x, v) :: es, e :: ces, i, r, h, hf => by
    obtain ⟨h1, h2, h3⟩ := h
    simp only [findA] at hf
    cases hq : eqVal sh key x with
    | none => rw [hq] at hf; simp at hf
    | some b =>
      have hr := run_eq_vals hsh hk h1 hq w
      rw [hq] at hf
      cases b with
      | true =>
        simp only at hf
        injection hf with hf; subst hf
        exact ⟨some (i, e.val), by simp [Instr.findAsking, hr], rfl, h2⟩
      | false =>
        simp only at hf
        obtain ⟨r', a1, a2⟩ := asking_sound hsh hk w (i + 1) h3 hf
        exact ⟨r', by simp [Instr.findAsking, hr, a1], a2⟩

/-- Of simple keys it is known at once. -/
def AtOnce (Γ : Gh) (k : Kf) (desc : TypeDesc) (sh : ESh) : Prop :=
  ∀ (x y : AV) (cx cy : Value) (b : Bool), VK Γ k x cx → VK Γ k y cy → eqVal sh x y = some b → Instr.sameNow desc cx cy = some b

theorem now_sound {sh : ESh} {desc : TypeDesc} (ha : AtOnce Γ k desc sh) {key : AV} {ck : Value} (hk : VK Γ k key ck) :
    ∀ {es : List (AV × AV)} {ces : List MapEntry} (i : Nat) {r : Option (Nat × AV)}, Ents Γ k es ces → findA sh key es i = some r →
      ∃ r', Instr.findNow desc ck ces i = some r' ∧ Fnd Γ k r r'
  | [], [], i, r, _, h => by
    simp only [findA] at h
    injection h with h; subst h
    exact ⟨none, rfl, trivial⟩
  | [], _ :: _, _, _, h, _ => h.elim
  | _ :: _, [], _, _, h, _ => h.elim
  | (x, v) :: es, e :: ces, i, r, h, hf => by
    obtain ⟨h1, h2, h3⟩ := h
    simp only [findA] at hf
    cases hq : eqVal sh key x with
    | none => rw [hq] at hf; simp at hf
    | some b =>
      have hr := ha key x ck e.key b hk h1 hq
      rw [hq] at hf
      cases b with
      | true =>
        simp only at hf
        injection hf with hf; subst hf
        exact ⟨some (i, e.val), by simp only [Instr.findNow, hr], rfl, h2⟩
      | false =>
        simp only at hf
        obtain ⟨r', a1, a2⟩ := now_sound ha hk (i + 1) h3 hf
        exact ⟨r', by simp only [Instr.findNow, hr, a1], a2⟩

theorem eqVal_simple {sh : ESh} (hs : shAgg sh = false) {x y : AV} {b : Bool} (h : eqVal sh x y = some b) : eqCells sh [x] [y] = some b := by
  unfold eqVal at h
  split at h
  · rw [hs] at h; simp at h
  · simp at h
  · simp at h
  · rw [hs] at h; simpa using h

theorem find_sound {sh : ESh} {t : TypeId} (hsh : chkSh P 50 sh t = true) {key : AV} {ck : Value} (hk : VK Γ k key ck) (w : World)
    {es : List (AV × AV)} {ces : List MapEntry} {r : Option (Nat × AV)} (he : Ents Γ k es ces) (hf : findA sh key es 0 = some r) :
    ∃ r', (Instr.findKey t ck ces).run P w = .ok r' w ∧ Fnd Γ k r r' := by
  obtain ⟨desc, hu, hor⟩ : ∃ desc, P.underlying t = some desc ∧ (AtOnce Γ k desc sh ∨ ∀ c1 c2, Instr.sameNow desc c1 c2 = none) := by
    have h := hsh
    simp only [chkSh] at h
    split at h
    · rename_i κ hu
      refine ⟨_, hu, .inl fun x y cx cy b hx hy hq => ?_⟩
      have hq := eqVal_simple rfl hq
      unfold eqCells at hq
      split at hq <;> try (first | contradiction | (simp at hq; done))
      rename_i k1 a1 k2 a2 _ e1 e2
      cases e1; cases e2
      obtain rfl := hx.int
      obtain rfl := hy.int
      exact hq
    · rename_i hu
      refine ⟨_, hu, .inl fun x y cx cy b hx hy hq => ?_⟩
      have hq := eqVal_simple rfl hq
      unfold eqCells at hq
      split at hq <;> try (first | contradiction | (simp at hq; done))
      rename_i a1 a2 _ e1 e2
      cases e1; cases e2
      obtain rfl := hx.bool
      obtain rfl := hy.bool
      exact hq
    · rename_i hu
      refine ⟨_, hu, .inl fun x y cx cy b hx hy hq => ?_⟩
      have hq := eqVal_simple rfl hq
      unfold eqCells at hq
      split at hq <;> try (first | contradiction | (simp at hq; done))
      rename_i a1 a2 _ e1 e2
      cases e1; cases e2
      obtain rfl := hx.str
      obtain rfl := hy.str
      injection hq with hq
      subst hq
      simp only [Instr.sameNow]
      congr 1
      rw [Bool.eq_iff_iff]
      rw [bytes_beq, beq_iff_eq]
      constructor
      · intro h
        have := congrArg ByteArray.toList h
        rwa [toList_mk, toList_mk] at this
      · rintro rfl; rfl
    · rename_i hu
      exact ⟨_, hu, .inr fun c1 c2 => rfl⟩
    · rename_i hu
      exact ⟨_, hu, .inr fun c1 c2 => rfl⟩
    · simp at h
  rcases hor with ha | hn
  · obtain ⟨r', a1, a2⟩ := now_sound ha hk 0 he hf
    exact ⟨r', by simp [Instr.findKey, run_underlying hu, a1], a2⟩
  · cases ces with
    | nil =>
      cases es with
      | cons _ _ => exact he.elim
      | nil =>
        simp only [findA] at hf
        injection hf with hf; subst hf
        exact ⟨none, by simp [Instr.findKey, run_underlying hu, Instr.findNow], trivial⟩
    | cons e ces =>
      obtain ⟨r', a1, a2⟩ := asking_sound hsh hk w 0 he hf
      exact ⟨r', by simp [Instr.findKey, run_underlying hu, Instr.findNow, hn, a1], a2⟩

theorem sameCell_sound {n : Nat} {x y : AV} {cx cy : Value} (hx : VK Γ k x cx) (hy : VK Γ k y cy) (h : sameCell x y = true) : Instr.sameBits n cx cy = true := by
  unfold sameCell at h
  split at h
  · simp only [Bool.and_eq_true, beq_iff_eq] at h
    obtain ⟨rfl, rfl⟩ := h
    obtain rfl := hx.int
    obtain rfl := hy.int
    simp [Instr.sameBits]
  · simp only [beq_iff_eq] at h
    subst h
    obtain rfl := hx.bool
    obtain rfl := hy.bool
    simp [Instr.sameBits]
  · simp only [beq_iff_eq] at h
    subst h
    obtain rfl := hx.str
    obtain rfl := hy.str
    simp [Instr.sameBits, bytes_beq]
  · simp at h

theorem sameCells_sound {n : Nat} : ∀ {xs ys : List AV} {cxs cys : List Value}, VKs Γ k xs cxs → VKs Γ k ys cys → sameCells xs ys = true →
    cxs.length = cys.length ∧ (cxs.zip cys).all (fun (x, y) => Instr.sameBits n x y) = true
  | [], [], cxs, cys, hx, hy, _ => by
    obtain rfl := hx.of_nil
    obtain rfl := hy.of_nil
    exact ⟨rfl, rfl⟩
  | [], _ :: _, _, _, _, _, h => by simp [sameCells] at h
  | _ :: _, [], _, _, _, _, h => by simp [sameCells] at h
  | x :: xs, y :: ys, cxs, cys, hx, hy, h => by
    obtain ⟨c1, r1, rfl, h1, h2⟩ := hx.of_cons
    obtain ⟨c2, r2, rfl, h3, h4⟩ := hy.of_cons
    simp only [sameCells, Bool.and_eq_true] at h
    obtain ⟨a, b⟩ := sameCells_sound (n := n) h2 h4 h.2
    refine ⟨by simp [a], ?_⟩
    simp only [List.zip_cons_cons, List.all_cons, Bool.and_eq_true]
    exact ⟨sameCell_sound h1 h3 h.1, b⟩

theorem sameKey_sound {n : Nat} {x y : AV} {cx cy : Value} (hx : VK Γ k x cx) (hy : VK Γ k y cy) (h : sameKey x y = true) : Instr.sameBits (n + 1) cx cy = true := by
  unfold sameKey at h
  split at h
  · obtain ⟨cxs, rfl, h1⟩ := hx.agg
    obtain ⟨cys, rfl, h2⟩ := hy.agg
    obtain ⟨a, b⟩ := sameCells_sound (n := n) h1 h2 h
    simp [Instr.sameBits, a]
    simpa using b
  · exact sameCell_sound hx hy h
end
end Go.Abs

/- The abstract machine: operations on maps, copy; all operations on memory. -/
namespace Go.Abs
open Go.RowKit

section
variable {Γ : Gh} {k k' : Kf} {P : Program}

theorem run_getMap {w : World} {r : Nat} {es : Array MapEntry} {clock : Nat} (h : w.heap[r]? = some (.map es clock)) : (getObj r).run P w = .ok (.map es clock) w := by
  simp [getObj, Sem.run, h]
theorem run_setMap {w : World} {r : Nat} {es : Array MapEntry} {clock : Nat} (o : Obj) (h : w.heap[r]? = some (.map es clock)) : (setObj r o).run P w = .ok () { w with heap := w.heap.setIfInBounds r o } := by
  simp [setObj, Sem.run, h]

theorem run_checkKey {sh : ESh} {t : TypeId} (hsh : chkSh P 50 sh t = true) {key : AV} {ck : Value} (hk : VK Γ k key ck) (h : keyOk sh key = true) (b : Bool) (w : World) :
    (Instr.checkKey b 10000 t ck).run P w = .ok () w := by
  have h' : eqVal sh key key = some true := by
    unfold keyOk at h
    simpa using h
  obtain ⟨h1, h2, h3⟩ := eqVal_cells h'
  have e := ck_sound (Γ := Γ) (k := k) 50 sh t 10000 (by omega) hsh _ _ h1 hk.cells b w
  rw [mkV_cells hk (fun hs => let ⟨xs, _, hx, _⟩ := h2 hs; ⟨xs, hx⟩) (fun hs => (h3 hs).1)] at e
  exact e

theorem look_sound {zero : AV} {sh : ESh} {ok : Bool} {t kt et : TypeId} {key : AV} {es : List (AV × AV)} {ck z : Value} {i : TypeInfo} {v : AV} (hu : P.underlying t = some (.map kt et)) (hsh : chkSh P 50 sh kt = true)
    (hi : P.info? et = some i) (hz : i.zero = some z) (hzv : VK Γ k zero z) (hk : VK Γ k key ck) {ces : Array MapEntry} {cm : Value} (hm : cm = .map none ∧ ces = #[] ∨ ∃ r clock, cm = .map (some r) ∧ k.w.heap[r]? = some (.map ces clock))
    (he : Ents Γ k es ces.toList) (h : lookA zero sh ok key es = some v) :
    ∃ cv, (Instr.lookup t cm ck ok).run P k.w = .ok cv k.w ∧ VK Γ k v cv := by
  unfold lookA at h
  by_cases hko : keyOk sh key = false
  · rw [if_pos hko] at h; simp at h
  · rw [if_neg hko] at h
    have hko : keyOk sh key = true := by simpa using hko
    cases hf : findA sh key es 0 with
    | none => rw [hf] at h; simp at h
    | some r =>
      rw [hf] at h
      obtain ⟨r', a1, a2⟩ := find_sound hsh hk k.w he hf
      have run : ∀ cv, (match r' with | some (_, v) => (if ok then Value.tuple #[v, .bool true] else v) | none => (if ok then Value.tuple #[z, .bool false] else z)) = cv → (Instr.lookup t cm ck ok).run P k.w = .ok cv k.w := by
        intro cv hcv
        rcases hm with ⟨rfl, rfl⟩ | ⟨rr, clock, rfl, hb⟩
        · cases r' with
          | none => simp [Instr.lookup, run_underlying hu, run_checkKey hsh hk hko, a1, run_zeroValue hi hz]; exact hcv
          | some p => simp [Instr.lookup, run_underlying hu, run_checkKey hsh hk hko, a1]; exact hcv
        · cases r' with
          | none => simp [Instr.lookup, run_underlying hu, run_checkKey hsh hk hko, a1, run_zeroValue hi hz, run_getMap hb]; exact hcv
          | some p => simp [Instr.lookup, run_underlying hu, run_checkKey hsh hk hko, a1, run_getMap hb]; exact hcv
      have tup : ∀ (x : AV) (cx : Value) (b : Bool), VK Γ k x cx → VK Γ k (.tuple [x, .bool b]) (.tuple #[cx, .bool b]) := fun x cx b hx =>
        VR.tuple [x, .bool b] [cx, .bool b] rfl fun j hj => by
          match j, hj with
          | 0, _ => exact hx
          | 1, _ => exact .pr _ _ (.bool b)
      cases r with
      | none =>
        cases r' with
        | some p => exact a2.elim
        | none =>
          simp only [Option.some.injEq] at h
          subst h
          cases ok with
          | true => exact ⟨_, run _ rfl, tup _ _ _ hzv⟩
          | false => exact ⟨_, run _ rfl, hzv⟩
      | some p =>
        cases r' with
        | none => exact a2.elim
        | some q =>
          obtain ⟨pi, pv⟩ := p
          obtain ⟨qi, qv⟩ := q
          obtain ⟨rfl, hpv⟩ := a2
          simp only [Option.some.injEq] at h
          subst h
          cases ok with
          | true => exact ⟨_, run _ rfl, tup _ _ _ hpv⟩
          | false => exact ⟨_, run _ rfl, hpv⟩

theorem findA_at {sh : ESh} {key : AV} : ∀ {es : List (AV × AV)} {i j : Nat} {v : AV}, findA sh key es i = some (some (j, v)) → i ≤ j ∧ j - i < es.length
  | [], _, _, _, h => by simp [findA] at h
  | (x, v0) :: r, i, j, v, h => by
    simp only [findA] at h
    split at h
    · injection h with h; injection h with h; injection h with h1 h2
      subst h1
      exact ⟨Nat.le_refl _, by simp⟩
    · obtain ⟨a, b⟩ := findA_at h
      exact ⟨by omega, by simp; omega⟩
    · simp at h

theorem undef_VK : VK Γ k undefA undef := .pr _ _ (.tuple [] [] rfl (fun j hj => by simp at hj))

theorem MapOk.ents {b : Nat} {es : List (AV × AV)} (h : MapOk Γ k b es) : ∃ ces clock, k.w.heap[(k.μ b).g]? = some (.map ces clock) ∧ ces.size = es.length ∧ Ents Γ k es ces.toList ∧
    ∀ j, j < es.length → ∃ e, ces[j]? = some e ∧ VK Γ k (es.getD j (undefA, undefA)).1 e.key ∧ VK Γ k (es.getD j (undefA, undefA)).2 e.val := by
  obtain ⟨ces, clock, h1, h2, h3⟩ := h.block
  exact ⟨ces, clock, h1, h2, Ents.of (by simpa using h2) (fun j hj => by
    obtain ⟨e, q⟩ := h3 j hj
    exact ⟨e, by simpa using q⟩), h3⟩

theorem mapSet_sound (hI : Inv Γ k) {a : Act} (hT : TR Γ k a.tmps) {o : Oper} {sh : ESh} {m x y : AOpd} {d : Option Nat} (hc : chkOp P d o.op (.mapSet sh m x y) = true) {v : AV} {ts : List AV} {h' : AHeap}
    (hv : memA (.mapSet sh m x y) k.s.t k.s.h = some (v, ts, h')) : MemPost P Γ k a o v ts h' := by
  have opd : ∀ {x : AOpd} {y : Operand}, chkOpd x y = true → FV Γ k (aev k.s.t x) (a.eval y) := fun h => opd_sound hI hT h
  have fin : ∀ (t kt et : TypeId) (u1 u2 u3 : Operand), P.underlying t = some (.map kt et) → chkSh P 50 sh kt = true → chkOpd m u1 = true → chkOpd x u2 = true → chkOpd y u3 = true →
      (∀ w', (Instr.mapUpdate t (a.eval u1) (a.eval u2) (a.eval u3)).run P k.w = .ok () w' → (execOp a.eval o).run P k.w = .ok .skip w') → MemPost P Γ k a o v ts h' := by
    intro t kt et u1 u2 u3 hu hsh q1 q2 q3 run
    simp only [memA] at hv
    split at hv
    · rename_i b hb
      have b1 := opd q1
      rw [hb] at b1
      obtain ⟨rr, hm, hbl, hr⟩ := (b1.keep rfl).mp
      split at hv
      · rename_i es he
        have := hr es he
        subst this
        by_cases hkk : (keyOk sh (aev k.s.t x) && keeps (aev k.s.t y)) = true
        · rw [if_pos hkk] at hv
          simp only [Bool.and_eq_true] at hkk
          obtain ⟨hko, hky⟩ := hkk
          have hkx : keeps (aev k.s.t x) = true := by
            cases hx : aev k.s.t x <;> first | rfl | skip
            all_goals
              rw [hx] at hko
              unfold keyOk eqVal at hko
              cases sh <;> simp [shAgg, eqCells] at hko
          have vx := (opd q2).keep hkx
          have vy := (opd q3).keep hky
          obtain ⟨ces, clock, e1, e2, e3, e4⟩ := (hI.maps b es he).ents
          cases hf : findA sh (aev k.s.t x) es 0 with
          | none => rw [hf] at hv; simp at hv
          | some r =>
            rw [hf] at hv
            obtain ⟨r', a1, a2⟩ := find_sound hsh vx k.w e3 hf
            cases r with
            | none =>
              cases r' with
              | some _ => exact a2.elim
              | none =>
                simp only [Option.some.injEq, Prod.mk.injEq] at hv
                obtain ⟨rfl, rfl, rfl⟩ := hv
                obtain ⟨sI, sG⟩ := hI.setMap (es' := es ++ [(aev k.s.t x, aev k.s.t y)]) he (ces.push { key := a.eval u2, val := a.eval u3, born := clock }) (clock + 1) (by simp [e2]) (fun j hj => by
                  simp only [List.length_append, List.length_cons, List.length_nil] at hj
                  by_cases hjl : j < es.length
                  · obtain ⟨e, p1, p2⟩ := e4 j hjl
                    refine ⟨e, ?_, ?_⟩
                    · rw [Array.getElem?_push, if_neg (by omega)]; exact p1
                    · rw [getD_append_left' _ _ _ _ hjl]; exact p2
                  · have : j = es.length := by omega
                    subst this
                    refine ⟨{ key := a.eval u2, val := a.eval u3, born := clock }, ?_, ?_⟩
                    · rw [Array.getElem?_push, if_pos e2.symm]
                    · rw [getD_append_mid]; exact ⟨vx, vy⟩)
                refine ⟨_, undef, _, k.μ, run _ ?_, .inr ⟨rfl, rfl⟩, sI, sG, ⟨Nat.le_refl _, fun p st cells hp => .inl ⟨cells, hp, rfl⟩⟩, hT.same sG rfl rfl rfl, undef_VK⟩
                simp [Instr.mapUpdate, run_underlying hu, hm, run_getMap e1, run_checkKey hsh vx hko, a1, run_setMap _ e1, setMapK]
            | some p =>
              cases r' with
              | none => exact a2.elim
              | some q =>
                obtain ⟨pi, pv⟩ := p
                obtain ⟨qi, qv⟩ := q
                obtain ⟨rfl, hpv⟩ := a2
                simp only at hv
                by_cases hsame : sameKey (es.getD pi (undefA, undefA)).1 (aev k.s.t x) = true
                · rw [if_pos hsame] at hv
                  simp only [Option.some.injEq, Prod.mk.injEq] at hv
                  obtain ⟨rfl, rfl, rfl⟩ := hv
                  have hpl : pi < es.length := by have := findA_at hf; omega
                  obtain ⟨e, p1, p2, p3⟩ := e4 pi hpl
                  have hbits := sameKey_sound (n := 9999) p2 vx hsame
                  obtain ⟨sI, sG⟩ := hI.setMap (es' := es.set pi (aev k.s.t x, aev k.s.t y)) he (ces.modify pi fun e => { e with key := a.eval u2, val := a.eval u3 }) clock (by simp [e2]) (fun j hj => by
                    simp only [List.length_set] at hj
                    obtain ⟨e', p1', p2'⟩ := e4 j hj
                    by_cases hjp : pi = j
                    · subst hjp
                      refine ⟨{ e' with key := a.eval u2, val := a.eval u3 }, ?_, ?_⟩
                      · rw [Array.getElem?_modify, if_pos rfl, p1']; rfl
                      · rw [getD_set', if_pos ⟨rfl, hj⟩]; exact ⟨vx, vy⟩
                    · refine ⟨e', ?_, ?_⟩
                      · rw [Array.getElem?_modify, if_neg hjp]; exact p1'
                      · rw [getD_set', if_neg (fun z => hjp z.1)]; exact p2')
                  refine ⟨_, undef, _, k.μ, run _ ?_, .inr ⟨rfl, rfl⟩, sI, sG, ⟨Nat.le_refl _, fun p st cells hp => .inl ⟨cells, hp, rfl⟩⟩, hT.same sG rfl rfl rfl, undef_VK⟩
                  simp [Instr.mapUpdate, run_underlying hu, hm, run_getMap e1, run_checkKey hsh vx hko, a1, p1, Instr.keyThatStays, hbits, run_setMap _ e1, setMapK]
                · rw [if_neg hsame] at hv; simp at hv
        · rw [if_neg hkk] at hv; simp at hv
      · simp at hv
    · simp at hv
  unfold chkOp at hc
  split at hc <;> try (first | contradiction | (simp at hc; done))
  all_goals
    rename_i t u1 u2 u3 _ _ _ _ ho q
    cases q
    simp only [Bool.and_eq_true] at hc
    obtain ⟨⟨⟨q1, q2⟩, q3⟩, q4⟩ := hc
    split at q4
    · rename_i kt et hu
      exact fin t kt et u1 u2 u3 hu q4 q1 q2 q3 (fun w' hr => by simp [execOp, ho, hr])
    · simp at q4

theorem lookup_sound (hI : Inv Γ k) {a : Act} (hT : TR Γ k a.tmps) {o : Oper} {zero : AV} {sh : ESh} {ok : Bool} {x i : AOpd} {d : Option Nat} (hc : chkOp P d o.op (.lookup zero sh ok x i) = true) {v : AV} {ts : List AV} {h' : AHeap}
    (hv : memA (.lookup zero sh ok x i) k.s.t k.s.h = some (v, ts, h')) : MemPost P Γ k a o v ts h' := by
  have opd : ∀ {x : AOpd} {y : Operand}, chkOpd x y = true → FV Γ k (aev k.s.t x) (a.eval y) := fun h => opd_sound hI hT h
  unfold chkOp at hc
  split at hc <;> try (first | contradiction | (simp at hc; done))
  rename_i t u1 u2 okc _ _ _ _ _ ho q
  cases q
  simp only [Bool.and_eq_true, beq_iff_eq] at hc
  obtain ⟨⟨⟨q0, q1⟩, q2⟩, q4⟩ := hc
  subst q0
  split at q4
  · rename_i kt et hu
    simp only [Bool.and_eq_true] at q4
    obtain ⟨hsh, hz⟩ := q4
    obtain ⟨ti, z, hi, hzz, hzv⟩ : ∃ ti z, P.info? et = some ti ∧ ti.zero = some z ∧ chkCst zero z = true := by
      cases hi : P.info? et with
      | none => rw [hi] at hz; simp at hz
      | some ti =>
        rw [hi] at hz
        cases hzz : ti.zero with
        | none => simp [hzz] at hz
        | some z => simp [hzz] at hz; exact ⟨ti, z, rfl, hzz, hz⟩
    have vz : VK Γ k zero z := .pr _ _ (chkCst_sound _ _ zero z hzv)
    have fin : ∀ (es : List (AV × AV)) (ces : Array MapEntry), (a.eval u1 = .map none ∧ ces = #[] ∨ ∃ r clock, a.eval u1 = .map (some r) ∧ k.w.heap[r]? = some (.map ces clock)) → Ents Γ k es ces.toList →
        (lookA zero sh okc (aev k.s.t i) es).map (·, k.s.t, k.s.h) = some (v, ts, h') → MemPost P Γ k a o v ts h' := by
      intro es ces hm he hv
      simp only [Option.map_eq_some_iff] at hv
      obtain ⟨v', hl, hv⟩ := hv
      injection hv with e1 hv; injection hv with e2 e3
      subst e1; subst e2; subst e3
      have hki : keeps (aev k.s.t i) = true := by
        have hko : keyOk sh (aev k.s.t i) = true := by
          unfold lookA at hl
          by_cases h : keyOk sh (aev k.s.t i) = false
          · rw [if_pos h] at hl; simp at hl
          · simpa using h
        cases hx : aev k.s.t i <;> first | rfl | skip
        all_goals
          rw [hx] at hko
          unfold keyOk eqVal at hko
          cases sh <;> simp [shAgg, eqCells] at hko
      obtain ⟨cv, hr, hvv⟩ := look_sound (k := k) hu hsh hi hzz vz ((opd q2).keep hki) hm he hl
      exact MemPost.read hI hT (by simp [execOp, ho, hr]) hvv
    simp only [memA] at hv
    have b1 := opd q1
    split at hv
    · rename_i hb
      rw [hb] at b1
      exact fin [] #[] (.inl ⟨(b1.keep rfl).nilm, rfl⟩) trivial hv
    · rename_i b hb
      rw [hb] at b1
      obtain ⟨rr, hm, hbl, hr⟩ := (b1.keep rfl).mp
      split at hv
      · rename_i es he
        have := hr es he
        subst this
        obtain ⟨ces, clock, e1, e2, e3, e4⟩ := (hI.maps b es he).ents
        exact fin es ces (.inr ⟨_, clock, hm, e1⟩) e3 hv
      · simp at hv
    · simp at hv
  · simp at q4

theorem lenM_sound (hI : Inv Γ k) {a : Act} (hT : TR Γ k a.tmps) {o : Oper} {x : AOpd} {d : Option Nat} (hc : chkOp P d o.op (.lenM x) = true) {v : AV} {ts : List AV} {h' : AHeap}
    (hv : memA (.lenM x) k.s.t k.s.h = some (v, ts, h')) : MemPost P Γ k a o v ts h' := by
  unfold chkOp at hc
  split at hc <;> try (first | contradiction | (simp at hc; done))
  rename_i args argTypes _ ho q
  cases q
  simp only [Bool.and_eq_true] at hc
  obtain ⟨hargs, hc⟩ := hc
  obtain ⟨u, rfl, h1⟩ := one_arg hargs
  split at hc
  · rename_i kt et htu
    obtain ⟨t, ht, hu⟩ : ∃ t, argTypes[0]? = some t ∧ P.underlying t = some (.map kt et) := by
      cases h : argTypes[0]? with
      | none => rw [h] at htu; simp at htu
      | some t => rw [h] at htu; exact ⟨t, rfl, htu⟩
    have b1 := opd_sound hI hT h1
    have run : ∀ cu r, a.eval u = cu → (Builtin.len_ argTypes o.type #[cu]).run P k.w = .ok r k.w → (execOp a.eval o).run P k.w = .ok (.value r) k.w := by
      intro cu r he hr
      simp only [execOp, ho, resolve, invoke, builtin, Sem.run_bind, Sem.run_pure, Result.andThen_ok, List.map_toArray, List.map_cons, List.map_nil, he, hr]
    simp only [memA] at hv
    split at hv
    · rename_i hb
      rw [hb] at b1
      simp only [Option.some.injEq, Prod.mk.injEq] at hv
      obtain ⟨rfl, rfl, rfl⟩ := hv
      refine MemPost.read hI hT (run _ (.int .i64 0) (b1.keep rfl).nilm ?_) (.pr _ _ (.int _ _))
      simp [Builtin.len_, ht, run_underlying hu, goInt]
    · rename_i b hb
      rw [hb] at b1
      obtain ⟨rr, hm, hbl, hr⟩ := (b1.keep rfl).mp
      split at hv
      · rename_i es he
        have := hr es he
        subst this
        simp only [Option.some.injEq, Prod.mk.injEq] at hv
        obtain ⟨rfl, rfl, rfl⟩ := hv
        obtain ⟨ces, clock, e1, e2, e3, e4⟩ := (hI.maps b es he).ents
        refine MemPost.read hI hT (run _ (.int .i64 es.length) hm ?_) (.pr _ _ (.int _ _))
        simp [Builtin.len_, ht, run_underlying hu, goInt, run_getMap e1, e2]
      · simp at hv
    · simp at hv
  · simp at hc

theorem mkmap_sound (hI : Inv Γ k) {a : Act} (hT : TR Γ k a.tmps) {o : Oper} {d : Option Nat} (hc : chkOp P d o.op .mkmap = true) {v : AV} {ts : List AV} {h' : AHeap}
    (hv : memA .mkmap k.s.t k.s.h = some (v, ts, h')) : MemPost P Γ k a o v ts h' := by
  unfold chkOp at hc
  split at hc <;> try (first | contradiction | (simp at hc; done))
  rename_i t _ ho _
  simp only [memA, Option.some.injEq, Prod.mk.injEq] at hv
  obtain ⟨rfl, rfl, rfl⟩ := hv
  have g := Grow.addObj hI (.map []) 0 (.map #[] 0) (by simp)
  refine ⟨_, .map (some k.w.heap.size), _, _, ?_, .inl rfl, hI.addMap, g, GrowR.addObj _ _ _ _, hT.same g rfl rfl rfl, ?_⟩
  · simp [execOp, ho, Instr.makeMap, newObj]; rfl
  · refine VR.mp _ _ (by simp [memK]) fun es he => ?_
    simp only [memK, muSet_same]

theorem copy_sound (hI : Inv Γ k) {a : Act} (hT : TR Γ k a.tmps) {o : Oper} {esz : Nat} {x y : AOpd} {d : Option Nat} (hc : chkOp P d o.op (.copy esz x y) = true) {v : AV} {ts : List AV} {h' : AHeap}
    (hv : memA (.copy esz x y) k.s.t k.s.h = some (v, ts, h')) : MemPost P Γ k a o v ts h' := by
  unfold chkOp at hc
  split at hc <;> try (first | contradiction | (simp at hc; done))
  rename_i args argTypes _ _ _ ho q
  cases q
  simp only [Bool.and_eq_true] at hc
  obtain ⟨hargs, hc⟩ := hc
  obtain ⟨cd, cx, rfl, hd, hx⟩ := two_args hargs
  split at hc
  · rename_i e htu
    simp only [beq_iff_eq] at hc
    obtain ⟨t, ht, hu⟩ : ∃ t, argTypes[0]? = some t ∧ P.underlying t = some (.slice e) := by
      cases h : argTypes[0]? with
      | none => rw [h] at htu; simp at htu
      | some t =>
        rw [h] at htu
        simp only [Option.bind_some, elemOfSlice] at htu
        split at htu
        · rename_i e' he'
          injection htu with htu; subst htu
          exact ⟨t, rfl, he'⟩
        · simp at htu
    have fd := opd_sound hI hT hd
    have fx := opd_sound hI hT hx
    have run : ∀ cu r w', a.eval cd = cu → (Builtin.copy_ argTypes o.type #[cu, a.eval cx]).run P k.w = .ok r w' → (execOp a.eval o).run P k.w = .ok (.value r) w' := by
      intro cu r w' he hr
      simp only [execOp, ho, resolve, invoke, builtin, Sem.run_bind, Sem.run_pure, Result.andThen_ok, List.map_toArray, List.map_cons, List.map_nil, he, hr]
    simp only [memA] at hv
    split at hv
    · rename_i b ver off n esz' cap hb
      rw [hb] at fd
      split at hv
      · rename_i m from_ hmore
        obtain ⟨hnl, hlen, cnews, hcv, hfirst⟩ := more_sound (P := P) hI fx hmore
        split at hv
        · rename_i fz tag cells hrow
          have he := rowAt_some.1 hrow
          by_cases hcond : esz' = esz ∧ fz ≤ off ∧ min m n * esz ≤ from_.length ∧ off + min m n * esz ≤ cells.length ∧ from_.all oneCell = true
          · rw [if_pos hcond] at hv
            obtain ⟨c1, c2, c3, c4, c5⟩ := hcond
            subst c1
            simp only [Option.some.injEq, Prod.mk.injEq] at hv
            obtain ⟨rfl, rfl, rfl⟩ := hv
            obtain ⟨ad, cc, es, hk, hle, hcap, ha⟩ := (fd.keep rfl).sl
            obtain ⟨z1, z2⟩ := ha _ _ _ he
            have hr0 := hI.rows b ver _ _ cells he
            have hvs : VKs Γ k (from_.take (min m n * esz')) (cnews.take (min m n * esz')) := hcv.take _
            have hvl : (from_.take (min m n * esz')).length = min m n * esz' := by simp; omega
            obtain ⟨sI, sG⟩ := hI.setRow he off (from_.take (min m n * esz')) (cnews.take (min m n * esz')) c2 (by rw [hvl]; exact c4) hvs.1 hvs.2
            rw [show cells.take off ++ from_.take (min m n * esz') ++ cells.drop (off + min m n * esz') = patch cells off (from_.take (min m n * esz')) by unfold patch; rw [hvl]]
            have hone : ∀ c ∈ cnews.take (min m n * esz'), c.oneCell' = true := allOne hvs (by
              rw [List.all_eq_true] at c5 ⊢
              exact fun z hz => c5 z (List.mem_of_mem_take hz))
            have hstore : (storeCells ad (cnews.take (min m n * esz')) 0).run P k.w = .ok () (setCells k.w (k.μ b).g ((k.μ b).d + off) (cnews.take (min m n * esz'))) := by
              by_cases hc0 : cc = 0
              · have hn0 : n = 0 := by omega
                have : min m n * esz' = 0 := by rw [hn0]; simp
                rw [this]
                simp [storeCells, setCells]
              · have := z1 hc0
                subst this
                have hst := run_storeCells P ⟨(k.μ b).g, (k.μ b).d + off, none⟩ rfl (cnews.take (min m n * esz')) k.w 0 hone (fun j hj => by
                  rw [hvs.1, hvl] at hj
                  obtain ⟨cv, q, _⟩ := hr0.cell (off + j) (by omega)
                  exact ⟨cv, by rw [← q, Nat.add_zero, Nat.add_assoc]⟩) (fun j hj => by
                  rw [hvs.1, hvl] at hj
                  have := hr0.free (off + j) (by have := hr0.len; omega)
                  rw [← this, Nat.add_zero, Nat.add_assoc])
                simpa using hst
            refine ⟨_, .int .i64 (min m n : Nat), _, k.μ, run _ _ _ es ?_, .inl rfl, sI, sG, ⟨Nat.le_refl _, fun p st cells hp => .inl ⟨cells, hp, rfl⟩⟩, hT.same sG rfl rfl rfl, .pr _ _ (.int _ _)⟩
            have hmin : Nat.min m n = min m n := rfl
            have hf := hfirst (min m n) k.w (Nat.min_le_left _ _) (fun _ _ => rfl)
            simp [Builtin.copy_, ht, run_underlying hu, hlen, run_sizeOf hc, hmin, hf, hstore, goInt]
          · rw [if_neg hcond] at hv; simp at hv
        · simp at hv
      · simp at hv
    · rename_i hb
      rw [hb] at fd
      cases hmo : moreA esz k.s.h (aev k.s.t y) with
      | none => rw [hmo] at hv; simp at hv
      | some p =>
        obtain ⟨m, from_⟩ := p
        rw [hmo] at hv
        simp only [Option.isSome_some, if_true, Option.some.injEq, Prod.mk.injEq] at hv
        obtain ⟨rfl, rfl, rfl⟩ := hv
        obtain ⟨hnl, hlen, cnews, hcv, hfirst⟩ := more_sound (P := P) hI fx hmo
        refine MemPost.read hI hT (run _ (.int .i64 0) _ (fd.keep rfl).nils ?_) (.pr _ _ (.int _ _))
        have hmin : Nat.min m 0 = 0 := Nat.min_zero _
        have hf := hfirst 0 k.w (Nat.zero_le _) (fun _ _ => rfl)
        simp [Builtin.copy_, ht, run_underlying hu, hlen, run_sizeOf hc, hmin, hf, goInt]
    · simp at hv
  · simp at hc

/-- All operations on memory. -/
theorem mem_sound (hI : Inv Γ k) {a : Act} (hT : TR Γ k a.tmps) {o : Oper} {ao : AOp} {d : Option Nat} (hc : chkOp P d o.op ao = true) {v : AV} {ts : List AV} {h' : AHeap} (hv : memA ao k.s.t k.s.h = some (v, ts, h')) : MemPost P Γ k a o v ts h' := by
  by_cases hk : (match ao with | .lookup .. | .mapSet .. | .lenM _ | .mkmap | .copy .. | .append .. => false | _ => true) = true
  · exact mem_sound1 hI hT hc hv hk
  · cases ao <;> first | (simp at hk; done) | skip
    · exact mkmap_sound hI hT hc hv
    · exact lookup_sound hI hT hc hv
    · exact mapSet_sound hI hT hc hv
    · exact lenM_sound hI hT hc hv
    · exact append_sound hI hT hc hv
    · exact copy_sound hI hT hc hv
end
end Go.Abs

/- The abstract machine: one operation of a region, in the model. -/
namespace Go.Abs
open Go.RowKit

section
variable {Γ : Gh} {k k' : Kf} {P : Program}

theorem VK.bool_inv {v : AV} {b : Bool} (h : VK Γ k v (.bool b)) : v = .bool b := by
  cases h with
  | pr _ _ h => cases h; rfl

theorem FV.bool_inv {v : AV} {b : Bool} (h : FV Γ k v (.bool b)) : v = .bool b := by
  cases h with
  | vr _ _ h => exact h.bool_inv

def oDst (ops : Array Oper) (j : Nat) : Option Tmp := (ops[j]?).bind (·.dst)

theorem chkOpers_get {nt : Nat} : ∀ {l : List Oper} {al : List AOper}, chkOpers P nt l al = true → al.length = l.length ∧
    ∀ (j : Nat) (o : Oper), l[j]? = some o → ∃ ao : AOper, al[j]? = some ao ∧ chkOper P nt o ao = true
  | [], [], _ => ⟨rfl, fun j o h => by simp at h⟩
  | [], _ :: _, h => by simp [chkOpers] at h
  | _ :: _, [], h => by simp [chkOpers] at h
  | o :: l, ao :: al, h => by
    simp only [chkOpers, Bool.and_eq_true] at h
    obtain ⟨a, b⟩ := chkOpers_get h.2
    refine ⟨by simp [a], fun j o' hj => ?_⟩
    cases j with
    | zero => simp at hj; subst hj; exact ⟨ao, rfl, h.1⟩
    | succ j => simpa using b j o' (by simpa using hj)

theorem chkOper_spec {nt : Nat} {o : Oper} {ao : AOper} (h : chkOper P nt o ao = true) :
    o.dst = ao.dst ∧ o.guard = ao.guard ∧ (∀ d, ao.dst = some d → d < nt) ∧ chkOp P ao.dst o.op ao.op = true := by
  simp only [chkOper, Bool.and_eq_true, beq_iff_eq] at h
  obtain ⟨⟨⟨h1, h2⟩, h3⟩, h4⟩ := h
  refine ⟨h1, h2, fun d hd => ?_, h4⟩
  rw [hd] at h3
  simpa using h3

theorem yielded_eq {tmps : Array Value} (hT : TR Γ k tmps) {nt : Nat} {ops : Array Oper} {al : List AOper} (hc : chkOpers P nt ops.toList al = true) (j : Nat) :
    yielded ops tmps j = yieldedA al k.s.t j := by
  obtain ⟨hl, hg⟩ := chkOpers_get hc
  unfold yielded yieldedA
  have hd : (ops[j]?).bind (·.dst) = (al[j]?).bind (·.dst) := by
    cases ho : ops[j]? with
    | none =>
      have h1 : ops.size ≤ j := by simpa using ho
      have : al[j]? = none := by rw [List.getElem?_eq_none_iff, hl]; simpa using h1
      rw [this]; rfl
    | some o =>
      obtain ⟨ao, ha, hco⟩ := hg j o (by simpa using ho)
      rw [ha]
      exact (chkOper_spec hco).1
  rw [hd]
  cases (al[j]?).bind (·.dst) with
  | none => rfl
  | some d =>
    simp only [Option.bind_some]
    by_cases hds : d < tmps.size
    · have e1 : tmps[d]? = some (tmps.getD d undef) := by simp [hds]
      rw [e1]
      by_cases hr : ∀ st cells, tget k.s.t d ≠ .reg st cells
      · have hf := hT.val d hr
        generalize tmps.getD d undef = cv at hf
        split
        · rename_i b hb
          injection hb with hb; subst hb
          rw [hf.bool_inv]
        · rename_i hnb
          split
          · rename_i b hb
            rw [hb] at hf
            exact absurd (congrArg some hf.bool) (fun h => hnb b h)
          · rfl
      · have ⟨st, cells, he⟩ : ∃ st cells, tget k.s.t d = .reg st cells := Classical.byContradiction fun h => hr fun st cells he => h ⟨st, cells, he⟩
        rw [he, hT.reg d st cells he]
    · have e1 : tmps[d]? = none := by simp; omega
      rw [e1, tget_ge _ _ (by have := hT.len; omega)]
      rfl

theorem wanted_eq {tmps : Array Value} (hT : TR Γ k tmps) {nt : Nat} {ops : Array Oper} {al : List AOper} (hc : chkOpers P nt ops.toList al = true) {o : Oper} {ao : AOper} (hg : o.guard = ao.guard) :
    Region.wanted o (yielded ops tmps) = wantedA al k.s.t ao := by
  unfold Region.wanted wantedA
  rw [hg]
  cases ao.guard with
  | none => rfl
  | some p =>
    obtain ⟨j, want⟩ := p
    simp only
    rw [yielded_eq hT hc]

/-- What a call comes to. -/
def CallEnd (Γ : Gh) (k : Kf) (v : AV) (h' : AHeap) (cv : Value) (w' : World) : Prop :=
  ∃ μ', Inv Γ (memK k k.s.t h' μ' w') ∧ Grow Γ k (memK k k.s.t h' μ' w') ∧ VK Γ (memK k k.s.t h' μ' w') v cv

def CallRuns (P : Program) (f : FuncId) (cargs : Array Value) (w : World) (R : Value → World → Prop) : Prop :=
  ((callFunc f cargs).run P w = .ok (.enter f cargs) w ∧ Calls P f cargs w fun | .returned cv, w' => R cv w' | _, _ => False) ∨
    ∃ cv w', (callFunc f cargs).run P w = .ok (.value cv) w' ∧ R cv w'

/-- A call's abstract answer is true. -/
def CallOk (P : Program) (call : CallF) : Prop :=
  ∀ (Γ : Gh) (k : Kf) (f : FuncId) (args : List AV) (cargs : List Value) (v : AV) (h' : AHeap), Inv Γ k → VKs Γ k args cargs →
    call f args k.s.h = some (v, h') → CallRuns P f cargs.toArray k.w (CallEnd Γ k v h')

/-- One frame's state, from a first one on. -/
structure At (Γ : Gh) (k0 k : Kf) (a : Act) (nt : Nat) : Prop where
  inv : Inv Γ k
  tr : TR Γ k a.tmps
  grow : Grow Γ k0 k
  size : nt ≤ a.tmps.size
  defers : a.defers = []

theorem undef_FV : FV Γ k undefA undef := .vr _ _ undef_VK

theorem putA_put {k0 : Kf} {nt : Nat} {a : Act} (hA : At Γ k0 k a nt) {d : Option Nat} (hd : ∀ x, d = some x → x < nt) {v : AV} {cv : Value} (hv : ∀ st cells, v ≠ .reg st cells) (hf : FV Γ k v cv) :
    ∃ k', k'.s = ⟨putA d k.s.t v, k.s.h, k.s.c⟩ ∧ k'.w = k.w ∧ At Γ k0 k' (a.put d cv) nt := by
  cases d with
  | none => exact ⟨k, rfl, rfl, hA⟩
  | some x =>
    refine ⟨setT k x v, rfl, rfl, hA.inv.setT x v hv, ?_, hA.grow.trans (Grow.setT k x v hv), ?_, hA.defers⟩
    · exact hA.tr.setT x v cv (Nat.lt_of_lt_of_le (hd x rfl) hA.size) hv hf
    · simpa [Act.put] using hA.size

theorem run_callFunc_enter {f : FuncId} {fn : Func} (hf : P.funcs[f]? = some fn) (hb : fn.body.isNone = false) (hn : (fn.name == "runtime.NumGoroutine") = false) (args : Array Value) (w : World) :
    (callFunc f args).run P w = .ok (.enter f args) w := by
  simp only [callFunc, program, Sem.run_bind, Sem.run, Result.andThen_ok, hf, hn, hb]
  simp

theorem call_wp {o : Oper} {a : Act} {w : World} {f : FuncId} {cargs : Array Value} {R : Value → World → Prop} {K : Act → World → Prop} {Q : Exit → Act → World → Prop}
    (he : (execOp a.eval o).run P w = (callFunc f cargs).run P w) (hr : CallRuns P f cargs w R) (hK : ∀ cv w', R cv w' → K (a.put o.dst cv) w') : o.wp P a w K Q := by
  unfold Oper.wp
  rw [he]
  rcases hr with ⟨h1, h2⟩ | ⟨cv, w', h1, h2⟩
  · rw [h1, Oper.upon_enter]
    refine h2.mono fun e w' h => ?_
    cases e with
    | returned cv => exact hK cv w' h
    | panicked _ => exact h.elim
    | outgrown => exact h.elim
  · rw [h1, Oper.upon_value]
    exact hK cv w' h2

theorem reg_case {k0 : Kf} {a : Act} {nt : Nat} (hA : At Γ k0 k a nt) {d : Nat} (hd : d < nt) {cells : List AV} {cs : Array Value} {e : TypeId} (hv : VKs Γ k cells cs.toList) :
    ∃ k', k'.s = ⟨tset k.s.t d (.reg k.s.c cells), k.s.h, k.s.c + 1⟩ ∧ k'.w = k.w.alloc (.cells cs e (0, 0)) ∧ At Γ k0 k' (a.put (some d) (.pointer (some ⟨k.w.heap.size, 0, none⟩))) nt := by
  have hlen : cells.length ≤ cs.size := by have := hv.1; simp at this; omega
  have hI := hA.inv.newReg d cells cs e hlen (fun j hj => by
    have h1 := hv.2 j hj
    have : j < cs.size := by omega
    refine ⟨cs[j], by simp [this], ?_⟩
    rw [List.getD_eq_getElem?_getD] at h1
    simpa [List.getD_eq_getElem?_getD, this] using h1)
  exact ⟨newReg k d cells (.cells cs e (0, 0)), rfl, rfl, hI, hA.tr.newReg hA.inv d cells _ (Nat.lt_of_lt_of_le hd hA.size), hA.grow.trans (Grow.newReg hA.inv d cells _), by simpa [Act.put] using hA.size, hA.defers⟩

/-- The state behind an operation. -/
def nextSt (ao : AOper) (k : Kf) (v : AV) (t' : List AV) (h' : AHeap) : St := ⟨putA ao.dst t' v, h', nextC ao.op k.s.c⟩

theorem oper_pure {k0 : Kf} {a : Act} {nt : Nat} (hA : At Γ k0 k a nt) {o : Oper} {ao : AOper} (hc : chkOper P nt o ao = true) {v : AV} (hm : isMem ao.op = false) (h : pureA k.s.c ao.op k.s.t = some v)
    {K : Act → World → Prop} {Q : Exit → Act → World → Prop} (hK : ∀ (a' : Act) (k' : Kf), k'.s = nextSt ao k v k.s.t k.s.h → At Γ k0 k' a' nt → K a' k'.w) : o.wp P a k.w K Q := by
  obtain ⟨hd, hg, hdn, hop⟩ := chkOper_spec hc
  obtain ⟨cv, w', hr, hb, hcase⟩ := pure_sound hA.inv hA.tr hop h
  unfold Oper.wp
  rw [hr, Oper.upon_value]
  rw [hd]
  rcases hcase with ⟨hop2, cells, cs, e, rfl, rfl, rfl, hvk⟩ | hf
  · have hreg : isReg ao.op = true ∧ ao.dst.isSome = true := by
      have key : ∀ {reg : Bool} , (!reg || ao.dst.isSome) = true → reg = true → ao.dst.isSome = true := by
        intro reg h1 h2; subst h2; simpa using h1
      rcases hop2 with ⟨t, ho⟩ | ⟨t, x, ho⟩
      · rw [ho] at hop
        cases hao : ao.op <;> rw [hao] at hop h hm <;> first | (simp [chkOp] at hop; done) | (simp [pureA] at h; done) | skip
        rename_i reg tag zero
        simp only [chkOp, Bool.and_eq_true] at hop
        cases reg with
        | false => simp [isMem] at hm
        | true => exact ⟨rfl, key hop.2 rfl⟩
      · rw [ho] at hop
        cases hao : ao.op <;> rw [hao] at hop h hm <;> first | (simp [chkOp] at hop; done) | (simp [pureA] at h; done) | skip
        rename_i reg tag zero
        simp only [chkOp, Bool.and_eq_true] at hop
        cases reg with
        | false => simp [isMem] at hm
        | true => exact ⟨rfl, key hop.2 rfl⟩
    obtain ⟨d, hds⟩ := Option.isSome_iff_exists.1 hreg.2
    rw [hds]
    obtain ⟨k', e1, e2, e3⟩ := reg_case hA (hdn d hds) hvk (e := e)
    rw [← e2]
    refine hK _ k' ?_ e3
    rw [e1]
    simp [nextSt, hds, putA, nextC, hreg.1]
  · have hnreg : isReg ao.op = false := by
      cases hao : isReg ao.op with
      | false => rfl
      | true =>
        exfalso
        cases hx : ao.op <;> rw [hx] at hao h <;> first | (simp [isReg] at hao; done) | skip
        all_goals
          rename_i reg _ _
          cases reg with
          | false => simp [isReg] at hao
          | true =>
            simp only [pureA] at h
            first
              | (injection h with h; subst h; exact hf.not_reg)
              | (split at h
                 · injection h with h; subst h; exact hf.not_reg
                 · simp at h)
    have hA' : At Γ k0 { k with w := w' } a nt :=
      ⟨hA.inv.ext w' hb, hA.tr.ext w' hb hA.inv.size hA.inv.outer, hA.grow.trans (Grow.ext k w' hb hA.inv.size hA.inv.outer), hA.size, hA.defers⟩
    obtain ⟨k', e1, e2, e3⟩ := putA_put hA' hdn (fun st cells hv => by subst hv; exact hf.not_reg) hf
    have : w' = k'.w := e2.symm
    rw [this]
    refine hK _ k' ?_ e3
    rw [e1]
    simp [nextSt, nextC, hnreg]

theorem oper_mem {k0 : Kf} {a : Act} {nt : Nat} (hA : At Γ k0 k a nt) {o : Oper} {ao : AOper} (hc : chkOper P nt o ao = true) {v : AV} {t' : List AV} {h' : AHeap} (hm : isReg ao.op = false) (h : memA ao.op k.s.t k.s.h = some (v, t', h'))
    {K : Act → World → Prop} {Q : Exit → Act → World → Prop} (hK : ∀ (a' : Act) (k' : Kf), k'.s = nextSt ao k v t' h' → At Γ k0 k' a' nt → K a' k'.w) : o.wp P a k.w K Q := by
  obtain ⟨hd, hg, hdn, hop⟩ := chkOper_spec hc
  obtain ⟨nx, cv, w', μ', hr, hnx, hI, hG, hR, hT, hv⟩ := mem_sound hA.inv hA.tr hop h
  have hA' : At Γ k0 (memK k t' h' μ' w') a nt := ⟨hI, hT, hA.grow.trans hG, hA.size, hA.defers⟩
  have hfv : FV Γ (memK k t' h' μ' w') v cv := .vr _ _ hv
  obtain ⟨k', e1, e2, e3⟩ := putA_put hA' hdn (fun st cells hv => by subst hv; exact hfv.not_reg) hfv
  have hw : w' = k'.w := e2.symm
  have fin : K (a.put ao.dst cv) w' := by
    rw [hw]
    refine hK _ k' ?_ e3
    rw [e1]
    simp [nextSt, nextC, hm, memK]
  unfold Oper.wp
  rw [hr]
  rcases hnx with rfl | ⟨rfl, rfl⟩
  · rw [Oper.upon_value, hd]; exact fin
  · rw [Oper.upon_skip, hd]; exact fin

theorem oper_call {k0 : Kf} {a : Act} {nt : Nat} (hA : At Γ k0 k a nt) {o : Oper} {ao : AOper} (hc : chkOper P nt o ao = true) {call : CallF} (hcall : CallOk P call) {f : FuncId} {args : List AV} {cargs : List Value} (hv : VKs Γ k args cargs)
    (he : (execOp a.eval o).run P k.w = (callFunc f cargs.toArray).run P k.w) {v : AV} {h' : AHeap} (h : call f args k.s.h = some (v, h')) (hm : isReg ao.op = false)
    {K : Act → World → Prop} {Q : Exit → Act → World → Prop} (hK : ∀ (a' : Act) (k' : Kf), k'.s = nextSt ao k v k.s.t h' → At Γ k0 k' a' nt → K a' k'.w) : o.wp P a k.w K Q := by
  obtain ⟨hd, hg, hdn, hop⟩ := chkOper_spec hc
  refine call_wp he (hcall Γ k f args cargs v h' hA.inv hv h) fun cv w' ⟨μ', hI, hG, hvk⟩ => ?_
  have hA' : At Γ k0 (memK k k.s.t h' μ' w') a nt := ⟨hI, hA.tr.same hG rfl rfl rfl, hA.grow.trans hG, hA.size, hA.defers⟩
  have hfv : FV Γ (memK k k.s.t h' μ' w') v cv := .vr _ _ hvk
  obtain ⟨k', e1, e2, e3⟩ := putA_put hA' hdn (fun st cells hv => by subst hv; exact hfv.not_reg) hfv
  have hw : w' = k'.w := e2.symm
  rw [hd, hw]
  refine hK _ k' ?_ e3
  rw [e1]
  simp [nextSt, nextC, hm, memK]

theorem argsA_VKs {a : Act} (hI : Inv Γ k) (hT : TR Γ k a.tmps) {xs : List AOpd} {ys : List Operand} (h : chkOpds xs ys = true) (hk : (argsA k.s.t xs).all keeps = true) : VKs Γ k (argsA k.s.t xs) (ys.map a.eval) := by
  induction xs generalizing ys with
  | nil => cases ys with
    | nil => exact VKs.nil
    | cons _ _ => simp [chkOpds] at h
  | cons x xs ih => cases ys with
    | nil => simp [chkOpds] at h
    | cons y ys =>
      simp only [chkOpds, Bool.and_eq_true] at h
      simp only [argsA, List.map_cons, List.all_cons, Bool.and_eq_true] at hk
      exact VKs.cons ((opd_sound hI hT h.1).keep hk.1) (ih h.2 hk.2)

theorem oper_wp {k0 : Kf} {a : Act} {nt : Nat} (hA : At Γ k0 k a nt) {o : Oper} {ao : AOper} (hc : chkOper P nt o ao = true) {call : CallF} (hcall : CallOk P call) {C : Machine} {draw : Bool} {v : AV} {t' : List AV} {h' : AHeap}
    (h : operA C draw call k.s.c ao.op k.s.t k.s.h = some (v, t', h'))
    {K : Act → World → Prop} {Q : Exit → Act → World → Prop} (hK : ∀ (a' : Act) (k' : Kf), k'.s = nextSt ao k v t' h' → At Γ k0 k' a' nt → K a' k'.w) : o.wp P a k.w K Q := by
  obtain ⟨hd, hg, hdn, hop⟩ := chkOper_spec hc
  unfold operA at h
  split at h
  · rename_i f args hao
    by_cases hcond : ((argsA k.s.t args).all keeps && (!draw || C.mode f == .shared || C.mode f == .fresh || noRefs (argsA k.s.t args))) = true
    · rw [if_pos hcond] at h
      simp only [Option.map_eq_some_iff] at h
      obtain ⟨⟨v', h''⟩, hcl, h⟩ := h
      injection h with e1 h; injection h with e2 e3
      subst e1; subst e2; subst e3
      simp only [Bool.and_eq_true] at hcond
      rw [hao] at hop
      unfold chkOp at hop
      split at hop <;> try (first | contradiction | (simp at hop; done))
      rename_i c _ _ ho q
      cases q
      simp only [Bool.and_eq_true] at hop
      obtain ⟨h1, h2⟩ := hop
      have hvs := argsA_VKs hA.inv hA.tr h2 hcond.1
      split at h1
      · rename_i g hcal
        simp only [beq_iff_eq] at h1
        subst h1
        refine oper_call hA hc hcall hvs ?_ hcl (by rw [hao]; rfl) hK
        have : (c.args.map a.eval) = (c.args.toList.map a.eval).toArray := by apply Array.ext'; simp
        simp [execOp, ho, resolve, hcal, Act.eval, Deferred.ofValue, invoke, this]
      · simp at h1
    · rw [if_neg hcond] at h; simp at h
  · rename_i x args hao
    split at h
    · rename_i f caps hx
      by_cases hcond : ((argsA k.s.t args).all keeps && !draw) = true
      · rw [if_pos hcond] at h
        simp only [Option.map_eq_some_iff] at h
        obtain ⟨⟨v', h''⟩, hcl, h⟩ := h
        injection h with e1 h; injection h with e2 e3
        subst e1; subst e2; subst e3
        simp only [Bool.and_eq_true] at hcond
        rw [hao] at hop
        unfold chkOp at hop
        split at hop <;> try (first | contradiction | (simp at hop; done))
        rename_i c _ _ ho q
        cases q
        simp only [Bool.and_eq_true] at hop
        obtain ⟨h1, h2⟩ := hop
        have hvs := argsA_VKs hA.inv hA.tr h2 hcond.1
        split at h1
        · rename_i y hcal
          have hf := opd_sound hA.inv hA.tr h1
          rw [hx] at hf
          obtain ⟨ccaps, hcv, hcaps⟩ := (hf.keep rfl).func
          refine oper_call hA hc hcall (hvs.append hcaps) ?_ hcl (by rw [hao]; rfl) hK
          have : (c.args.map a.eval) ++ ccaps.toArray = (c.args.toList.map a.eval ++ ccaps).toArray := by apply Array.ext'; simp
          simp [execOp, ho, resolve, hcal, hcv, Deferred.ofValue, invoke, this]
        · simp at h1
      · rw [if_neg hcond] at h; simp at h
    · simp at h
  · by_cases hm : isMem ao.op = true
    · rw [if_pos hm] at h
      refine oper_mem hA hc ?_ h hK
      cases hao : ao.op <;> rw [hao] at hm <;> first | rfl | (simp [isMem] at hm; done) | skip
      all_goals
        rename_i reg _ _
        cases reg <;> first | rfl | (simp [isMem] at hm; done)
    · rw [if_neg hm] at h
      simp only [Option.map_eq_some_iff] at h
      obtain ⟨v', hp, h⟩ := h
      injection h with e1 h; injection h with e2 e3
      subst e1; subst e2; subst e3
      exact oper_pure hA hc (by simpa using hm) hp hK
end
end Go.Abs

/- The abstract machine: regions and code, in the model. -/
namespace Go.Abs
open Go.RowKit

section
variable {Γ : Gh} {P : Program}

def LoopWp (P : Program) (c : Code) (Q : Exit → Act → World → Prop) (a : Act) (w : World) : Prop :=
  ∀ (b : Frame) (k : List Item) (cs : List Frame), ∃ e a' w', Q e a' w' ∧ Arrives P (lone (b.at a (.code c :: .inLoop c :: k)) cs w) b k cs e a' w'

theorem LoopWp.wp {c : Code} {Q : Exit → Act → World → Prop} {a : Act} {w : World} (h : LoopWp P c Q a w) : (Code.loop c).wp P Q a w := by
  intro b k cs
  obtain ⟨e, a', w', hq, harr⟩ := h b k cs
  exact ⟨e, a', w', hq, .of_steps (.one step_loop) harr⟩

theorem LoopWp.round {c : Code} {Q : Exit → Act → World → Prop} {a : Act} {w : World} (h : c.wp P (Exit.then (LoopWp P c Q) Q) a w) : LoopWp P c Q a w := by
  intro b k cs
  obtain ⟨e, a₁, w₁, hq, harr⟩ := h b (.inLoop c :: k) cs
  cases e with
  | normal =>
    obtain ⟨e₂, a₂, w₂, hq₂, harr₂⟩ := hq b k cs
    exact ⟨e₂, a₂, w₂, hq₂, .of_steps (Steps.trans harr (.one step_inLoop)) harr₂⟩
  | exit id => exact ⟨_, a₁, w₁, hq, .pass (x := .inLoop c) rfl (fun _ _ => .inl (by simp)) harr⟩
  | goto l => exact ⟨_, a₁, w₁, hq, .pass (x := .inLoop c) rfl (fun _ _ => .inl (by simp)) harr⟩
  | ret => exact ⟨_, a₁, w₁, hq, .pass (x := .inLoop c) rfl (fun _ _ => .inl (by simp)) harr⟩
  | panic ch => exact ⟨_, a₁, w₁, hq, .pass (x := .inLoop c) rfl (fun _ _ => .inl (by simp)) harr⟩
  | outgrown => exact ⟨_, a₁, w₁, hq, .pass (x := .inLoop c) rfl (fun _ _ => .inl (by simp)) harr⟩

def exOf : AExit → Exit
  | .normal => .normal
  | .exit id => .exit id
  | .ret => .ret

/-- One operation of a region. -/
theorem op_wp {k0 k : Kf} {a : Act} {nt : Nat} (hA : At Γ k0 k a nt) {ops : Array Oper} {al : List AOper} (hcs : chkOpers P nt ops.toList al = true) {o : Oper} {ao : AOper} (hc : chkOper P nt o ao = true) {call : CallF} (hcall : CallOk P call) {C : Machine} {draw : Bool} {s' : St}
    (h : opA C draw call al ao k.s = some s') {K : Act → World → Prop} {Q : Exit → Act → World → Prop} (hK : ∀ (a' : Act) (k' : Kf), k'.s = s' → At Γ k0 k' a' nt → K a' k'.w) :
    if Region.wanted o (yielded ops a.tmps) then o.wp P a k.w K Q ∨ (o.asks P a k.w ∧ LetsOut Q) else K (a.put o.dst undef) k.w := by
  obtain ⟨hd, hg, hdn, hop⟩ := chkOper_spec hc
  rw [wanted_eq hA.tr hcs hg]
  unfold opA at h
  by_cases hw : wantedA al k.s.t ao = true
  · rw [if_pos hw] at h ⊢
    split at h
    · rename_i v t' h' ho
      injection h with h
      exact .inl (oper_wp hA hc hcall ho fun a' k' e1 e2 => hK a' k' (e1.trans h) e2)
    · simp at h
  · rw [if_neg hw] at h ⊢
    injection h with h
    obtain ⟨k', e1, e2, e3⟩ := putA_put hA hdn (v := undefA) (by intro st cells; simp [undefA]) undef_FV
    rw [hd, ← e2]
    exact hK _ k' (e1.trans h) e3

theorem ops_wp {k0 : Kf} {nt : Nat} {ops : Array Oper} {al : List AOper} (hcs : chkOpers P nt ops.toList al = true) {call : CallF} (hcall : CallOk P call) {C : Machine} {draw : Bool} {s' : St} {Q : Exit → Act → World → Prop}
    (hK : ∀ (a' : Act) (k' : Kf), k'.s = s' → At Γ k0 k' a' nt → Q .normal a' k'.w) :
    ∀ (m j : Nat) (k : Kf) (a : Act), j + m = al.length → At Γ k0 k a nt → opsA C draw call al (al.drop j) k.s = some s' → wpOps P ops Q (List.range' j m) a k.w := by
  intro m
  induction m with
  | zero =>
    intro j k a hj hA h
    rw [List.drop_eq_nil_of_le (by omega)] at h
    simp only [opsA, Option.some.injEq] at h
    exact hK a k h hA
  | succ m ih =>
    intro j k a hj hA h
    obtain ⟨hl, hg⟩ := chkOpers_get hcs
    have hjl : j < al.length := by omega
    have hjo : j < ops.size := by simpa [hl] using hjl
    obtain ⟨ao, hao, hc⟩ := hg j ops[j] (by simp [hjo])
    rw [List.drop_eq_getElem_cons hjl] at h
    have : al[j] = ao := by
      rw [List.getElem?_eq_getElem hjl] at hao
      exact Option.some.inj hao
    rw [this] at h
    simp only [opsA] at h
    split at h
    · rename_i s1 ho
      simp only [List.range'_succ, wpOps, Array.getElem?_eq_getElem hjo]
      exact op_wp hA hcs hc hcall ho fun a' k' e1 e2 => ih (j + 1) k' a' (by omega) e2 (by rw [e1]; exact h)
    · simp at h

theorem region_wp {k0 k : Kf} {a : Act} {nt : Nat} (hA : At Γ k0 k a nt) {id : Nat} {ops : Array Oper} {al : List AOper} (hcs : chkOpers P nt ops.toList al = true) {call : CallF} (hcall : CallOk P call) {C : Machine} {draw : Bool} {s' : St} {Q : Exit → Act → World → Prop}
    (h : opsA C draw call al al k.s = some s') (hK : ∀ (a' : Act) (k' : Kf), k'.s = s' → At Γ k0 k' a' nt → Q .normal a' k'.w) : (Code.region id ops false).wp P Q a k.w := by
  obtain ⟨hl, hg⟩ := chkOpers_get hcs
  refine wp_region ?_
  rw [List.range_eq_range']
  exact ops_wp hcs hcall hK ops.size 0 k a (by simp [hl]) hA (by simpa using h)

/-- Regions whose order is drawn: what is to be shown of them. -/
def DrawOk (P : Program) (C : Machine) (call : CallF) : Prop :=
  ∀ (Γ : Gh) (k0 k : Kf) (a : Act) (nt id : Nat) (ops : Array Oper) (al : List AOper) (s' : St) (Q : Exit → Act → World → Prop), At Γ k0 k a nt → chkOpers P nt ops.toList al = true → chkDraw P C.mode ops al = true →
    opsA C true call al al k.s = some s' → (∀ (a' : Act) (k' : Kf), k'.s = s' → At Γ k0 k' a' nt → Q .normal a' k'.w) → (Code.region id ops true).wp P Q a k.w

theorem exec_wp {k0 : Kf} {nt : Nat} {call : CallF} (hcall : CallOk P call) {C : Machine} (hdraw : DrawOk P C call) {n : Nat} :
    ∀ (ac : ACode) (c : Code) (k : Kf) (a : Act) (x : AExit) (s' : St) (Q : Exit → Act → World → Prop), chkCode P C.mode nt c ac = true → At Γ k0 k a nt → execA C call n ac k.s = some (x, s') →
      (∀ (a' : Act) (k' : Kf), k'.s = s' → At Γ k0 k' a' nt → Q (exOf x) a' k'.w) → c.wp P Q a k.w := by
  intro ac
  induction ac with
  | skip =>
    intro c k a x s' Q hc hA h hK
    cases c <;> try (simp [chkCode] at hc; done)
    simp only [execA, Option.some.injEq, Prod.mk.injEq] at h
    obtain ⟨rfl, h⟩ := h
    exact wp_skip (hK a k h hA)
  | region d al =>
    intro c k a x s' Q hc hA h hK
    cases c <;> try (simp [chkCode] at hc; done)
    rename_i id ops draw
    simp only [chkCode, Bool.and_eq_true, beq_iff_eq] at hc
    obtain ⟨⟨hd, hcs⟩, hdr⟩ := hc
    subst hd
    simp only [execA, Option.map_eq_some_iff, Prod.mk.injEq] at h
    obtain ⟨s1, h, rfl, rfl⟩ := h
    cases draw with
    | false => exact region_wp hA hcs hcall h hK
    | true => exact hdraw Γ k0 k a nt id ops al _ Q hA hcs (by simpa using hdr) h hK
  | seq x1 y1 ih1 ih2 =>
    intro c k a x s' Q hc hA h hK
    cases c <;> try (simp [chkCode] at hc; done)
    simp only [chkCode, Bool.and_eq_true] at hc
    simp only [execA] at h
    refine wp_seq ?_
    split at h
    · rename_i s1 h1
      exact ih1 _ k a .normal s1 _ hc.1 hA h1 fun a1 k1 e1 hA1 => ih2 _ k1 a1 x s' Q hc.2 hA1 (by rw [e1]; exact h) hK
    · rename_i r hne
      refine ih1 _ k a x s' _ hc.1 hA h fun a1 k1 e1 hA1 => ?_
      cases x with
      | normal => exact absurd h (hne _)
      | exit i => exact hK a1 k1 e1 hA1
      | ret => exact hK a1 k1 e1 hA1
  | cond c1 x1 y1 ih1 ih2 =>
    intro c k a x s' Q hc hA h hK
    cases c <;> try (simp [chkCode] at hc; done)
    simp only [chkCode, Bool.and_eq_true] at hc
    obtain ⟨⟨h1, h2⟩, h3⟩ := hc
    have b := opd_sound hA.inv hA.tr h1
    simp only [execA] at h
    split at h
    · rename_i hb
      rw [hb] at b
      exact wp_cond_true b.bool (ih1 _ k a x s' Q h2 hA h hK)
    · rename_i hb
      rw [hb] at b
      exact wp_cond_false b.bool (ih2 _ k a x s' Q h3 hA h hK)
    · simp at h
  | block id x1 ih =>
    intro c k a x s' Q hc hA h hK
    cases c <;> try (simp [chkCode] at hc; done)
    rename_i idc body
    simp only [chkCode, Bool.and_eq_true, beq_iff_eq] at hc
    obtain ⟨hid, hc⟩ := hc
    subst hid
    simp only [execA] at h
    refine wp_block ?_
    split at h
    · rename_i i s1 h1
      injection h with h; injection h with e1 e2
      subst e1; subst e2
      refine ih _ k a (.exit i) _ _ hc hA h1 fun a1 k1 e1 hA1 => ?_
      simp only [exOf, Exit.inBlock]
      by_cases hi : i = idc
      · rw [if_pos hi]
        have := hK a1 k1 e1 hA1
        rw [if_pos hi] at this
        exact this
      · rw [if_neg hi]
        have := hK a1 k1 e1 hA1
        rw [if_neg hi] at this
        exact this
    · rename_i r hne
      refine ih _ k a x s' _ hc hA h fun a1 k1 e1 hA1 => ?_
      cases x with
      | normal => exact hK a1 k1 e1 hA1
      | exit i => exact absurd h (hne i s')
      | ret => exact hK a1 k1 e1 hA1
  | loop x1 ih =>
    intro c k a x s' Q hc hA h hK
    cases c <;> try (simp [chkCode] at hc; done)
    rename_i c
    simp only [chkCode] at hc
    simp only [execA] at h
    have key : ∀ (m : Nat) (k : Kf) (a : Act), At Γ k0 k a nt → iterA (execA C call n x1) m k.s = some (x, s') → LoopWp P c Q a k.w := by
      intro m
      induction m with
      | zero => intro k a _ h; simp [iterA] at h
      | succ m ihm =>
        intro k a hA h
        simp only [iterA] at h
        refine LoopWp.round ?_
        split at h
        · rename_i s1 h1
          exact ih _ k a .normal s1 _ hc hA h1 fun a1 k1 e1 hA1 => ihm k1 a1 hA1 (by rw [e1]; exact h)
        · rename_i r hne
          refine ih _ k a x s' _ hc hA h fun a1 k1 e1 hA1 => ?_
          cases x with
          | normal => exact absurd h (hne _)
          | exit i => exact hK a1 k1 e1 hA1
          | ret => exact hK a1 k1 e1 hA1
    exact (key n k a hA h).wp
  | exit id =>
    intro c k a x s' Q hc hA h hK
    cases c <;> try (simp [chkCode] at hc; done)
    simp only [chkCode, beq_iff_eq] at hc
    subst hc
    simp only [execA, Option.some.injEq, Prod.mk.injEq] at h
    obtain ⟨rfl, h⟩ := h
    exact wp_exit (hK a k h hA)
  | ret =>
    intro c k a x s' Q hc hA h hK
    cases c <;> try (simp [chkCode] at hc; done)
    simp only [execA, Option.some.injEq, Prod.mk.injEq] at h
    obtain ⟨rfl, h⟩ := h
    exact wp_ret (hK a k h hA)
  | bad =>
    intro c k a x s' Q hc hA h hK
    simp [execA] at h
end
end Go.Abs

/- The abstract machine: calls. What a function's abstract run answers is what the model's call returns. -/
namespace Go.Abs
open Go.RowKit

section
variable {P : Program}

/-- A frame that begins. -/
def enterK (args : List AV) (h : AHeap) (μ : Nat → Place) (w : World) : Kf := ⟨⟨args, h, 0⟩, fun _ => 0, μ, w⟩

/-- A function's run. -/
def RawOk (P : Program) (raw : CallF) : Prop :=
  ∀ (Γ : Gh) (h : AHeap) (μ : Nat → Place) (w : World) (f : FuncId) (args : List AV) (cargs : List Value) (v : AV) (h' : AHeap), Inv Γ (enterK args h μ w) → VKs Γ (enterK args h μ w) args cargs →
    raw f args h = some (v, h') → CallRuns P f cargs.toArray w (fun cv w' => ∃ k', k'.s.h = h' ∧ k'.w = w' ∧ Inv Γ k' ∧ Grow Γ (enterK args h μ w) k' ∧ VK Γ k' v cv)

/-- A function of the library: its answer made of what nobody writes. -/
def PrimOk (P : Program) (f : FuncId) (g : List AV → Option AV) : Prop :=
  ∀ (w : World) (I : Cells) (as : List AV) (cargs : List Value) (v : AV), (∀ g j, I g j → g < w.heap.size) → cargs.length = as.length → (∀ j, j < as.length → PR w I (as.getD j undefA) (cargs.getD j undef)) → g as = some v →
    CallRuns P f cargs.toArray w (fun cv w' => Below w.heap.size w w' ∧ PR w' (fun g j => I g j ∨ (w.heap.size ≤ g ∧ g < w'.heap.size)) v cv)

structure COk (P : Program) (C : Machine) : Prop where
  funcs : ∀ f fa, C.funcs f = some fa → ∃ fn, P.funcs[f]? = some fn ∧ chkFunc P C.mode fn fa = true ∧ (fn.name == "runtime.NumGoroutine") = false
  prims : ∀ f g, C.prim f = some g → PrimOk P f g

theorem CallRuns.mono {f : FuncId} {cargs : Array Value} {w : World} {R R' : Value → World → Prop} (h : CallRuns P f cargs w R) (hr : ∀ cv w', R cv w' → R' cv w') : CallRuns P f cargs w R' := by
  rcases h with ⟨h1, h2⟩ | ⟨cv, w', h1, h2⟩
  · refine .inl ⟨h1, h2.mono fun e w' he => ?_⟩
    cases e with
    | returned cv => exact hr _ _ he
    | panicked _ => exact he.elim
    | outgrown => exact he.elim
  · exact .inr ⟨cv, w', h1, hr _ _ h2⟩

theorem tget_getD : ∀ (l : List AV) (i : Nat), tget l i = l.getD i undefA
  | [], i => by simp [tget]
  | v :: l, 0 => by simp [tget]
  | v :: l, i + 1 => by simp only [tget, List.getD_cons_succ]; exact tget_getD l i

theorem enter_noReg {Γ : Gh} {k : Kf} {args : List AV} {cargs : List Value} (hv : VKs Γ k args cargs) (i : Nat) (st : Nat) (cells : List AV) : tget args i ≠ .reg st cells := by
  intro h
  have hlt : i < args.length := by
    rcases Nat.lt_or_ge i args.length with h1 | h1
    · exact h1
    · rw [tget_ge _ _ h1] at h; simp [undefA] at h
  have := hv.2 i hlt
  rw [show args.getD i undefA = tget args i from (tget_getD _ _).symm, h] at this
  exact this.not_reg

/-! ### in the same memory -/
def Gh.sub (Γ : Gh) (k : Kf) : Gh := { Γ with X := fun g => Γ.X g ∨ IsReg k g }

theorem enter_imm {Γ : Gh} {k : Kf} {args : List AV} (hn : ∀ i st cells, tget args i ≠ .reg st cells) {g j : Nat} (h : Imm Γ k g j) : Imm (Γ.sub k) (enterK args k.s.h k.μ k.w) g j :=
  ⟨h.1, h.2.1, fun hx => hx.elim h.2.2.1 h.2.2.2.1, fun ⟨p, st, cells, he, _⟩ => hn p st cells he, h.2.2.2.2⟩

theorem VR.mono {h : AHeap} {μ : Nat → Place} {w : World} {I I' : Cells} (hI : ∀ g j, I g j → I' g j) {v : AV} {cv : Value} (hv : VR h μ w I v cv) : VR h μ w I' v cv := by
  induction hv with
  | pr v cv hp => exact .pr _ _ (hp.mono fun g j hg => ⟨hI g j hg, rfl⟩)
  | ptr b ver off a hk ha => exact .ptr b ver off a hk ha
  | sl b ver off len esz cap a c hk hlen hcap ha => exact .sl b ver off len esz cap a c hk hlen hcap ha
  | mp b r hb hr => exact .mp b r hb hr
  | func f caps cvs hl _ ih => exact .func f caps cvs hl ih
  | iface t v cv _ ih => exact .iface t v cv ih
  | agg cells cvs hl _ ih => exact .agg cells cvs hl ih
  | tuple cells cvs hl _ ih => exact .tuple cells cvs hl ih

theorem enter_VK {Γ : Gh} {k : Kf} {args : List AV} (hn : ∀ i st cells, tget args i ≠ .reg st cells) {v : AV} {cv : Value} (h : VK Γ k v cv) : VK (Γ.sub k) (enterK args k.s.h k.μ k.w) v cv :=
  VR.mono (fun g j hg => enter_imm hn hg) h

theorem enter_inv {Γ : Gh} {k : Kf} (hI : Inv Γ k) {args : List AV} (hn : ∀ i st cells, tget args i ≠ .reg st cells) : Inv (Γ.sub k) (enterK args k.s.h k.μ k.w) := by
  refine ⟨hI.size, fun g hg => hg.elim (hI.outer g) (fun h => hI.isReg_lt h), fun b ver fz tag cells he => ?_, fun b es he => ?_, hI.inj, fun p st cells he => absurd he (hn p st cells), fun p st cells q st' cells' he => absurd he (hn p st cells)⟩
  · have h := hI.rows b ver fz tag cells he
    refine ⟨h.base, fun hx => hx.elim h.notX h.notReg, fun ⟨p, st, cells, he, _⟩ => hn p st cells he, h.len, h.block, h.free, fun j hj => ?_⟩
    obtain ⟨cv, h1, h2⟩ := h.cell j hj
    exact ⟨cv, h1, enter_VK hn h2⟩
  · have h := hI.maps b es he
    refine ⟨h.base, fun hx => hx.elim h.notX h.notReg, fun ⟨p, st, cells, he, _⟩ => hn p st cells he, ?_⟩
    obtain ⟨ces, clock, h1, h2, h3⟩ := h.block
    refine ⟨ces, clock, h1, h2, fun j hj => ?_⟩
    obtain ⟨e, p1, p2, p3⟩ := h3 j hj
    exact ⟨e, p1, enter_VK hn p2, enter_VK hn p3⟩

/-- .. and back. -/
theorem leave_imm {Γ : Gh} {k k' : Kf} {g j : Nat} (h : Imm (Γ.sub k) k' g j) : Imm Γ (memK k k.s.t k'.s.h k'.μ k'.w) g j :=
  ⟨h.1, h.2.1, fun hx => h.2.2.1 (.inl hx), fun hr => h.2.2.1 (.inr hr), h.2.2.2.2⟩

theorem leave {Γ : Gh} {k k' : Kf} (hI : Inv Γ k) {args : List AV} (hn : ∀ i st cells, tget args i ≠ .reg st cells) (hI' : Inv (Γ.sub k) k') (hG : Grow (Γ.sub k) (enterK args k.s.h k.μ k.w) k') :
    Inv Γ (memK k k.s.t k'.s.h k'.μ k'.w) ∧ Grow Γ k (memK k k.s.t k'.s.h k'.μ k'.w) := by
  have hvk : ∀ {v cv}, VK (Γ.sub k) k' v cv → VK Γ (memK k k.s.t k'.s.h k'.μ k'.w) v cv := fun h => VR.mono (fun g j hg => leave_imm hg) h
  have g : Grow Γ k (memK k k.s.t k'.s.h k'.μ k'.w) := by
    refine ⟨hG.os, hG.tape, hG.output, hG.size, hG.old, fun x hx => hG.xs x (.inl hx), fun x j h => ?_, hG.len, hG.row, hG.map⟩
    obtain ⟨a, b⟩ := hG.imm x j (enter_imm hn h)
    exact ⟨leave_imm a, b⟩
  refine ⟨⟨hI'.size, fun x hx => hI'.outer x (.inl hx), fun b ver fz tag cells he => ?_, fun b es he => ?_, hI'.inj, fun p st cells he => ?_, hI.rinj⟩, g⟩
  · have h := hI'.rows b ver fz tag cells he
    refine ⟨h.base, fun hx => h.notX (.inl hx), fun hr => h.notX (.inr hr), h.len, h.block, h.free, fun j hj => ?_⟩
    obtain ⟨cv, h1, h2⟩ := h.cell j hj
    exact ⟨cv, h1, hvk h2⟩
  · have h := hI'.maps b es he
    refine ⟨h.base, fun hx => h.notX (.inl hx), fun hr => h.notX (.inr hr), ?_⟩
    obtain ⟨ces, clock, h1, h2, h3⟩ := h.block
    refine ⟨ces, clock, h1, h2, fun j hj => ?_⟩
    obtain ⟨e, p1, p2, p3⟩ := h3 j hj
    exact ⟨e, p1, hvk p2, hvk p3⟩
  · exact (hI.regs p st cells he).grow g ⟨Nat.le_refl _, fun _ _ cells he => .inl ⟨cells, he, rfl⟩⟩ rfl (hG.xs _ (.inr ⟨p, st, cells, he, rfl⟩))

/-! ### in a memory of its own -/
def Gh.own (Γ : Gh) (k : Kf) : Gh := ⟨k.w.heap.size, Imm Γ k, fun _ => False⟩

theorem own_inv {Γ : Gh} {k : Kf} {as : List AV} (hn : ∀ i st cells, tget as i ≠ .reg st cells) : Inv (Γ.own k) (enterK as [] (fun _ => ⟨0, 0, 0⟩) k.w) :=
  ⟨Nat.le_refl _, fun _ h => h.elim, fun b ver fz tag cells he => by simp [enterK] at he, fun b es he => by simp [enterK] at he, fun b b' hb => by simp [Live, enterK] at hb, fun p st cells he => absurd he (hn p st cells), fun p st cells q st' cells' he => absurd he (hn p st cells)⟩

theorem own_imm {Γ : Gh} {k : Kf} {as : List AV} (hn : ∀ i st cells, tget as i ≠ .reg st cells) {g j : Nat} (h : Imm Γ k g j) : Imm (Γ.own k) (enterK as [] (fun _ => ⟨0, 0, 0⟩) k.w) g j :=
  ⟨h.1, fun _ => h, fun hx => hx, fun ⟨p, st, cells, he, _⟩ => hn p st cells he, fun b ver fz tag cells he => by simp [enterK] at he⟩

theorem own_below {Γ : Gh} {k k' : Kf} {as : List AV} (hG : Grow (Γ.own k) (enterK as [] (fun _ => ⟨0, 0, 0⟩) k.w) k') : Below k.w.heap.size k.w k'.w :=
  ⟨hG.os, hG.tape, hG.output, hG.size, fun g hg => hG.old g hg⟩

/-- Cells that a call of its own has made are nobody else's. -/
theorem own_new {Γ : Gh} {k : Kf} (hI : Inv Γ k) {w' : World} (hb : Below k.w.heap.size k.w w') {g j : Nat} (h1 : k.w.heap.size ≤ g) (h2 : g < w'.heap.size) : Imm Γ { k with w := w' } g j := by
  refine ⟨h2, fun hB => absurd hI.size (by omega), fun hx => absurd (hI.outer g hx) (by omega), fun hr => ?_, fun b ver fz tag cells he hm => ?_⟩
  · have : IsReg k g := hr
    exact absurd (hI.isReg_lt this) (by omega)
  · have := hI.live_lt (live_row he)
    have hm' : (k.μ b).g = g := hm
    omega

theorem own_old {Γ : Gh} {k : Kf} (hI : Inv Γ k) {w' : World} (hb : Below k.w.heap.size k.w w') {g j : Nat} (h : Imm Γ k g j) : Imm Γ { k with w := w' } g j :=
  ((Grow.ext k w' hb hI.size hI.outer).imm g j h).1

theorem own_all {Γ : Gh} {k k' : Kf} (hI : Inv Γ k) (hb : Below k.w.heap.size k.w k'.w) {g j : Nat} (h : Imm (Γ.own k) k' g j) : Imm Γ { k with w := k'.w } g j := by
  rcases Nat.lt_or_ge g k.w.heap.size with hg | hg
  · exact own_old hI hb (h.2.1 hg)
  · exact own_new hI hb hg h.1

theorem own_res {Γ : Gh} {k k' : Kf} (hI : Inv Γ k) (hI' : Inv (Γ.own k) k') (hb : Below k.w.heap.size k.w k'.w) {r v : AV} {cv : Value} (hv : VK (Γ.own k) k' r cv) (hr : res depth k'.s.h r = some v) :
    PR k'.w (Imm Γ { k with w := k'.w }) v cv := by
  refine res_sound hI' _ (fun g j h => own_all hI hb h) (fun _ _ => True) (fun b ver fz tag cells j he hj _ => ?_) depth r v cv hv hr (Tch.all _ (fun _ _ => trivial) _ _ _)
  have hrow := hI'.rows b ver fz tag cells he
  exact own_new hI hb hrow.base hrow.lt
end
end Go.Abs

/- The abstract machine: calls out of a running one; a machine's runs are true. -/
namespace Go.Abs
open Go.RowKit

section
variable {P : Program} {Γ : Gh} {k k' : Kf}

/-- A row that a call has made becomes the caller's. -/
def adoptK (k : Kf) (w' : World) (pl : Place) (tag : Nat) (cells : List AV) : Kf :=
  { s := { k.s with h := k.s.h ++ [.row 0 0 tag cells] }, ρ := k.ρ, μ := muSet k.μ k.s.h.length pl, w := w' }

theorem Grow.adopt (hI : Inv Γ k) (w' : World) (hb : Below k.w.heap.size k.w w') (pl : Place) (tag : Nat) (cells : List AV) (hg : k.w.heap.size ≤ pl.g) : Grow Γ k (adoptK k w' pl tag cells) := by
  refine ⟨hb.os, hb.tape, hb.output, hb.size, fun g hg => hb.block g (Nat.lt_of_lt_of_le hg hI.size), fun g hg => hb.block g (hI.outer g hg), fun g j h => ⟨⟨Nat.lt_of_lt_of_le h.1 hb.size, h.2.1, h.2.2.1, h.2.2.2.1, fun b ver fz tag cells he hm => ?_⟩, ?_⟩,
    by simp [Abs.adoptK], fun b ver fz tag cells hl he => ?_, fun b es hl he => ?_⟩
  · simp only [Abs.adoptK] at he hm ⊢
    by_cases hbl : b < k.s.h.length
    · rw [getD_append_left' _ _ _ _ hbl] at he
      rw [muSet_ne _ _ _ _ (by omega)] at hm ⊢
      exact h.2.2.2.2 b ver fz tag cells he hm
    · have hlt := row_lt he
      simp at hlt
      have : b = k.s.h.length := by omega
      subst this
      rw [muSet_same] at hm
      have := h.1
      omega
  · exact cell?_of_heap (a := ⟨g, j, none⟩) (hb.block g h.1)
  · simp only [Abs.adoptK] at he ⊢
    rw [getD_append_left' _ _ _ _ hl] at he
    exact ⟨ver, fz, tag, cells, he, Nat.le_refl _, fun _ => muSet_ne _ _ _ _ (by omega)⟩
  · simp only [Abs.adoptK] at he ⊢
    rw [getD_append_left' _ _ _ _ hl] at he
    exact ⟨es, he, muSet_ne _ _ _ _ (by omega)⟩

theorem Inv.adopt (hI : Inv Γ k) (w' : World) (hb : Below k.w.heap.size k.w w') (pl : Place) (tag : Nat) (cells : List AV) (hg : k.w.heap.size ≤ pl.g) (hl : cells.length ≤ pl.n)
    (hblock : ∃ c e fr, w'.heap[pl.g]? = some (.cells c e fr) ∧ pl.d + pl.n ≤ c.size) (hfree : ∀ j, j < pl.n → w'.frozen? ⟨pl.g, pl.d + j, none⟩ = false)
    (hc : ∀ j, j < cells.length → ∃ cv, w'.cell? ⟨pl.g, pl.d + j, none⟩ = some cv ∧ VK Γ (adoptK k w' pl tag cells) (cells.getD j undefA) cv) : Inv Γ (adoptK k w' pl tag cells) := by
  have g := Grow.adopt hI w' hb pl tag cells hg
  have r : GrowR k (adoptK k w' pl tag cells) := ⟨Nat.le_refl _, fun _ _ cells he => .inl ⟨cells, he, rfl⟩⟩
  have hold : ∀ b, b < k.s.h.length → (adoptK k w' pl tag cells).μ b = k.μ b := fun b hb => muSet_ne _ _ _ _ (by omega)
  refine ⟨Nat.le_trans hI.size hb.size, fun x hx => Nat.lt_of_lt_of_le (hI.outer x hx) hb.size, fun b ver fz tag' cells' he => ?_, fun b es he => ?_, fun b b' hb1 hb2 hm => ?_, fun p st cells he => ?_, hI.rinj⟩
  · by_cases hbl : b < k.s.h.length
    · have he' : k.s.h.getD b .dead = .row ver fz tag' cells' := by simp only [Abs.adoptK] at he; rwa [getD_append_left' _ _ _ _ hbl] at he
      have h := hI.rows b ver fz tag' cells' he'
      exact h.grow g (hold b hbl) (hb.block _ h.lt) h.notReg
    · have hlt := row_lt he
      simp [Abs.adoptK] at hlt
      have hbe : b = k.s.h.length := by omega
      subst hbe
      simp only [Abs.adoptK] at he
      rw [getD_append_mid] at he
      obtain ⟨rfl, rfl, rfl, rfl⟩ : ver = 0 ∧ fz = 0 ∧ tag' = tag ∧ cells' = cells := by injection he with a b c d; exact ⟨a.symm, b.symm, c.symm, d.symm⟩
      have hμ : (adoptK k w' pl tag' cells').μ k.s.h.length = pl := muSet_same _ _ _
      refine ⟨by rw [hμ]; exact Nat.le_trans hI.size hg, by rw [hμ]; intro hx; have := hI.outer _ hx; omega, by rw [hμ]; intro hx; have := hI.isReg_lt (show IsReg k pl.g from hx); omega, by rw [hμ]; exact hl, ?_, ?_, ?_⟩
      · rw [hμ]; exact hblock
      · rw [hμ]; exact hfree
      · rw [hμ]; exact hc
  · have hlt := map_lt he
    simp [Abs.adoptK] at hlt
    have hbl : b < k.s.h.length := by
      rcases Nat.lt_or_ge b k.s.h.length with h | h
      · exact h
      · have : b = k.s.h.length := by omega
        subst this
        simp only [Abs.adoptK] at he
        rw [getD_append_mid] at he
        cases he
    have he' : k.s.h.getD b .dead = .map es := by simp only [Abs.adoptK] at he; rwa [getD_append_left' _ _ _ _ hbl] at he
    have h := hI.maps b es he'
    exact h.grow g (hold b hbl) (hb.block _ h.lt) h.notReg
  · have key : ∀ b, Live (k.s.h ++ [AObj.row 0 0 tag cells]) b → b < k.s.h.length ∧ Live k.s.h b ∨ b = k.s.h.length := by
      intro b hl
      have hlt := lt_of_getD_ne _ _ _ hl
      simp at hlt
      by_cases hbl : b < k.s.h.length
      · refine .inl ⟨hbl, ?_⟩
        unfold Live at hl ⊢
        rwa [getD_append_left' _ _ _ _ hbl] at hl
      · exact .inr (by omega)
    simp only [Abs.adoptK] at hm
    rcases key b hb1 with ⟨h1, l1⟩ | rfl <;> rcases key b' hb2 with ⟨h2, l2⟩ | rfl
    · rw [muSet_ne _ _ _ _ (by omega), muSet_ne _ _ _ _ (by omega)] at hm
      exact hI.inj b b' l1 l2 hm
    · rw [muSet_ne _ _ _ _ (by omega), muSet_same] at hm
      have := hI.live_lt l1
      omega
    · rw [muSet_same, muSet_ne _ _ _ _ (by omega)] at hm
      have := hI.live_lt l2
      omega
    · rfl
  · have h := hI.regs p st cells he
    exact h.grow g r rfl (hb.block _ h.lt)

theorem PRs_noReg {w : World} {I : Cells} {as : List AV} {cargs : List Value} (hl : cargs.length = as.length) (h : ∀ j, j < as.length → PR w I (as.getD j undefA) (cargs.getD j undef)) (i st : Nat) (cells : List AV) : tget as i ≠ .reg st cells := by
  intro he
  have hlt : i < as.length := by
    rcases Nat.lt_or_ge i as.length with h1 | h1
    · exact h1
    · rw [tget_ge _ _ h1] at he; simp [undefA] at he
  have := h i hlt
  rw [← tget_getD, he] at this
  cases this

theorem norms_map : ∀ l : List AV, norms l = l.map norm
  | [] => rfl
  | v :: l => by simp [norms, norms_map l]
theorem norms_length (l : List AV) : (norms l).length = l.length := by simp [norms_map]
theorem norms_getD (l : List AV) {j : Nat} (h : j < l.length) : (norms l).getD j undefA = norm (l.getD j undefA) := by
  simp [norms_map, List.getD_eq_getElem?_getD, h]

theorem PR.norm {w : World} {I : Cells} {v : AV} {cv : Value} (h : PR w I v cv) : PR w I (norm v) cv := by
  induction h with
  | bool b => exact .bool b
  | int k n => exact .int k n
  | str l => exact .str l
  | nilp => exact .nilp
  | pp cells a cvs hs hc hr ih =>
    refine .pp (norms cells) a cvs (fun hne => hs (fun he => hne (by rw [he]; rfl))) (fun j hj => hc j (by rwa [norms_length] at hj)) fun j hj => ?_
    rw [norms_length] at hj
    rw [norms_getD _ hj]; exact ih j hj
  | nils => exact .psn none (fun k hk => by simp at hk)
  | ps cells len cap a c cvs hs hlen hcap hc hr ih =>
    refine .ps (norms cells) len none a c cvs (fun hne => hs (fun he => hne (by rw [he]; rfl))) hlen (fun k hk => by simp at hk) (fun j hj => hc j (by rwa [norms_length] at hj)) fun j hj => ?_
    rw [norms_length] at hj
    rw [norms_getD _ hj]; exact ih j hj
  | psn cap hcap => exact .psn none (fun k hk => by simp at hk)
  | nilm => exact .nilm
  | func f caps cvs hl hr ih =>
    refine .func f (norms caps) cvs (by rw [norms_length]; exact hl) fun j hj => ?_
    rw [norms_length] at hj
    rw [norms_getD _ hj]; exact ih j hj
  | nilf => exact .nilf
  | iface t v cv h ih => exact .iface t _ cv ih
  | nili => exact .nili
  | agg cells cvs hl hr ih =>
    refine .agg (norms cells) cvs (by rw [norms_length]; exact hl) fun j hj => ?_
    rw [norms_length] at hj
    rw [norms_getD _ hj]; exact ih j hj
  | tuple cells cvs hl hr ih =>
    refine .tuple (norms cells) cvs (by rw [norms_length]; exact hl) fun j hj => ?_
    rw [norms_length] at hj
    rw [norms_getD _ hj]; exact ih j hj

theorem argsR_sound {Γ : Gh} {k : Kf} (hI : Inv Γ k) (args : List AV) (cargs : List Value) (rs : List AV) (hl : cargs.length = args.length) (hv : ∀ j, j < args.length → VK Γ k (args.getD j undefA) (cargs.getD j undef))
    (hr : argsR k.s.h args = some rs) : cargs.length = rs.length ∧ ∀ j, j < rs.length → PR k.w (Imm Γ (frzK k (args.foldl (frz depth) k.s.h))) (rs.getD j undefA) (cargs.getD j undef) := by
  unfold argsR at hr
  simp only [Option.map_eq_some_iff] at hr
  obtain ⟨r0, h0, rfl⟩ := hr
  obtain ⟨h1, h2⟩ := args_sound hI args cargs r0 hl hv h0
  refine ⟨by rw [norms_length]; exact h1, fun j hj => ?_⟩
  rw [norms_length] at hj
  rw [norms_getD _ hj]
  exact (h2 j hj).norm

theorem purify_some {r : AV × AHeap} {v : AV} (h : purify r = some v) : ∃ v0, res depth r.2 r.1 = some v0 ∧ v = norm v0 := by
  unfold purify at h
  simp only [Option.map_eq_some_iff] at h
  obtain ⟨v0, h1, rfl⟩ := h
  exact ⟨v0, h1, rfl⟩

/-- Out of a running call. -/
theorem call_ok {C : Machine} (hC : COk P C) {raw : CallF} (hraw : RawOk P raw) : CallOk P (callOf C raw) := by
  intro Γ k f args cargs v h' hI hv h
  have hle := FzLe.foldl (frz_le depth) args k.s.h
  have hIf : Inv Γ (frzK k (args.foldl (frz depth) k.s.h)) := hI.frz hle
  have hGf : Grow Γ k (frzK k (args.foldl (frz depth) k.s.h)) := Grow.frz hle
  have hbelow : ∀ (w' : World), Below k.w.heap.size k.w w' → Inv Γ (memK k k.s.t (args.foldl (frz depth) k.s.h) k.μ w') ∧ Grow Γ k (memK k k.s.t (args.foldl (frz depth) k.s.h) k.μ w') := fun w' hb =>
    ⟨hIf.ext w' hb, hGf.trans (Grow.ext (frzK k (args.foldl (frz depth) k.s.h)) w' hb hIf.size hIf.outer)⟩
  unfold callOf at h
  split at h
  · rename_i g hp
    simp only [Option.map_eq_some_iff, Option.bind_eq_some_iff] at h
    obtain ⟨v1, ⟨as, has, hg⟩, h⟩ := h
    injection h with e1 e2
    subst e1; subst e2
    obtain ⟨hl, hpr⟩ := argsR_sound hI args cargs as hv.1 hv.2 has
    refine (hC.prims f g hp k.w _ as cargs v1 (fun g j hx => hx.1) hl hpr hg).mono fun cv w' ⟨hb, hr⟩ => ?_
    obtain ⟨i1, i2⟩ := hbelow w' hb
    refine ⟨k.μ, i1, i2, .pr _ _ (hr.mono fun x j hx => ⟨?_, rfl⟩)⟩
    rcases hx with hx | ⟨h1, h2⟩
    · exact own_old hIf hb hx
    · exact own_new hIf hb h1 h2
  · split at h
    · -- in the same memory
      have hn := enter_noReg hv
      refine (hraw (Γ.sub k) k.s.h k.μ k.w f args cargs v h' (enter_inv hI hn) ⟨hv.1, fun j hj => enter_VK hn (hv.2 j hj)⟩ h).mono fun cv w' ⟨k', e1, e2, hI', hG, hr⟩ => ?_
      subst e1; subst e2
      obtain ⟨i1, i2⟩ := leave hI hn hI' hG
      exact ⟨k'.μ, i1, i2, VR.mono (fun g j hg => leave_imm hg) hr⟩
    · -- in a memory of its own
      simp only [Option.map_eq_some_iff, Option.bind_eq_some_iff] at h
      obtain ⟨v1, ⟨⟨r, h1⟩, ⟨as, has, hg⟩, hp⟩, h⟩ := h
      injection h with e1 e2
      subst e1; subst e2
      obtain ⟨hl, hpr⟩ := argsR_sound hI args cargs as hv.1 hv.2 has
      have hn := PRs_noReg hl hpr
      refine (hraw (Γ.own (frzK k (args.foldl (frz depth) k.s.h))) [] (fun _ => ⟨0, 0, 0⟩) k.w f as cargs r h1 (own_inv hn) ⟨hl, fun j hj => .pr _ _ ((hpr j hj).mono fun g j hg => ⟨own_imm (k := frzK k (args.foldl (frz depth) k.s.h)) hn hg, rfl⟩)⟩ hg).mono fun cv w' ⟨k', e1, e2, hI', hG, hr⟩ => ?_
      subst e1; subst e2
      have hb : Below k.w.heap.size k.w k'.w := own_below (k := frzK k (args.foldl (frz depth) k.s.h)) hG
      obtain ⟨i1, i2⟩ := hbelow k'.w hb
      obtain ⟨v0, hp0, rfl⟩ := purify_some hp
      exact ⟨k.μ, i1, i2, .pr _ _ (own_res hIf hI' hb hr hp0).norm⟩
    · -- a row handed back
      have pure_case : ∀ (r : AV) (h1 : AHeap) (as : List AV), argsR k.s.h args = some as → raw f as [] = some (r, h1) → (purify (r, h1)).map (·, args.foldl (frz depth) k.s.h) = some (v, h') →
          CallRuns P f cargs.toArray k.w (CallEnd Γ k v h') := by
        intro r h1 as has hg h
        simp only [Option.map_eq_some_iff] at h
        obtain ⟨v1, hp, h⟩ := h
        injection h with e1 e2
        subst e1; subst e2
        obtain ⟨hl, hpr⟩ := argsR_sound hI args cargs as hv.1 hv.2 has
        have hn := PRs_noReg hl hpr
        refine (hraw (Γ.own (frzK k (args.foldl (frz depth) k.s.h))) [] (fun _ => ⟨0, 0, 0⟩) k.w f as cargs r h1 (own_inv hn) ⟨hl, fun j hj => .pr _ _ ((hpr j hj).mono fun g j hg => ⟨own_imm (k := frzK k (args.foldl (frz depth) k.s.h)) hn hg, rfl⟩)⟩ hg).mono fun cv w' ⟨k', e1, e2, hI', hG, hr⟩ => ?_
        subst e1; subst e2
        have hb : Below k.w.heap.size k.w k'.w := own_below (k := frzK k (args.foldl (frz depth) k.s.h)) hG
        obtain ⟨i1, i2⟩ := hbelow k'.w hb
        obtain ⟨v0, hp0, rfl⟩ := purify_some hp
        exact ⟨k.μ, i1, i2, .pr _ _ (own_res hIf hI' hb hr hp0).norm⟩
      split at h
      · rename_i b ver off len esz cap h1 hbind
        simp only [Option.bind_eq_some_iff] at hbind
        obtain ⟨as, has, hg⟩ := hbind
        split at h
        · rename_i fz tag cells hrow
          by_cases hcond : off + len * esz ≤ cells.length ∧ fz ≤ off
          · rw [if_pos hcond] at h
            obtain ⟨c1, c2⟩ := hcond
            by_cases hnr : noRefs ((cells.drop off).take (len * esz)) = true
            · rw [if_pos hnr] at h
              injection h with h; injection h with e1 e2
              subst e1; subst e2
              obtain ⟨hl, hpr⟩ := argsR_sound hI args cargs as hv.1 hv.2 has
              have hn := PRs_noReg hl hpr
              refine (hraw (Γ.own (frzK k (args.foldl (frz depth) k.s.h))) [] (fun _ => ⟨0, 0, 0⟩) k.w f as cargs _ h1 (own_inv hn) ⟨hl, fun j hj => .pr _ _ ((hpr j hj).mono fun g j hg => ⟨own_imm (k := frzK k (args.foldl (frz depth) k.s.h)) hn hg, rfl⟩)⟩ hg).mono fun cv w' ⟨k', e1, e2, hI', hG, hr⟩ => ?_
              subst e1; subst e2
              have hb : Below k.w.heap.size k.w k'.w := own_below (k := frzK k (args.foldl (frz depth) k.s.h)) hG
              have he := rowAt_some.1 hrow
              obtain ⟨ad, cc, rfl, hk, hle2, hcap, ha⟩ := hr.sl
              obtain ⟨z1, z2⟩ := ha _ _ _ he
              have hrr := hI'.rows b ver fz tag cells he
              have hbase : k.w.heap.size ≤ (k'.μ b).g := hrr.base
              have hlen := hrr.len
              have hcl0 : ((cells.drop off).take (len * esz)).length = len * esz := by simp; omega
              have hcl : (norms ((cells.drop off).take (len * esz))).length = len * esz := by rw [norms_length]; exact hcl0
              have hmono : ∀ g j, Imm (Γ.own (frzK k (args.foldl (frz depth) k.s.h))) k' g j → Imm Γ (adoptK (frzK k (args.foldl (frz depth) k.s.h)) k'.w ⟨(k'.μ b).g, (k'.μ b).d + off, (k'.μ b).n - off⟩ tag (norms ((cells.drop off).take (len * esz)))) g j := by
                intro g j hx
                have g0 := Grow.adopt hIf k'.w hb ⟨(k'.μ b).g, (k'.μ b).d + off, (k'.μ b).n - off⟩ tag (norms ((cells.drop off).take (len * esz))) hbase
                rcases Nat.lt_or_ge g k.w.heap.size with hlt | hge
                · exact (g0.imm g j (hx.2.1 hlt)).1
                · refine ⟨hx.1, fun hB => absurd hI.size (by omega), fun hX => absurd (hI.outer g hX) (by omega), fun hR => absurd (hI.isReg_lt (show IsReg k g from hR)) (by omega), fun b2 v2 f2 t2 c2 he2 hm => ?_⟩
                  simp only [adoptK] at he2 hm ⊢
                  by_cases hbl : b2 < (frzK k (args.foldl (frz depth) k.s.h)).s.h.length
                  · rw [getD_append_left' _ _ _ _ hbl] at he2
                    rw [muSet_ne _ _ _ _ (by omega)] at hm
                    have h9 : (k.μ b2).g < k.w.heap.size := hIf.live_lt (live_row he2)
                    have h10 : (k.μ b2).g = g := hm
                    omega
                  · have hlt := row_lt he2
                    simp at hlt
                    have : b2 = (frzK k (args.foldl (frz depth) k.s.h)).s.h.length := by omega
                    subst this
                    rw [muSet_same] at hm ⊢
                    have := hx.2.2.2.2 b ver fz tag cells he hm
                    show j < (k'.μ b).d + off + f2
                    omega
              have hIa : Inv Γ (adoptK (frzK k (args.foldl (frz depth) k.s.h)) k'.w ⟨(k'.μ b).g, (k'.μ b).d + off, (k'.μ b).n - off⟩ tag (norms ((cells.drop off).take (len * esz)))) := by
                refine hIf.adopt k'.w hb _ tag _ hbase ?_ ?_ ?_ ?_
                · show _ ≤ (k'.μ b).n - off
                  rw [hcl]; omega
                · obtain ⟨c, e, fr, p1, p2⟩ := hrr.block
                  exact ⟨c, e, fr, p1, by show (k'.μ b).d + off + ((k'.μ b).n - off) ≤ _; omega⟩
                · intro j hj
                  have hj' : j < (k'.μ b).n - off := hj
                  have := hrr.free (off + j) (by omega)
                  show k'.w.frozen? ⟨(k'.μ b).g, (k'.μ b).d + off + j, none⟩ = false
                  rw [Nat.add_assoc]; exact this
                · intro j hj
                  rw [hcl] at hj
                  obtain ⟨cv, p1, p2⟩ := hrr.cell (off + j) (by omega)
                  have hel : ((cells.drop off).take (len * esz)).getD j undefA = cells.getD (off + j) undefA := by rw [getD_take' _ _ _ _ hj, getD_drop']
                  refine ⟨cv, by show k'.w.cell? ⟨(k'.μ b).g, (k'.μ b).d + off + j, none⟩ = _; rw [Nat.add_assoc]; exact p1, ?_⟩
                  have hnr1 : noRef (((cells.drop off).take (len * esz)).getD j undefA) = true := (noRefs_iff _).1 hnr _ (getD_mem (by rw [hcl0]; exact hj))
                  rw [← hel] at p2
                  rw [norms_getD _ (by rw [hcl0]; exact hj)]
                  exact .pr _ _ ((p2.toPR hnr1).mono fun g j hx => ⟨hmono g j hx, rfl⟩).norm
              refine ⟨_, hIa, hGf.trans (Grow.adopt hIf k'.w hb _ tag _ hbase), ?_⟩
              refine VR.sl _ _ _ _ _ _ _ _ ⟨by simp [memK], fun v1 f1 t1 cells1 hx => Nat.zero_le _⟩ hle2 (fun x hx => by simp at hx) fun f1 t1 cells1 hx => ?_
              have hμ : muSet k.μ (args.foldl (frz depth) k.s.h).length ⟨(k'.μ b).g, (k'.μ b).d + off, (k'.μ b).n - off⟩ (args.foldl (frz depth) k.s.h).length = ⟨(k'.μ b).g, (k'.μ b).d + off, (k'.μ b).n - off⟩ := muSet_same _ _ _
              refine ⟨fun h0 => ?_, ?_⟩
              · show ad = ⟨(muSet k.μ (args.foldl (frz depth) k.s.h).length ⟨(k'.μ b).g, (k'.μ b).d + off, (k'.μ b).n - off⟩ (args.foldl (frz depth) k.s.h).length).g, (muSet k.μ (args.foldl (frz depth) k.s.h).length ⟨(k'.μ b).g, (k'.μ b).d + off, (k'.μ b).n - off⟩ (args.foldl (frz depth) k.s.h).length).d + 0, none⟩
                rw [hμ, z1 h0]; rfl
              · show 0 + cc * esz ≤ (muSet k.μ (args.foldl (frz depth) k.s.h).length ⟨(k'.μ b).g, (k'.μ b).d + off, (k'.μ b).n - off⟩ (args.foldl (frz depth) k.s.h).length).n
                rw [hμ]
                show 0 + cc * esz ≤ (k'.μ b).n - off
                omega
            · rw [if_neg hnr] at h; simp at h
          · rw [if_neg hcond] at h; simp at h
        · simp at h
      · rename_i r _ hbind
        simp only [Option.bind_eq_some_iff] at hbind
        obtain ⟨as, has, hg⟩ := hbind
        exact pure_case r.1 r.2 as has hg h
      · simp at h

def resOne (tmps : Array Value) : ResultVar → Sem Value
  | .tmp t => pure (tmps.getD t undef)
  | .cell a t => do loadVar t (← asAddr (tmps.getD a undef))

theorem results_eq (fn : Func) (tmps : Array Value) : results fn tmps = (do
    let vs ← fn.results.mapM (resOne tmps)
    pure (if h : vs.size = 1 then vs[0] else .tuple vs)) := rfl

theorem results_sound (hI : Inv Γ k) {a : Act} (hT : TR Γ k a.tmps) : ∀ {rs : List ResultVar} {al : List ARes} {vs : List AV}, chkRes P rs al = true → al.mapM (resultA k.s) = some vs →
    ∃ cvs : List Value, (rs.mapM (resOne a.tmps)).run P k.w = .ok cvs k.w ∧ VKs Γ k vs cvs
  | [], [], vs, _, h => by
    simp at h; subst h
    exact ⟨[], by simp, VKs.nil⟩
  | [], _ :: _, _, h, _ => by simp [chkRes] at h
  | _ :: _, [], _, h, _ => by simp [chkRes] at h
  | r :: rs, x :: al, vs, hc, h => by
    simp only [List.mapM_cons, Option.bind_eq_bind, Option.bind_eq_some_iff, Option.pure_def, Option.some.injEq] at h
    obtain ⟨v, h1, vs', h2, rfl⟩ := h
    have tail : chkRes P rs al = true → ∃ cvs : List Value, (rs.mapM (resOne a.tmps)).run P k.w = .ok cvs k.w ∧ VKs Γ k vs' cvs := fun hc => results_sound hI hT hc h2
    have opd : ∀ (t : Nat), FV Γ k (aev k.s.t (.t t)) (a.tmps.getD t undef) := fun t => opd_sound hI hT (x := .t t) (y := .tmp t) (by simp [chkOpd])
    cases r with
    | tmp t =>
      cases x with
      | cell _ _ _ => simp [chkRes] at hc
      | t n =>
        simp only [chkRes, Bool.and_eq_true, beq_iff_eq] at hc
        obtain ⟨rfl, hc⟩ := hc
        obtain ⟨cvs, q1, q2⟩ := tail hc
        simp only [resultA] at h1
        split at h1
        · rename_i hk
          injection h1 with h1; subst h1
          refine ⟨a.tmps.getD t undef :: cvs, ?_, VKs.cons ((opd t).keep hk) q2⟩
          rw [List.mapM_cons]
          simp only [resOne, Sem.run_bind, Sem.run_pure, Result.andThen_ok, q1]
        · simp at h1
    | cell ad t =>
      cases x with
      | t _ => simp [chkRes] at hc
      | cell b isA n =>
        simp only [chkRes, Bool.and_eq_true, beq_iff_eq, Bool.or_eq_true] at hc
        obtain ⟨⟨⟨⟨rfl, c1⟩, c2⟩, c3⟩, hc⟩ := hc
        obtain ⟨cvs, q1, q2⟩ := tail hc
        simp only [resultA] at h1
        obtain ⟨ad', cv, e1, e2, e3⟩ := run_loadOf (P := P) hI c1 c2 c3 (opd ad) h1
        refine ⟨cv :: cvs, ?_, VKs.cons e3 q2⟩
        rw [List.mapM_cons]
        have hone : (resOne a.tmps (.cell ad t)).run P k.w = .ok cv k.w := by
          simp only [resOne, e1, asAddr]
          simpa using e2
        simp only [Sem.run_bind, Sem.run_pure, Result.andThen_ok, hone, q1]

theorem resultsOf_sound (hI : Inv Γ k) {a : Act} (hT : TR Γ k a.tmps) {fn : Func} {al : List ARes} {v : AV} (hc : chkRes P fn.results.toList al = true) (h : resultsA k.s al = some v) :
    ∃ cv, (results fn a.tmps).run P k.w = .ok cv k.w ∧ VK Γ k v cv := by
  unfold resultsA at h
  simp only [Option.map_eq_some_iff] at h
  obtain ⟨vs, h1, rfl⟩ := h
  obtain ⟨cvs, q1, q2⟩ := results_sound hI hT hc h1
  have hm : ∀ (f : ResultVar → Sem Value), (fn.results.toList.mapM f).run P k.w = .ok cvs k.w → (fn.results.mapM f).run P k.w = .ok cvs.toArray k.w := by
    intro f hf
    rw [Array.mapM_eq_mapM_toList]
    simp [hf]
  have run := hm _ q1
  rw [results_eq]
  simp only [Sem.run_bind, run, Result.andThen_ok, Sem.run_pure]
  refine ⟨_, rfl, ?_⟩
  have hl := q2.1
  match vs, cvs, q2, hl with
  | [], [], _, _ => exact VR.tuple [] [] rfl (fun j hj => by simp at hj)
  | [v], [c], q2, _ =>
    obtain ⟨c', r, e1, e2, _⟩ := q2.of_cons
    injection e1 with e1 _
    subst e1
    simpa [resultsOf] using e2
  | v1 :: v2 :: vr, c1 :: c2 :: cr, q2, _ =>
    have : ¬ (c1 :: c2 :: cr).toArray.size = 1 := by simp
    rw [dif_neg this]
    exact VR.tuple _ _ q2.1 q2.2

theorem agetD_append (a : Array Value) (n i : Nat) : (a ++ Array.replicate n undef).getD i undef = a.getD i undef := by
  simp only [Array.getD_eq_getD_getElem?, Array.getElem?_append, Array.getElem?_replicate]
  by_cases h : i < a.size
  · rw [if_pos h]
  · rw [if_neg h]
    have : a[i]? = none := by simp; omega
    rw [this]
    split <;> rfl

theorem runA_ok {C : Machine} (hC : COk P C) (hdraw : ∀ raw, RawOk P raw → DrawOk P C (callOf C raw)) : ∀ n, RawOk P (runA C n)
  | 0 => by
    intro Γ h μ w f args cargs v h' _ _ hr
    simp [runA] at hr
  | n + 1 => by
    intro Γ h μ w f args cargs v h' hI hv hr
    have hraw := runA_ok hC hdraw n
    have hcall := call_ok hC hraw
    simp only [runA] at hr
    cases hf : C.funcs f with
    | none => rw [hf] at hr; simp at hr
    | some fa =>
      rw [hf] at hr
      obtain ⟨fn, hfn, hchk, hname⟩ := hC.funcs f fa hf
      simp only [chkFunc, Bool.and_eq_true, beq_iff_eq] at hchk
      obtain ⟨⟨hnt, hres⟩, hbody⟩ := hchk
      cases hb : fn.body with
      | none => rw [hb] at hbody; simp at hbody
      | some c =>
        rw [hb] at hbody
        simp only at hbody hr
        refine .inl ⟨run_callFunc_enter hfn (by rw [hb]; rfl) hname _ _, ?_⟩
        refine calls_of_wp hfn hb ?_
        have hnr := enter_noReg hv
        have hT : TR Γ (enterK args h μ w) (cargs.toArray ++ Array.replicate (fn.ntmps - cargs.toArray.size) undef) := by
          refine ⟨by show args.length ≤ _; simp; have := hv.1; omega, fun i _ => ?_, fun i st cells he => absurd he (hnr i st cells)⟩
          rw [agetD_append]
          by_cases hi : i < args.length
          · have := hv.2 i hi
            rw [← tget_getD] at this
            refine .vr _ _ ?_
            show VK Γ (enterK args h μ w) (tget args i) _
            simpa [Array.getD_eq_getD_getElem?, List.getD_eq_getElem?_getD] using this
          · have h1 : tget (enterK args h μ w).s.t i = undefA := tget_ge _ _ (by show args.length ≤ i; omega)
            rw [h1]
            have h2 : cargs.toArray.getD i undef = undef := by
              have : cargs.length ≤ i := by have := hv.1; omega
              simp [Array.getD_eq_getD_getElem?, this]
            rw [h2]
            exact undef_FV
        have hA : At Γ (enterK args h μ w) (enterK args h μ w) ⟨cargs.toArray ++ Array.replicate (fn.ntmps - cargs.toArray.size) undef, []⟩ fn.ntmps :=
          ⟨hI, hT, Grow.refl _ _, by simp; omega, rfl⟩
        split at hr
        · simp at hr
        · rename_i x s hx hex
          simp only [Option.map_eq_some_iff] at hr
          obtain ⟨v1, hr1, hr2⟩ := hr
          injection hr2 with e1 e2
          subst e1; subst e2
          refine exec_wp hcall (hdraw _ hraw) fa.body c (enterK args h μ w) _ x s _ hbody hA hex fun a' k' e hA' => ?_
          obtain ⟨cv, q1, q2⟩ := resultsOf_sound hA'.inv hA'.tr hres (by rw [e]; exact hr1)
          cases x with
          | normal => exact ⟨hA'.defers, cv, q1, k', by rw [e], rfl, hA'.inv, hA'.grow, q2⟩
          | ret => exact ⟨hA'.defers, cv, q1, k', by rw [e], rfl, hA'.inv, hA'.grow, q2⟩
          | exit i => exact absurd rfl (hx i)
        · simp at hr
end
end Go.Abs

/- The abstract machine: what an operation depends on, and what it changes. -/
namespace Go.Abs
open Go.RowKit

def applyW : List (Nat × AV) → List AV → List AV
  | [], ts => ts
  | (p, v) :: r, ts => applyW r (tset ts p v)

theorem applyW_append (W V : List (Nat × AV)) (ts : List AV) : applyW (W ++ V) ts = applyW V (applyW W ts) := by
  induction W generalizing ts with
  | nil => rfl
  | cons x W ih => simp only [List.cons_append, applyW]; exact ih _

theorem tget_applyW (W : List (Nat × AV)) (p : Nat) (h : ∀ x ∈ W, x.1 ≠ p) (ts : List AV) : tget (applyW W ts) p = tget ts p := by
  induction W generalizing ts with
  | nil => rfl
  | cons x W ih =>
    obtain ⟨q, v⟩ := x
    simp only [applyW]
    rw [ih (fun y hy => h y (List.mem_cons_of_mem _ hy)), tget_tset, if_neg (h (q, v) (List.mem_cons_self ..))]

theorem tlist_ext {l r : List AV} (hl : l.length = r.length) (h : ∀ j, tget l j = tget r j) : l = r := by
  apply List.ext_getElem hl
  intro j h1 h2
  have := h j
  rw [tget_getD, tget_getD] at this
  simpa [List.getD_eq_getElem?_getD, h1, h2] using this

theorem tset_comm (ts : List AV) (i j : Nat) (v u : AV) (h : i ≠ j) : tset (tset ts i v) j u = tset (tset ts j u) i v := by
  apply tlist_ext
  · simp only [tset_length]; omega
  · intro m
    simp only [tget_tset]
    by_cases h1 : j = m
    · rw [if_pos h1, if_neg (by omega), if_pos h1]
    · rw [if_neg h1]
      by_cases h2 : i = m
      · rw [if_pos h2, if_pos h2]
      · rw [if_neg h2, if_neg h2, if_neg h1]

theorem applyW_tset (W : List (Nat × AV)) (p : Nat) (v : AV) (h : ∀ x ∈ W, x.1 ≠ p) (ts : List AV) : applyW W (tset ts p v) = tset (applyW W ts) p v := by
  induction W generalizing ts with
  | nil => rfl
  | cons x W ih =>
    obtain ⟨q, u⟩ := x
    simp only [applyW]
    rw [tset_comm _ _ _ _ _ (fun e => h (q, u) (List.mem_cons_self ..) e.symm), ih (fun y hy => h y (List.mem_cons_of_mem _ hy))]

theorem applyW_comm (W V : List (Nat × AV)) (h : ∀ x ∈ W, ∀ y ∈ V, x.1 ≠ y.1) (ts : List AV) : applyW W (applyW V ts) = applyW V (applyW W ts) := by
  induction V generalizing ts with
  | nil => rfl
  | cons y V ih =>
    obtain ⟨q, u⟩ := y
    simp only [applyW]
    rw [ih (fun x hx y hy => h x hx y (List.mem_cons_of_mem _ hy)), applyW_tset W q u (fun x hx => h x hx (q, u) (List.mem_cons_self ..))]

theorem aev_congr {ts ts2 : List AV} {x : AOpd} (h : ∀ p ∈ tmpsOf x, tget ts2 p = tget ts p) : aev ts2 x = aev ts x := by
  cases x with
  | c v => rfl
  | t n =>
    have := h n (List.mem_singleton.2 rfl)
    simp only [aev, this]

theorem argsA_congr {ts ts2 : List AV} {xs : List AOpd} (h : ∀ x ∈ xs, aev ts2 x = aev ts x) : argsA ts2 xs = argsA ts xs := List.map_congr_left h

theorem partsA_congr {ts ts2 : List AV} {ps : List (Nat × Nat × AOpd)} (h : ∀ x ∈ ps.map (·.2.2), aev ts2 x = aev ts x) : partsA ts2 ps = partsA ts ps := by
  refine List.map_congr_left fun p hp => ?_
  obtain ⟨a, b, x⟩ := p
  simp only
  rw [h x (List.mem_map.2 ⟨(a, b, x), hp, rfl⟩)]

theorem optmap_congr {ts ts2 : List AV} {x : Option AOpd} (h : ∀ y ∈ x.toList, aev ts2 y = aev ts y) : x.map (aev ts2) = x.map (aev ts) := by
  cases x with
  | none => rfl
  | some y => simp [h y (by simp)]

theorem pureA_congr {ts ts2 : List AV} {c c2 : Nat} {o : AOp} (h : ∀ x ∈ opdsA o, aev ts2 x = aev ts x) (hc : isReg o = true → c2 = c) : pureA c2 o ts2 = pureA c o ts := by
  cases o with
  | alloc reg tag zero => cases reg with
    | true => have := hc rfl; subst this; rfl
    | false => rfl
  | box reg tag x => cases reg with
    | true =>
      have := hc rfl; subst this
      have := h x (by simp [opdsA])
      simp only [pureA, this]
    | false => rfl
  | build zero parts =>
    have := partsA_congr (ps := parts) (fun x hx => h x (by simpa [opdsA] using hx))
    simp only [pureA, this]
  | bslice rw tag esz len zero parts =>
    cases rw with
    | true => rfl
    | false =>
      have := partsA_congr (ps := parts) (fun x hx => h x (by simpa [opdsA] using hx))
      simp only [pureA, this]
  | mkfunc f caps =>
    have := argsA_congr (xs := caps) (fun x hx => h x (by simpa [opdsA] using hx))
    simp only [pureA, this]
  | mn xs =>
    have := argsA_congr (xs := xs) (fun x hx => h x (by simpa [opdsA] using hx))
    simp only [pureA, this]
  | mx xs =>
    have := argsA_congr (xs := xs) (fun x hx => h x (by simpa [opdsA] using hx))
    simp only [pureA, this]
  | sliceStr x lo hi =>
    have h1 := h x (by simp [opdsA])
    have h2 := optmap_congr (x := lo) (fun y hy => h y (by simp [opdsA] at hy ⊢; exact .inr (.inl hy)))
    have h3 := optmap_congr (x := hi) (fun y hy => h y (by simp [opdsA] at hy ⊢; exact .inr (.inr hy)))
    simp only [pureA, h1, h2, h3]
  | sliceSl esz x lo hi mx =>
    have h1 := h x (by simp [opdsA])
    have h2 := optmap_congr (x := lo) (fun y hy => h y (by simp [opdsA] at hy ⊢; exact .inr (.inl hy)))
    have h3 := optmap_congr (x := hi) (fun y hy => h y (by simp [opdsA] at hy ⊢; exact .inr (.inr (.inl hy))))
    have h4 := optmap_congr (x := mx) (fun y hy => h y (by simp [opdsA] at hy ⊢; exact .inr (.inr (.inr hy))))
    simp only [pureA, h1, h2, h3, h4]
  | pick c a b =>
    have h1 := h c (by simp [opdsA])
    have h2 := h a (by simp [opdsA])
    have h3 := h b (by simp [opdsA])
    simp only [pureA, h1, h2, h3]
  | bin op x y => simp only [pureA, h x (by simp [opdsA]), h y (by simp [opdsA])]
  | eqv neg sh x y => simp only [pureA, h x (by simp [opdsA]), h y (by simp [opdsA])]
  | idxArr len esz x i => simp only [pureA, h x (by simp [opdsA]), h i (by simp [opdsA])]
  | idxSl esz x i => simp only [pureA, h x (by simp [opdsA]), h i (by simp [opdsA])]
  | idxAgg a len esz x i => simp only [pureA, h x (by simp [opdsA]), h i (by simp [opdsA])]
  | idxStr x i => simp only [pureA, h x (by simp [opdsA]), h i (by simp [opdsA])]
  | mov x => simp only [pureA, h x (by simp [opdsA])]
  | nilchk x => simp only [pureA, h x (by simp [opdsA])]
  | un op x => simp only [pureA, h x (by simp [opdsA])]
  | conv k x => simp only [pureA, h x (by simp [opdsA])]
  | strId x => simp only [pureA, h x (by simp [opdsA])]
  | fieldAddr off x => simp only [pureA, h x (by simp [opdsA])]
  | field a n off x => simp only [pureA, h x (by simp [opdsA])]
  | extract x i => simp only [pureA, h x (by simp [opdsA])]
  | len x => simp only [pureA, h x (by simp [opdsA])]
  | lenS x => simp only [pureA, h x (by simp [opdsA])]
  | cap x => simp only [pureA, h x (by simp [opdsA])]
  | _ => rfl

/-! ### rows of a kind -/
def KeepsBut (t : Nat) (h h' : AHeap) : Prop := ∀ u, u ≠ t → ∀ b ver fz cells, rowAt h b ver = some (fz, u, cells) ↔ rowAt h' b ver = some (fz, u, cells)
def AgreeOn (t : Nat) (h h' : AHeap) : Prop := ∀ b ver fz cells, rowAt h b ver = some (fz, t, cells) ↔ rowAt h' b ver = some (fz, t, cells)

theorem KeepsBut.add (t : Nat) (h : AHeap) (ver fz : Nat) (cells : List AV) : KeepsBut t h (h ++ [.row ver fz t cells]) := by
  intro u hu b ver' fz' cells'
  rw [rowAt_some, rowAt_some]
  by_cases hb : b < h.length
  · rw [getD_append_left' _ _ _ _ hb]
  · constructor
    · intro he; exact absurd (row_lt he) hb
    · intro he
      have hlt := row_lt he
      simp at hlt
      have : b = h.length := by omega
      subst this
      rw [getD_append_mid] at he
      injection he with _ _ h3 _
      exact absurd h3.symm hu

theorem KeepsBut.set {t : Nat} {h : AHeap} {b ver fz : Nat} {cells : List AV} (he : h.getD b .dead = .row ver fz t cells) (ver' fz' : Nat) (cells' : List AV) : KeepsBut t h (h.set b (.row ver' fz' t cells')) := by
  intro u hu b2 v2 f2 c2
  rw [rowAt_some, rowAt_some, getD_set']
  by_cases hb : b = b2
  · subst hb
    rw [if_pos ⟨rfl, row_lt he⟩, he]
    constructor
    · intro h1; injection h1 with _ _ h3 _; exact absurd h3.symm hu
    · intro h1; injection h1 with _ _ h3 _; exact absurd h3.symm hu
  · rw [if_neg (fun x => hb x.1)]

def Agree (r w : Ht) (h h2 : AHeap) : Prop :=
  match w, r with
  | .no, .no => True
  | .no, .tag t => AgreeOn t h h2
  | _, _ => h2 = h

theorem Agree.refl (r w : Ht) (h : AHeap) : Agree r w h h := by
  unfold Agree
  split
  · trivial
  · exact fun _ _ _ _ => Iff.rfl
  · rfl
end Go.Abs

/- The abstract machine: what an operation on memory depends on, and what it changes. -/
namespace Go.Abs
open Go.RowKit

def simpleMem : AOp → Bool
  | .load .. | .store .. => false
  | _ => true

theorem memA_slots {o : AOp} (hs : simpleMem o = true) {ts ts2 : List AV} {h : AHeap} (hx : ∀ x ∈ opdsA o, aev ts2 x = aev ts x) : memA o ts2 h = (memA o ts h).map fun r => (r.1, ts2, r.2.2) := by
  cases o with
  | load tg a n x => simp [simpleMem] at hs
  | store tg n x y => simp [simpleMem] at hs
  | alloc reg tag zero => cases reg <;> rfl
  | box reg tag x =>
    cases reg with
    | true => rfl
    | false =>
      simp only [memA, hx x (by simp [opdsA])]
      split <;> rfl
  | bslice rw tag esz len zero parts =>
    cases rw with
    | false => rfl
    | true =>
      have := partsA_congr (ps := parts) (fun x h => hx x (by simpa [opdsA] using h))
      simp only [memA, this]
      split
      · cases fillA (reps len zero) (partsA ts parts) <;> rfl
      · rfl
  | strOf x =>
    simp only [memA, hx x (by simp [opdsA])]
    generalize aev ts x = a
    split
    · rfl
    · split
      · cases bytesIn _ <;> rfl
      · rfl
    · split
      · split
        · cases bytesIn _ <;> rfl
        · rfl
      · rfl
    · rfl
  | mkmap => rfl
  | mkslice tag esz bytes zero l c =>
    simp only [memA, hx l (by simp [opdsA]), hx c (by simp [opdsA])]
    generalize aev ts l = a
    generalize aev ts c = b
    split
    · split <;> rfl
    · rfl
  | sliceArr n esz x lo hi mx =>
    have h1 := hx x (by simp [opdsA])
    have h2 := optmap_congr (x := lo) (fun y hy => hx y (by simp [opdsA] at hy ⊢; exact .inr (.inl hy)))
    have h3 := optmap_congr (x := hi) (fun y hy => hx y (by simp [opdsA] at hy ⊢; exact .inr (.inr (.inl hy))))
    have h4 := optmap_congr (x := mx) (fun y hy => hx y (by simp [opdsA] at hy ⊢; exact .inr (.inr (.inr hy))))
    simp only [memA, h1, h2, h3, h4]
    generalize aev ts x = a
    split
    · split
      · split
        · split <;> rfl
        · rfl
      · split <;> rfl
      · rfl
    · rfl
  | lookup zero sh ok x i =>
    simp only [memA, hx x (by simp [opdsA]), hx i (by simp [opdsA])]
    generalize aev ts x = a
    generalize aev ts i = b
    split
    · cases lookA zero sh ok b [] <;> rfl
    · split
      · rename_i es _
        cases lookA zero sh ok b es <;> rfl
      · rfl
    · rfl
  | mapSet sh m k v =>
    simp only [memA, hx m (by simp [opdsA]), hx k (by simp [opdsA]), hx v (by simp [opdsA])]
    generalize aev ts m = a
    generalize aev ts k = b
    generalize aev ts v = c
    split
    · split
      · split
        · split
          · split <;> rfl
          · rfl
          · rfl
        · rfl
      · rfl
    · rfl
  | lenM x =>
    simp only [memA, hx x (by simp [opdsA])]
    generalize aev ts x = a
    split
    · rfl
    · split <;> rfl
    · rfl
  | append tag esz bytes s x =>
    simp only [memA, hx s (by simp [opdsA]), hx x (by simp [opdsA])]
    generalize aev ts s = a
    generalize aev ts x = b
    split
    · rfl
    · split
      · rfl
      · split
        · split
          · split
            · split <;> rfl
            · rfl
          · split
            · rfl
            · split
              · split
                · rfl
                · split <;> rfl
              · rfl
          · split
            · split
              · split <;> rfl
              · rfl
            · rfl
          · rfl
        · rfl
  | copy esz d s =>
    simp only [memA, hx d (by simp [opdsA]), hx s (by simp [opdsA])]
    generalize aev ts d = a
    generalize aev ts s = b
    split
    · split
      · split
        · split <;> rfl
        · rfl
      · rfl
    · split <;> rfl
    · rfl
  | _ => rfl

theorem memA_ts {o : AOp} (hs : simpleMem o = true) {ts : List AV} {h : AHeap} {v : AV} {ts' : List AV} {h' : AHeap} (he : memA o ts h = some (v, ts', h')) : ts' = ts := by
  have := memA_slots hs (ts := ts) (ts2 := ts) (h := h) (fun _ _ => rfl)
  rw [he] at this
  injection this with this
  injection this with _ this
  injection this with this _

theorem memA_read {mode : FuncId → Mode} {o : AOp} (hw : isNo (heapW mode o) = true) (hm : isMem o = true) {ts : List AV} {h : AHeap} {v : AV} {ts' : List AV} {h' : AHeap} (he : memA o ts h = some (v, ts', h')) : h' = h := by
  cases o with
  | alloc reg tag zero => cases reg <;> simp [heapW, isNo, isMem] at hw hm
  | box reg tag x => cases reg <;> simp [heapW, isNo, isMem] at hw hm
  | bslice rw tag esz len zero parts => cases rw <;> simp [heapW, isNo, isMem] at hw hm
  | load tg a n x =>
    simp only [memA, Option.map_eq_some_iff, Prod.mk.injEq] at he
    obtain ⟨_, _, _, _, rfl⟩ := he
    rfl
  | store tg n x y =>
    cases tg with
    | any => simp [heapW, isNo] at hw
    | tag t => simp [heapW, isNo] at hw
    | reg p =>
      simp only [memA] at he
      split at he
      · split at he
        · split at he
          · split at he
            · injection he with he; injection he with _ he; injection he with _ he; exact he.symm
            · simp at he
          · simp at he
        · split at he
          · split at he
            · rename_i hc; simp [tgOk] at hc
            · simp at he
          · simp at he
        · simp at he
      · simp at he
  | strOf x =>
    simp only [memA] at he
    split at he
    · simp at he; exact he.2.2.symm
    · split at he
      · simp only [Option.map_eq_some_iff, Prod.mk.injEq] at he; obtain ⟨_, _, _, _, h1⟩ := he; exact h1.symm
      · simp at he
    · split at he
      · split at he
        · simp only [Option.map_eq_some_iff, Prod.mk.injEq] at he; obtain ⟨_, _, _, _, h1⟩ := he; exact h1.symm
        · simp at he
      · simp at he
    · simp at he
  | sliceArr n esz x lo hi mx =>
    simp only [memA] at he
    split at he
    · split at he
      · split at he
        · split at he
          · simp at he; exact he.2.2.symm
          · simp at he
        · simp at he
      · split at he
        · simp at he; exact he.2.2.symm
        · simp at he
      · simp at he
    · simp at he
  | lookup zero sh ok x i =>
    simp only [memA] at he
    split at he
    · simp only [Option.map_eq_some_iff, Prod.mk.injEq] at he; obtain ⟨_, _, _, _, h1⟩ := he; exact h1.symm
    · split at he
      · simp only [Option.map_eq_some_iff, Prod.mk.injEq] at he; obtain ⟨_, _, _, _, h1⟩ := he; exact h1.symm
      · simp at he
    · simp at he
  | lenM x =>
    simp only [memA] at he
    split at he
    · simp at he; exact he.2.2.symm
    · split at he
      · simp at he; exact he.2.2.symm
      · simp at he
    · simp at he
  | mkmap => simp [heapW, isNo] at hw
  | mkslice tag esz bytes zero l c => simp [heapW, isNo] at hw
  | mapSet sh m k v => simp [heapW, isNo] at hw
  | append tag esz bytes s x => simp [heapW, isNo] at hw
  | copy esz d s => simp [heapW, isNo] at hw
  | _ => simp [isMem] at hm

theorem tgOk_tag {t tag : Nat} (h : tgOk (.tag t) tag = true) : tag = t := by
  simp only [tgOk, beq_iff_eq] at h
  exact h.symm

theorem memA_keeps {mode : FuncId → Mode} {o : AOp} {t : Nat} (hw : heapW mode o = .tag t) (hm : isMem o = true) {ts : List AV} {h : AHeap} {v : AV} {ts' : List AV} {h' : AHeap} (he : memA o ts h = some (v, ts', h')) : KeepsBut t h h' := by
  cases o with
  | alloc reg tag zero =>
    cases reg with
    | true => simp [isMem] at hm
    | false =>
      simp only [heapW, Ht.tag.injEq] at hw
      subst hw
      simp only [memA, Option.some.injEq, Prod.mk.injEq] at he
      rw [← he.2.2]; exact KeepsBut.add _ _ _ _ _
  | box reg tag x =>
    cases reg with
    | true => simp [isMem] at hm
    | false =>
      simp only [heapW, Ht.tag.injEq] at hw
      subst hw
      simp only [memA] at he
      split at he
      · simp only [Option.some.injEq, Prod.mk.injEq] at he
        rw [← he.2.2]; exact KeepsBut.add _ _ _ _ _
      · simp at he
  | bslice rw tag esz len zero parts =>
    cases rw with
    | false => simp [isMem] at hm
    | true =>
      simp only [heapW, Ht.tag.injEq] at hw
      subst hw
      simp only [memA] at he
      split at he
      · simp only [Option.map_eq_some_iff, Prod.mk.injEq] at he
        obtain ⟨_, _, _, _, h1⟩ := he
        rw [← h1]; exact KeepsBut.add _ _ _ _ _
      · simp at he
  | store tg n x y =>
    cases tg with
    | any => simp [heapW] at hw
    | reg p => simp [heapW] at hw
    | tag u =>
      simp only [heapW, Ht.tag.injEq] at hw
      subst hw
      simp only [memA] at he
      split at he
      · split at he
        · split at he
          · split at he
            · rename_i hc; simp [tgReg] at hc
            · simp at he
          · simp at he
        · split at he
          · rename_i hrow
            split at he
            · rename_i hc
              have := tgOk_tag hc.1
              subst this
              simp only [Option.some.injEq, Prod.mk.injEq] at he
              rw [← he.2.2]
              exact KeepsBut.set (rowAt_some.1 hrow) _ _ _
            · simp at he
          · simp at he
        · simp at he
      · simp at he
  | mkslice tag esz bytes zero l c =>
    simp only [heapW, Ht.tag.injEq] at hw
    subst hw
    simp only [memA] at he
    split at he
    · split at he
      · simp only [Option.some.injEq, Prod.mk.injEq] at he
        rw [← he.2.2]; exact KeepsBut.add _ _ _ _ _
      · simp at he
    · simp at he
  | append tag esz bytes s x =>
    simp only [heapW, Ht.tag.injEq] at hw
    subst hw
    have hrefl : KeepsBut tag h h := fun _ _ _ _ _ _ => Iff.rfl
    simp only [memA] at he
    split at he
    · simp at he
    · split at he
      · simp at he
      · split at he
        · split at he
          · split at he
            · split at he
              · simp only [Option.some.injEq, Prod.mk.injEq] at he; rw [← he.2.2]; exact hrefl
              · simp only [Option.some.injEq, Prod.mk.injEq] at he; rw [← he.2.2]; exact KeepsBut.add _ _ _ _ _
            · simp at he
          · split at he
            · simp at he
            · split at he
              · split at he
                · simp only [Option.some.injEq, Prod.mk.injEq] at he; rw [← he.2.2]; exact hrefl
                · split at he
                  · simp only [Option.some.injEq, Prod.mk.injEq] at he; rw [← he.2.2]; exact KeepsBut.add _ _ _ _ _
                  · simp at he
              · simp at he
          · split at he
            · rename_i hrow
              split at he
              · rename_i hc
                split at he
                · simp only [Option.some.injEq, Prod.mk.injEq] at he; rw [← he.2.2]; exact hrefl
                · simp only [Option.some.injEq, Prod.mk.injEq] at he
                  rw [← he.2.2]
                  have := hc.2.2.2.1
                  subst this
                  exact KeepsBut.set (rowAt_some.1 hrow) _ _ _
              · simp at he
            · simp at he
          · simp at he
        · simp at he
  | call f xs => simp [isMem] at hm
  | load tg a n x => cases tg <;> simp [heapW] at hw
  | _ => simp [heapW] at hw
end Go.Abs
