-- PRINTED BY print.sh 35421559b90ae4d0a3588c463048766b98c2df88dd9212a6774a882060cdf62d: not written by this session
import Derived.Test.YtamniobmcdfngaaPRulesTablex0
namespace Go.Proofs.Ytamniobmcdfngaa.PRulesTable
open Go.RowKit Go.Proofs.YtamniobmcdfngaaW.PrintWords Go.Proofs.YtamniobmcdfngaaW.PrintLast Go.Proofs.YtamniobmcdfngaaW.PrintMore
attribute [local go_sem] max2_int min2_int max_two min_two max_three min_three max_four min_four   -- for this text's walks alone
set_option linter.unusedVariables false
set_option linter.unusedSimpArgs false

/-! ### slices_Index_string_string: function 31 -/
def slices_Index_string_string.l0 : Nat → List ByteArray → ByteArray → Int → Int → Option (Int)
  | 0, _, _, _, _ => none
  | k + 1, x0, x1, x7, x8 => if x8 < x7 then (if 0 ≤ x8 then (if x8 < (x0.length : Int) then (if x1.toList = (rdOf ByteArray.empty x0 x8).toList then (some x8) else (slices_Index_string_string.l0 k x0 x1 x7 (wrap64 (x8 + 1)))) else (none)) else (none)) else (some (-1))
def slices_Index_string_string.f (k : Nat) (l0 : List ByteArray) (a1 : ByteArray) : Option (Int) := slices_Index_string_string.l0 k l0 a1 (l0.length : Int) 0
theorem slices_Index_string_string.mono_l : ∀ k, (∀ y0 y1 y2 y3, LeO (slices_Index_string_string.l0 k y0 y1 y2 y3) (slices_Index_string_string.l0 (k + 1) y0 y1 y2 y3))
  | 0 => fun _ _ _ _ r h => by simp [slices_Index_string_string.l0] at h
  | k + 1 => by
    have ih0 := slices_Index_string_string.mono_l k
    · intro y0 y1 y2 y3
      unfold slices_Index_string_string.l0
      repeat' first
      | (with_reducible exact ih0 _ _ _ _)
      | (with_reducible exact LeO.refl _)
      | (with_reducible exact LeO.none _)
      | (with_reducible refine LeO.ite ?_ ?_)
      | (with_reducible refine LeO.bind ?_ (fun _ => ?_))
      | exact ih0 _ _ _ _
      | exact LeO.none _
      | refine LeO.ite ?_ ?_
      | refine LeO.bind ?_ (fun _ => ?_)
theorem slices_Index_string_string.mono : ∀ a0 a1 k, LeO (slices_Index_string_string.f k a0 a1) (slices_Index_string_string.f (k + 1) a0 a1) := by
  intro a0 a1 k
  have ih0 := slices_Index_string_string.mono_l k
  unfold slices_Index_string_string.f
  repeat' first
      | (with_reducible exact ih0 _ _ _ _)
      | (with_reducible exact LeO.refl _)
      | (with_reducible exact LeO.none _)
      | (with_reducible refine LeO.ite ?_ ?_)
      | (with_reducible refine LeO.bind ?_ (fun _ => ?_))
      | exact ih0 _ _ _ _
      | exact LeO.none _
      | refine LeO.ite ?_ ?_
      | refine LeO.bind ?_ (fun _ => ?_)
set_option maxHeartbeats 8000000 in
set_option maxRecDepth 100000 in
theorem slices_Index_string_string.calls (k : Nat) (A0 : Option Addr) (c0 : Nat) (l0 : List ByteArray) (a1 : ByteArray) (r : Int) (w : World) (hr0 : Kd.C Kd.string w A0 l0.length l0) (hc0 : l0.length ≤ c0) (h : slices_Index_string_string.f k l0 a1 = some r) :
    Calls Try.prog 31 #[.slice A0 l0.length c0, .string a1] w fun e w' => e = .returned (.int .i64 r) ∧ Drawn0 w w' := by
  have HR0 := Aside0.mk hr0
  have HC0 := Aside0.mk hc0
  clear hr0 hc0
  have H : (slices_Index_string_string.l0 k l0 a1 (l0.length : Int) 0) = some r := h
  clear h
  have H' := Aside0.mk H
  clear H
  go_enter Try.func31, Try.ntmps31
  go_wp2
  go_loopg [8] k (fun kq v8 w' => ∃ (x8_1 : Int), v8 = .int .i64 x8_1 ∧ Aside0 (slices_Index_string_string.l0 kq l0 a1 (l0.length : Int) x8_1 = some r) ∧ Aside0 (kq ≤ k) ∧ Drawn0 w w')
  case atStart => exact ⟨(0), (by first | rfl | (simp; done) | (simp [*]; done)), H', ⟨Nat.le_refl _⟩, by repeat (first | exact Drawn0.refl _ | apply Drawn0.step)⟩
  case round =>
    clear H'
    try clear p2
    obtain ⟨x8_1, rfl, HA, HK1, ⟨m1, rfl⟩⟩ := hrel
    cases gk with
    | zero => exact absurd HA.out (by simp [slices_Index_string_string.l0])
    | succ k1 =>
      have H := HA.out
      clear HA
      simp only [slices_Index_string_string.l0] at H
      by_cases c3 : x8_1 < (l0.length : Int)
      · rw [if_pos c3] at H
        have c3b0 : decide (x8_1 < (l0.length : Int)) = true := decide_eq_true c3
        clear c3
        by_cases c4 : 0 ≤ x8_1
        · rw [if_pos c4] at H
          have c4b0 : decide (0 ≤ x8_1) = true := decide_eq_true c4
          clear c4
          by_cases c5 : x8_1 < (l0.length : Int)
          · rw [if_pos c5] at H
            have c5b0 : decide (x8_1 < (l0.length : Int)) = true := decide_eq_true c5
            clear c5
            by_cases c6 : a1.toList = (rdOf ByteArray.empty l0 x8_1).toList
            · rw [if_pos c6] at H
              have c6b0 : (a1.toList == (rdOf ByteArray.empty l0 x8_1).toList) = true := beq_iff_eq.mpr c6
              have c6b1 : (a1.toList != (rdOf ByteArray.empty l0 x8_1).toList) = false := bne_eq_false_iff_eq.mpr c6
              clear c6
              obtain rfl := Option.some.inj H
              have p101 : 0 ≤ (x8_1 : Int) := of_decide_eq_true (by first | (with_reducible assumption) | assumption)
              have q101 : x8_1 < (l0.length : Int) := of_decide_eq_true (by first | (with_reducible assumption) | assumption)
              obtain ⟨ad101, e101, hx101_0⟩ := Kd.at_string HR0.out x8_1 p101 q101
              cases e101
              replace p101 := eq_true p101
              replace q101 := eq_true q101
              go_wp2
              go_ret
              exact ⟨by first | rfl | (simp; done) | (simp [*]; done), by repeat (first | exact Drawn0.refl _ | apply Drawn0.step)⟩
            · rw [if_neg c6] at H
              have c6b0 : (a1.toList == (rdOf ByteArray.empty l0 x8_1).toList) = false := beq_eq_false_iff_ne.mpr c6
              have c6b1 : (a1.toList != (rdOf ByteArray.empty l0 x8_1).toList) = true := bne_iff_ne.mpr c6
              have H' := Aside0.mk H
              clear H
              have p101 : 0 ≤ (x8_1 : Int) := of_decide_eq_true (by first | (with_reducible assumption) | assumption)
              have q101 : x8_1 < (l0.length : Int) := of_decide_eq_true (by first | (with_reducible assumption) | assumption)
              obtain ⟨ad101, e101, hx101_0⟩ := Kd.at_string HR0.out x8_1 p101 q101
              cases e101
              replace p101 := eq_true p101
              replace q101 := eq_true q101
              go_wp2
              go_roundg k1
              case measure => have := HK1.out; omega
              case rel => exact ⟨(wrap64 (x8_1 + 1)), (by first | rfl | (simp; done) | (simp [*]; done)), H', ⟨by have := HK1.out; omega⟩, by repeat (first | exact Drawn0.refl _ | apply Drawn0.step)⟩
          · rw [if_neg c5] at H
            exact absurd H (by simp)
        · rw [if_neg c4] at H
          exact absurd H (by simp)
      · rw [if_neg c3] at H
        have c3b0 : decide (x8_1 < (l0.length : Int)) = false := decide_eq_false c3
        clear c3
        obtain rfl := Option.some.inj H
        go_wp2
        go_ret
        exact ⟨by first | rfl | (simp; done) | (simp [*]; done), by repeat (first | exact Drawn0.refl _ | apply Drawn0.step)⟩

/-! ### rules_names: function 32 -/
def rules_names.f  : Option (List ByteArray) := some (([(⟨#[115, 116, 97, 109, 112]⟩ : ByteArray), (⟨#[105, 112]⟩ : ByteArray), (⟨#[109, 97, 99]⟩ : ByteArray), (⟨#[104, 101, 120]⟩ : ByteArray), (⟨#[110, 117, 109, 98, 101, 114]⟩ : ByteArray), (⟨#[113, 117, 111, 116, 101, 100]⟩ : ByteArray), (⟨#[119, 111, 114, 100]⟩ : ByteArray), (⟨#[98, 108, 97, 110, 107]⟩ : ByteArray), (⟨#[111, 116, 104, 101, 114]⟩ : ByteArray)] : List ByteArray))
set_option maxHeartbeats 8000000 in
set_option maxRecDepth 100000 in
theorem rules_names.calls  (r : List ByteArray) (w : World) (h : rules_names.f  = some r) :
    Calls Try.prog 32 #[] w fun e w' => ∃ v0_ : Value, e = .returned (v0_) ∧ Kd.R Kd.string 9 w' w.heap.size (fun _ => True) v0_ r ∧ Below w.heap.size w w' := by
  have HB := Aside0.mk (Below.refl w.heap.size w)
  have H : (some (([(⟨#[115, 116, 97, 109, 112]⟩ : ByteArray), (⟨#[105, 112]⟩ : ByteArray), (⟨#[109, 97, 99]⟩ : ByteArray), (⟨#[104, 101, 120]⟩ : ByteArray), (⟨#[110, 117, 109, 98, 101, 114]⟩ : ByteArray), (⟨#[113, 117, 111, 116, 101, 100]⟩ : ByteArray), (⟨#[119, 111, 114, 100]⟩ : ByteArray), (⟨#[98, 108, 97, 110, 107]⟩ : ByteArray), (⟨#[111, 116, 104, 101, 114]⟩ : ByteArray)] : List ByteArray))) = some r := h
  clear h
  obtain ⟨y102, hy102⟩ : ∃ y_ : List ByteArray, y_ = (([(⟨#[115, 116, 97, 109, 112]⟩ : ByteArray), (⟨#[105, 112]⟩ : ByteArray), (⟨#[109, 97, 99]⟩ : ByteArray), (⟨#[104, 101, 120]⟩ : ByteArray), (⟨#[110, 117, 109, 98, 101, 114]⟩ : ByteArray), (⟨#[113, 117, 111, 116, 101, 100]⟩ : ByteArray), (⟨#[119, 111, 114, 100]⟩ : ByteArray), (⟨#[98, 108, 97, 110, 107]⟩ : ByteArray), (⟨#[111, 116, 104, 101, 114]⟩ : ByteArray)] : List ByteArray)) := ⟨_, rfl⟩
  replace H : (some y102) = some r := by first | (rw [hy102]; with_reducible exact H) | (have H2_ := (Option.bind_some _ _).symm.trans H; rw [hy102]; with_reducible exact H2_) | (have H2_ := (Option.bind_some _ _).symm.trans H; with_reducible exact H2_) | with_reducible exact H | (rw [hy102]; exact H) | exact H
  have Ny102 := Aside0.mk hy102
  clear hy102
  obtain rfl := Option.some.inj H
  go_enter Try.func32, Try.ntmps32
  go_wp2_with (first | ((with_reducible refine gate_dst (N := 1) rfl ?_); refine Kd.R_lit Kd.string _ 9 ?hg (N := 1) ?hd (xs := ([(⟨#[115, 116, 97, 109, 112]⟩ : ByteArray), (⟨#[105, 112]⟩ : ByteArray), (⟨#[109, 97, 99]⟩ : ByteArray), (⟨#[104, 101, 120]⟩ : ByteArray), (⟨#[110, 117, 109, 98, 101, 114]⟩ : ByteArray), (⟨#[113, 117, 111, 116, 101, 100]⟩ : ByteArray), (⟨#[119, 111, 114, 100]⟩ : ByteArray), (⟨#[98, 108, 97, 110, 107]⟩ : ByteArray), (⟨#[111, 116, 104, 101, 114]⟩ : ByteArray)] : List ByteArray)) (inner := [.string (⟨#[115, 116, 97, 109, 112]⟩ : ByteArray), .string (⟨#[105, 112]⟩ : ByteArray), .string (⟨#[109, 97, 99]⟩ : ByteArray), .string (⟨#[104, 101, 120]⟩ : ByteArray), .string (⟨#[110, 117, 109, 98, 101, 114]⟩ : ByteArray), .string (⟨#[113, 117, 111, 116, 101, 100]⟩ : ByteArray), .string (⟨#[119, 111, 114, 100]⟩ : ByteArray), .string (⟨#[98, 108, 97, 110, 107]⟩ : ByteArray), .string (⟨#[111, 116, 104, 101, 114]⟩ : ByteArray)]) (ok := fun _ => True) (okp := fun _ => True) ?hr ?hp (fun _ hk => hk) trivial (Below.refl _ _) (Nat.le_refl _) (by simp) ?_; (case hd => rfl); (case hg => rfl); (case hr => first | (go_simp; done) | (go_simp; rfl)); (case hp => exact (Reps.one (show Kd.M Kd.string _ _ _ (⟨#[115, 116, 97, 109, 112]⟩ : ByteArray) [.string (⟨#[115, 116, 97, 109, 112]⟩ : ByteArray)] from rfl) (Reps.one (show Kd.M Kd.string _ _ _ (⟨#[105, 112]⟩ : ByteArray) [.string (⟨#[105, 112]⟩ : ByteArray)] from rfl) (Reps.one (show Kd.M Kd.string _ _ _ (⟨#[109, 97, 99]⟩ : ByteArray) [.string (⟨#[109, 97, 99]⟩ : ByteArray)] from rfl) (Reps.one (show Kd.M Kd.string _ _ _ (⟨#[104, 101, 120]⟩ : ByteArray) [.string (⟨#[104, 101, 120]⟩ : ByteArray)] from rfl) (Reps.one (show Kd.M Kd.string _ _ _ (⟨#[110, 117, 109, 98, 101, 114]⟩ : ByteArray) [.string (⟨#[110, 117, 109, 98, 101, 114]⟩ : ByteArray)] from rfl) (Reps.one (show Kd.M Kd.string _ _ _ (⟨#[113, 117, 111, 116, 101, 100]⟩ : ByteArray) [.string (⟨#[113, 117, 111, 116, 101, 100]⟩ : ByteArray)] from rfl) (Reps.one (show Kd.M Kd.string _ _ _ (⟨#[119, 111, 114, 100]⟩ : ByteArray) [.string (⟨#[119, 111, 114, 100]⟩ : ByteArray)] from rfl) (Reps.one (show Kd.M Kd.string _ _ _ (⟨#[98, 108, 97, 110, 107]⟩ : ByteArray) [.string (⟨#[98, 108, 97, 110, 107]⟩ : ByteArray)] from rfl) (Reps.one (show Kd.M Kd.string _ _ _ (⟨#[111, 116, 104, 101, 114]⟩ : ByteArray) [.string (⟨#[111, 116, 104, 101, 114]⟩ : ByteArray)] from rfl) (Reps.none _ _))))))))))); intro v103 w1 ho2 hb hg_ hnew_; clear hg_ hnew_; (first | rw [← Ny102.out] at ho2 | (simp only [Int.reduceToNat] at ho2; rw [← Ny102.out] at ho2)); have n0_ := Aside0.mk (Kd.R_lower ho2 (below_size (by repeat (first | (with_reducible first | exact HB.out | apply below_alloc | apply pw_below_drewN | apply below_drew1) | exact HB.out)))); have n1_ := Aside0.mk (below_step (by repeat (first | (with_reducible first | exact HB.out | apply below_alloc | apply pw_below_drewN | apply below_drew1) | exact HB.out)) hb); clear HB; have HO104 := n0_; have HB := n1_; clear n0_ n1_; clear hb ho2))
  go_ret
  exact ⟨_, by first | rfl | (simp [errW_none, errW_some] <;> rfl) | (simp [*, errW_none, errW_some] <;> rfl), by (with_reducible repeat (first | apply Kd.R_alloc | apply Kd.R_drewN | apply Kd.R_drew)); exact HO104.out, by repeat (first | (with_reducible first | exact HB.out | apply below_alloc | apply pw_below_drewN | apply below_drew1) | exact HB.out)⟩

/-! ### rules_Kind: function 7 -/
def rules_Kind.f (k : Nat) (a0 : ByteArray) : Option (Int × Bool) := (rules_names.f).bind fun t105 => ((slices_Index_string_string.f k t105 a0).bind fun t108 => (some (t108, decide (t108 ≥ 0))))
theorem rules_Kind.mono : ∀ a0 k, LeO (rules_Kind.f k a0) (rules_Kind.f (k + 1) a0) := by
  intro a0 k
  unfold rules_Kind.f
  repeat' first
      | (with_reducible exact slices_Index_string_string.mono _ _ _)
      | (with_reducible exact LeO.refl _)
      | (with_reducible exact LeO.none _)
      | (with_reducible refine LeO.ite ?_ ?_)
      | (with_reducible refine LeO.bind ?_ (fun _ => ?_))
      | exact slices_Index_string_string.mono _ _ _
      | exact LeO.none _
      | refine LeO.ite ?_ ?_
      | refine LeO.bind ?_ (fun _ => ?_)
set_option maxHeartbeats 8000000 in
set_option maxRecDepth 100000 in
theorem rules_Kind.calls (k : Nat) (a0 : ByteArray) (r1 : Int) (r2 : Bool) (w : World) (h : rules_Kind.f k a0 = some (r1, r2)) :
    Calls Try.prog 7 #[.string a0] w fun e w' => e = .returned (.tuple #[.int .i64 r1, .bool r2]) ∧ Below w.heap.size w w' := by
  have HB := Aside0.mk (Below.refl w.heap.size w)
  have H : ((rules_names.f).bind fun t105 => ((slices_Index_string_string.f k t105 a0).bind fun t108 => (some (t108, decide (t108 ≥ 0))))) = some (r1, r2) := h
  clear h
  replace H := Option.bind_eq_some_iff.mp H
  obtain ⟨t105, A20, H⟩ := H
  replace H : ((slices_Index_string_string.f k t105 a0).bind fun t108 => (some (t108, decide (t108 ≥ 0)))) = some (r1, r2) := H
  have A2 := Aside0.mk A20
  clear A20
  replace H := Option.bind_eq_some_iff.mp H
  obtain ⟨t108, A30, H⟩ := H
  replace H : (some (t108, decide (t108 ≥ 0))) = some (r1, r2) := H
  have A3 := Aside0.mk A30
  clear A30
  simp only [Option.some.injEq, Prod.mk.injEq] at H
  obtain ⟨rfl, rfl⟩ := H
  go_enter Try.func7, Try.ntmps7
  go_wp2_with (first | ((with_reducible refine gate_callee (f := 32) rfl ?_); refine goesL_ (some 5) rfl rfl Try.func32 (by kernel_rfl) rfl #[] rfl (by (try simp only [List.map_toArray, List.map_cons, List.map_nil]); first | done | rfl | (simp only [List.length_drop, List.length_take]; rfl)) ?_; (with_reducible refine (rules_names.calls  t105 _ A2.out).mono ?_); rintro e w4 ⟨v106, rfl, ho0, hb⟩; refine ⟨_, rfl, ?_⟩; have n0_ := Aside0.mk (Kd.R_lower ho0 (below_size (by repeat (first | (with_reducible first | exact HB.out | apply below_alloc | apply pw_below_drewN | apply below_drew1) | exact HB.out)))); have n1_ := Aside0.mk (below_step (by repeat (first | (with_reducible first | exact HB.out | apply below_alloc | apply pw_below_drewN | apply below_drew1) | exact HB.out)) hb); clear HB; have HO107 := n0_; have HB := n1_; clear n0_ n1_; (try clear hb); (try clear hb2); (try clear hk); (try clear hi); (try clear ho0); obtain ⟨Ao5, co5, eo5⟩ := Kd.R_slice HO107.out; subst eo5) | ((with_reducible refine gate_callee (f := 31) rfl ?_); refine goesL_ (some 7) rfl rfl Try.func31 (by kernel_rfl) rfl #[.slice Ao5 t105.length co5, .string a0] rfl (by (try simp only [List.map_toArray, List.map_cons, List.map_nil]); first | done | rfl | (simp only [List.length_drop, List.length_take]; rfl)) ?_; (with_reducible refine (slices_Index_string_string.calls k _ _ t105 a0 t108 _ ?side1 ?side2 A3.out).mono ?_); (case side1 => repeat (first | exact (Kd.R_reads' HO107.out).2.2 | (with_reducible refine Kd.C_alloc ?_ _) | (with_reducible refine Kd.C_drewN ?_ _) | (with_reducible refine Kd.C_drew ?_))); (case side2 => exact (Kd.R_reads' HO107.out).2.1); rintro e w' ⟨rfl, ⟨nd, rfl⟩⟩; refine ⟨_, rfl, ?_⟩))
  go_ret2
  exact ⟨by first | rfl | (simp [errW_none, errW_some] <;> rfl) | (simp [*, errW_none, errW_some] <;> rfl), by repeat (first | (with_reducible first | exact HB.out | apply below_alloc | apply pw_below_drewN | apply below_drew1) | exact HB.out)⟩

/-! ### winnowerref12_Name: function 10 -/
def winnowerref12_Name.f (a0 : Int) : Option (ByteArray) := (some (([(⟨#[115, 116, 97, 109, 112]⟩ : ByteArray), (⟨#[105, 112]⟩ : ByteArray), (⟨#[109, 97, 99]⟩ : ByteArray), (⟨#[104, 101, 120]⟩ : ByteArray), (⟨#[110, 117, 109, 98, 101, 114]⟩ : ByteArray), (⟨#[113, 117, 111, 116, 101, 100]⟩ : ByteArray), (⟨#[119, 111, 114, 100]⟩ : ByteArray), (⟨#[98, 108, 97, 110, 107]⟩ : ByteArray), (⟨#[111, 116, 104, 101, 114]⟩ : ByteArray)] : List ByteArray) : List ByteArray)).bind fun y109 => (if a0 < 0 then (some (⟨#[]⟩ : ByteArray)) else (if a0 ≥ (y109.length : Int) then (some (⟨#[]⟩ : ByteArray)) else (if 0 ≤ a0 then (if a0 < (y109.length : Int) then (some (rdOf ByteArray.empty y109 a0)) else (none)) else (none))))
set_option maxHeartbeats 8000000 in
set_option maxRecDepth 100000 in
theorem winnowerref12_Name.calls (a0 : Int) (r : ByteArray) (w : World) (h : winnowerref12_Name.f a0 = some r) :
    Calls Try.prog 10 #[.int .i64 a0] w fun e w' => e = .returned (.string r) ∧ Below w.heap.size w w' := by
  have HB := Aside0.mk (Below.refl w.heap.size w)
  have H : ((some (([(⟨#[115, 116, 97, 109, 112]⟩ : ByteArray), (⟨#[105, 112]⟩ : ByteArray), (⟨#[109, 97, 99]⟩ : ByteArray), (⟨#[104, 101, 120]⟩ : ByteArray), (⟨#[110, 117, 109, 98, 101, 114]⟩ : ByteArray), (⟨#[113, 117, 111, 116, 101, 100]⟩ : ByteArray), (⟨#[119, 111, 114, 100]⟩ : ByteArray), (⟨#[98, 108, 97, 110, 107]⟩ : ByteArray), (⟨#[111, 116, 104, 101, 114]⟩ : ByteArray)] : List ByteArray) : List ByteArray)).bind fun y109 => (if a0 < 0 then (some (⟨#[]⟩ : ByteArray)) else (if a0 ≥ (y109.length : Int) then (some (⟨#[]⟩ : ByteArray)) else (if 0 ≤ a0 then (if a0 < (y109.length : Int) then (some (rdOf ByteArray.empty y109 a0)) else (none)) else (none))))) = some r := h
  clear h
  obtain ⟨y109, hy109⟩ : ∃ y_ : List ByteArray, y_ = (([(⟨#[115, 116, 97, 109, 112]⟩ : ByteArray), (⟨#[105, 112]⟩ : ByteArray), (⟨#[109, 97, 99]⟩ : ByteArray), (⟨#[104, 101, 120]⟩ : ByteArray), (⟨#[110, 117, 109, 98, 101, 114]⟩ : ByteArray), (⟨#[113, 117, 111, 116, 101, 100]⟩ : ByteArray), (⟨#[119, 111, 114, 100]⟩ : ByteArray), (⟨#[98, 108, 97, 110, 107]⟩ : ByteArray), (⟨#[111, 116, 104, 101, 114]⟩ : ByteArray)] : List ByteArray)) := ⟨_, rfl⟩
  replace H : (if a0 < 0 then (some (⟨#[]⟩ : ByteArray)) else (if a0 ≥ (y109.length : Int) then (some (⟨#[]⟩ : ByteArray)) else (if 0 ≤ a0 then (if a0 < (y109.length : Int) then (some (rdOf ByteArray.empty y109 a0)) else (none)) else (none)))) = some r := by first | (rw [hy109]; with_reducible exact H) | (have H2_ := (Option.bind_some _ _).symm.trans H; rw [hy109]; with_reducible exact H2_) | (have H2_ := (Option.bind_some _ _).symm.trans H; with_reducible exact H2_) | with_reducible exact H | (rw [hy109]; exact H) | exact H
  have Ny109 := Aside0.mk hy109
  clear hy109
  by_cases c2 : a0 < 0
  · rw [if_pos c2] at H
    have c2b0 : decide (a0 < 0) = true := decide_eq_true c2
    clear c2
    obtain rfl := Option.some.inj H
    go_enter Try.func10, Try.ntmps10
    go_wp2_with (first | ((with_reducible refine gate_dst (N := 4) rfl ?_); (try (refine gate_guard (by rfl) ?_; dsimp only)); refine Kd.R_lit Kd.string _ 9 ?hg (N := 4) ?hd (xs := ([(⟨#[115, 116, 97, 109, 112]⟩ : ByteArray), (⟨#[105, 112]⟩ : ByteArray), (⟨#[109, 97, 99]⟩ : ByteArray), (⟨#[104, 101, 120]⟩ : ByteArray), (⟨#[110, 117, 109, 98, 101, 114]⟩ : ByteArray), (⟨#[113, 117, 111, 116, 101, 100]⟩ : ByteArray), (⟨#[119, 111, 114, 100]⟩ : ByteArray), (⟨#[98, 108, 97, 110, 107]⟩ : ByteArray), (⟨#[111, 116, 104, 101, 114]⟩ : ByteArray)] : List ByteArray)) (inner := [.string (⟨#[115, 116, 97, 109, 112]⟩ : ByteArray), .string (⟨#[105, 112]⟩ : ByteArray), .string (⟨#[109, 97, 99]⟩ : ByteArray), .string (⟨#[104, 101, 120]⟩ : ByteArray), .string (⟨#[110, 117, 109, 98, 101, 114]⟩ : ByteArray), .string (⟨#[113, 117, 111, 116, 101, 100]⟩ : ByteArray), .string (⟨#[119, 111, 114, 100]⟩ : ByteArray), .string (⟨#[98, 108, 97, 110, 107]⟩ : ByteArray), .string (⟨#[111, 116, 104, 101, 114]⟩ : ByteArray)]) (ok := fun _ => True) (okp := fun _ => True) ?hr ?hp (fun _ hk => hk) trivial (Below.refl _ _) (Nat.le_refl _) (by simp) ?_; (case hd => rfl); (case hg => rfl); (case hr => first | (go_simp; done) | (go_simp; rfl)); (case hp => exact (Reps.one (show Kd.M Kd.string _ _ _ (⟨#[115, 116, 97, 109, 112]⟩ : ByteArray) [.string (⟨#[115, 116, 97, 109, 112]⟩ : ByteArray)] from rfl) (Reps.one (show Kd.M Kd.string _ _ _ (⟨#[105, 112]⟩ : ByteArray) [.string (⟨#[105, 112]⟩ : ByteArray)] from rfl) (Reps.one (show Kd.M Kd.string _ _ _ (⟨#[109, 97, 99]⟩ : ByteArray) [.string (⟨#[109, 97, 99]⟩ : ByteArray)] from rfl) (Reps.one (show Kd.M Kd.string _ _ _ (⟨#[104, 101, 120]⟩ : ByteArray) [.string (⟨#[104, 101, 120]⟩ : ByteArray)] from rfl) (Reps.one (show Kd.M Kd.string _ _ _ (⟨#[110, 117, 109, 98, 101, 114]⟩ : ByteArray) [.string (⟨#[110, 117, 109, 98, 101, 114]⟩ : ByteArray)] from rfl) (Reps.one (show Kd.M Kd.string _ _ _ (⟨#[113, 117, 111, 116, 101, 100]⟩ : ByteArray) [.string (⟨#[113, 117, 111, 116, 101, 100]⟩ : ByteArray)] from rfl) (Reps.one (show Kd.M Kd.string _ _ _ (⟨#[119, 111, 114, 100]⟩ : ByteArray) [.string (⟨#[119, 111, 114, 100]⟩ : ByteArray)] from rfl) (Reps.one (show Kd.M Kd.string _ _ _ (⟨#[98, 108, 97, 110, 107]⟩ : ByteArray) [.string (⟨#[98, 108, 97, 110, 107]⟩ : ByteArray)] from rfl) (Reps.one (show Kd.M Kd.string _ _ _ (⟨#[111, 116, 104, 101, 114]⟩ : ByteArray) [.string (⟨#[111, 116, 104, 101, 114]⟩ : ByteArray)] from rfl) (Reps.none _ _))))))))))); intro v110 w3 ho4 hb hg_ hnew_; clear hg_ hnew_; (first | rw [← Ny109.out] at ho4 | (simp only [Int.reduceToNat] at ho4; rw [← Ny109.out] at ho4)); have n0_ := Aside0.mk (Kd.R_lower ho4 (below_size (by repeat (first | (with_reducible first | exact HB.out | apply below_alloc | apply pw_below_drewN | apply below_drew1) | exact HB.out)))); have n1_ := Aside0.mk (below_step (by repeat (first | (with_reducible first | exact HB.out | apply below_alloc | apply pw_below_drewN | apply below_drew1) | exact HB.out)) hb); clear HB; have HO111 := n0_; have HB := n1_; clear n0_ n1_; clear hb ho4))
    go_ret
    exact ⟨by first | rfl | (simp [errW_none, errW_some] <;> rfl) | (simp [*, errW_none, errW_some] <;> rfl), by repeat (first | (with_reducible first | exact HB.out | apply below_alloc | apply pw_below_drewN | apply below_drew1) | exact HB.out)⟩
  · rw [if_neg c2] at H
    have c2b0 : decide (a0 < 0) = false := decide_eq_false c2
    clear c2
    by_cases c5 : a0 ≥ (y109.length : Int)
    · rw [if_pos c5] at H
      have c5b0 : decide ((y109.length : Int) ≤ a0) = true := decide_eq_true c5
      clear c5
      obtain rfl := Option.some.inj H
      go_enter Try.func10, Try.ntmps10
      go_wp2_with (first | ((with_reducible refine gate_dst (N := 4) rfl ?_); (try (refine gate_guard (by rfl) ?_; dsimp only)); refine Kd.R_lit Kd.string _ 9 ?hg (N := 4) ?hd (xs := ([(⟨#[115, 116, 97, 109, 112]⟩ : ByteArray), (⟨#[105, 112]⟩ : ByteArray), (⟨#[109, 97, 99]⟩ : ByteArray), (⟨#[104, 101, 120]⟩ : ByteArray), (⟨#[110, 117, 109, 98, 101, 114]⟩ : ByteArray), (⟨#[113, 117, 111, 116, 101, 100]⟩ : ByteArray), (⟨#[119, 111, 114, 100]⟩ : ByteArray), (⟨#[98, 108, 97, 110, 107]⟩ : ByteArray), (⟨#[111, 116, 104, 101, 114]⟩ : ByteArray)] : List ByteArray)) (inner := [.string (⟨#[115, 116, 97, 109, 112]⟩ : ByteArray), .string (⟨#[105, 112]⟩ : ByteArray), .string (⟨#[109, 97, 99]⟩ : ByteArray), .string (⟨#[104, 101, 120]⟩ : ByteArray), .string (⟨#[110, 117, 109, 98, 101, 114]⟩ : ByteArray), .string (⟨#[113, 117, 111, 116, 101, 100]⟩ : ByteArray), .string (⟨#[119, 111, 114, 100]⟩ : ByteArray), .string (⟨#[98, 108, 97, 110, 107]⟩ : ByteArray), .string (⟨#[111, 116, 104, 101, 114]⟩ : ByteArray)]) (ok := fun _ => True) (okp := fun _ => True) ?hr ?hp (fun _ hk => hk) trivial (Below.refl _ _) (Nat.le_refl _) (by simp) ?_; (case hd => rfl); (case hg => rfl); (case hr => first | (go_simp; done) | (go_simp; rfl)); (case hp => exact (Reps.one (show Kd.M Kd.string _ _ _ (⟨#[115, 116, 97, 109, 112]⟩ : ByteArray) [.string (⟨#[115, 116, 97, 109, 112]⟩ : ByteArray)] from rfl) (Reps.one (show Kd.M Kd.string _ _ _ (⟨#[105, 112]⟩ : ByteArray) [.string (⟨#[105, 112]⟩ : ByteArray)] from rfl) (Reps.one (show Kd.M Kd.string _ _ _ (⟨#[109, 97, 99]⟩ : ByteArray) [.string (⟨#[109, 97, 99]⟩ : ByteArray)] from rfl) (Reps.one (show Kd.M Kd.string _ _ _ (⟨#[104, 101, 120]⟩ : ByteArray) [.string (⟨#[104, 101, 120]⟩ : ByteArray)] from rfl) (Reps.one (show Kd.M Kd.string _ _ _ (⟨#[110, 117, 109, 98, 101, 114]⟩ : ByteArray) [.string (⟨#[110, 117, 109, 98, 101, 114]⟩ : ByteArray)] from rfl) (Reps.one (show Kd.M Kd.string _ _ _ (⟨#[113, 117, 111, 116, 101, 100]⟩ : ByteArray) [.string (⟨#[113, 117, 111, 116, 101, 100]⟩ : ByteArray)] from rfl) (Reps.one (show Kd.M Kd.string _ _ _ (⟨#[119, 111, 114, 100]⟩ : ByteArray) [.string (⟨#[119, 111, 114, 100]⟩ : ByteArray)] from rfl) (Reps.one (show Kd.M Kd.string _ _ _ (⟨#[98, 108, 97, 110, 107]⟩ : ByteArray) [.string (⟨#[98, 108, 97, 110, 107]⟩ : ByteArray)] from rfl) (Reps.one (show Kd.M Kd.string _ _ _ (⟨#[111, 116, 104, 101, 114]⟩ : ByteArray) [.string (⟨#[111, 116, 104, 101, 114]⟩ : ByteArray)] from rfl) (Reps.none _ _))))))))))); intro v110 w6 ho7 hb hg_ hnew_; clear hg_ hnew_; (first | rw [← Ny109.out] at ho7 | (simp only [Int.reduceToNat] at ho7; rw [← Ny109.out] at ho7)); have n0_ := Aside0.mk (Kd.R_lower ho7 (below_size (by repeat (first | (with_reducible first | exact HB.out | apply below_alloc | apply pw_below_drewN | apply below_drew1) | exact HB.out)))); have n1_ := Aside0.mk (below_step (by repeat (first | (with_reducible first | exact HB.out | apply below_alloc | apply pw_below_drewN | apply below_drew1) | exact HB.out)) hb); clear HB; have HO111 := n0_; have HB := n1_; clear n0_ n1_; clear hb ho7; obtain ⟨Ao8, co8, eo8⟩ := Kd.R_slice HO111.out; subst eo8))
      go_ret
      exact ⟨by first | rfl | (simp [errW_none, errW_some] <;> rfl) | (simp [*, errW_none, errW_some] <;> rfl), by repeat (first | (with_reducible first | exact HB.out | apply below_alloc | apply pw_below_drewN | apply below_drew1) | exact HB.out)⟩
    · rw [if_neg c5] at H
      have c5b0 : decide ((y109.length : Int) ≤ a0) = false := decide_eq_false c5
      clear c5
      by_cases c9 : 0 ≤ a0
      · rw [if_pos c9] at H
        have c9b0 : decide (0 ≤ a0) = true := decide_eq_true c9
        clear c9
        by_cases c10 : a0 < (y109.length : Int)
        · rw [if_pos c10] at H
          have c10b0 : decide (a0 < (y109.length : Int)) = true := decide_eq_true c10
          clear c10
          obtain rfl := Option.some.inj H
          go_enter Try.func10, Try.ntmps10
          go_wp2_with (first | ((with_reducible refine gate_dst (N := 4) rfl ?_); (try (refine gate_guard (by rfl) ?_; dsimp only)); refine Kd.R_lit Kd.string _ 9 ?hg (N := 4) ?hd (xs := ([(⟨#[115, 116, 97, 109, 112]⟩ : ByteArray), (⟨#[105, 112]⟩ : ByteArray), (⟨#[109, 97, 99]⟩ : ByteArray), (⟨#[104, 101, 120]⟩ : ByteArray), (⟨#[110, 117, 109, 98, 101, 114]⟩ : ByteArray), (⟨#[113, 117, 111, 116, 101, 100]⟩ : ByteArray), (⟨#[119, 111, 114, 100]⟩ : ByteArray), (⟨#[98, 108, 97, 110, 107]⟩ : ByteArray), (⟨#[111, 116, 104, 101, 114]⟩ : ByteArray)] : List ByteArray)) (inner := [.string (⟨#[115, 116, 97, 109, 112]⟩ : ByteArray), .string (⟨#[105, 112]⟩ : ByteArray), .string (⟨#[109, 97, 99]⟩ : ByteArray), .string (⟨#[104, 101, 120]⟩ : ByteArray), .string (⟨#[110, 117, 109, 98, 101, 114]⟩ : ByteArray), .string (⟨#[113, 117, 111, 116, 101, 100]⟩ : ByteArray), .string (⟨#[119, 111, 114, 100]⟩ : ByteArray), .string (⟨#[98, 108, 97, 110, 107]⟩ : ByteArray), .string (⟨#[111, 116, 104, 101, 114]⟩ : ByteArray)]) (ok := fun _ => True) (okp := fun _ => True) ?hr ?hp (fun _ hk => hk) trivial (Below.refl _ _) (Nat.le_refl _) (by simp) ?_; (case hd => rfl); (case hg => rfl); (case hr => first | (go_simp; done) | (go_simp; rfl)); (case hp => exact (Reps.one (show Kd.M Kd.string _ _ _ (⟨#[115, 116, 97, 109, 112]⟩ : ByteArray) [.string (⟨#[115, 116, 97, 109, 112]⟩ : ByteArray)] from rfl) (Reps.one (show Kd.M Kd.string _ _ _ (⟨#[105, 112]⟩ : ByteArray) [.string (⟨#[105, 112]⟩ : ByteArray)] from rfl) (Reps.one (show Kd.M Kd.string _ _ _ (⟨#[109, 97, 99]⟩ : ByteArray) [.string (⟨#[109, 97, 99]⟩ : ByteArray)] from rfl) (Reps.one (show Kd.M Kd.string _ _ _ (⟨#[104, 101, 120]⟩ : ByteArray) [.string (⟨#[104, 101, 120]⟩ : ByteArray)] from rfl) (Reps.one (show Kd.M Kd.string _ _ _ (⟨#[110, 117, 109, 98, 101, 114]⟩ : ByteArray) [.string (⟨#[110, 117, 109, 98, 101, 114]⟩ : ByteArray)] from rfl) (Reps.one (show Kd.M Kd.string _ _ _ (⟨#[113, 117, 111, 116, 101, 100]⟩ : ByteArray) [.string (⟨#[113, 117, 111, 116, 101, 100]⟩ : ByteArray)] from rfl) (Reps.one (show Kd.M Kd.string _ _ _ (⟨#[119, 111, 114, 100]⟩ : ByteArray) [.string (⟨#[119, 111, 114, 100]⟩ : ByteArray)] from rfl) (Reps.one (show Kd.M Kd.string _ _ _ (⟨#[98, 108, 97, 110, 107]⟩ : ByteArray) [.string (⟨#[98, 108, 97, 110, 107]⟩ : ByteArray)] from rfl) (Reps.one (show Kd.M Kd.string _ _ _ (⟨#[111, 116, 104, 101, 114]⟩ : ByteArray) [.string (⟨#[111, 116, 104, 101, 114]⟩ : ByteArray)] from rfl) (Reps.none _ _))))))))))); intro v110 w11 ho12 hb hg_ hnew_; clear hg_ hnew_; (first | rw [← Ny109.out] at ho12 | (simp only [Int.reduceToNat] at ho12; rw [← Ny109.out] at ho12)); have n0_ := Aside0.mk (Kd.R_lower ho12 (below_size (by repeat (first | (with_reducible first | exact HB.out | apply below_alloc | apply pw_below_drewN | apply below_drew1) | exact HB.out)))); have n1_ := Aside0.mk (below_step (by repeat (first | (with_reducible first | exact HB.out | apply below_alloc | apply pw_below_drewN | apply below_drew1) | exact HB.out)) hb); clear HB; have HO111 := n0_; have HB := n1_; clear n0_ n1_; clear hb ho12; obtain ⟨Ao13, co13, eo13⟩ := Kd.R_slice HO111.out; subst eo13; have p112 : 0 ≤ (a0 : Int) := of_decide_eq_true (by first | (with_reducible assumption) | assumption); have q112 : a0 < (y109.length : Int) := of_decide_eq_true (by first | (with_reducible assumption) | assumption); obtain ⟨ad112, e112, hx112_0⟩ := Kd.at_string (Kd.R_reads' HO111.out).2.2 a0 p112 q112; cases e112; replace p112 := eq_true p112; replace q112 := eq_true q112))
          go_ret
          exact ⟨by first | rfl | (simp [errW_none, errW_some] <;> rfl) | (simp [*, errW_none, errW_some] <;> rfl), by repeat (first | (with_reducible first | exact HB.out | apply below_alloc | apply pw_below_drewN | apply below_drew1) | exact HB.out)⟩
        · rw [if_neg c10] at H
          exact absurd H (by simp)
      · rw [if_neg c9] at H
        exact absurd H (by simp)

/-! ### winnowerref12_Kind: function 8 -/
def winnowerref12_Kind.l0 : Nat → ByteArray → Int → Option (Int × Bool)
  | 0, _, _ => none
  | k + 1, x0, x4 => if x4 < 9 then ((winnowerref12_Name.f x4).bind fun t113 => (if t113.toList = x0.toList then (some (x4, true)) else (winnowerref12_Kind.l0 k x0 (wrap64 (x4 + 1))))) else (some ((-1), false))
def winnowerref12_Kind.f (k : Nat) (a0 : ByteArray) : Option (Int × Bool) := winnowerref12_Kind.l0 k a0 0
theorem winnowerref12_Kind.mono_l : ∀ k, (∀ y0 y1, LeO (winnowerref12_Kind.l0 k y0 y1) (winnowerref12_Kind.l0 (k + 1) y0 y1))
  | 0 => fun _ _ r h => by simp [winnowerref12_Kind.l0] at h
  | k + 1 => by
    have ih0 := winnowerref12_Kind.mono_l k
    · intro y0 y1
      unfold winnowerref12_Kind.l0
      repeat' first
      | (with_reducible exact ih0 _ _)
      | (with_reducible exact LeO.refl _)
      | (with_reducible exact LeO.none _)
      | (with_reducible refine LeO.ite ?_ ?_)
      | (with_reducible refine LeO.bind ?_ (fun _ => ?_))
      | exact ih0 _ _
      | exact LeO.none _
      | refine LeO.ite ?_ ?_
      | refine LeO.bind ?_ (fun _ => ?_)
theorem winnowerref12_Kind.mono : ∀ a0 k, LeO (winnowerref12_Kind.f k a0) (winnowerref12_Kind.f (k + 1) a0) := by
  intro a0 k
  have ih0 := winnowerref12_Kind.mono_l k
  unfold winnowerref12_Kind.f
  repeat' first
      | (with_reducible exact ih0 _ _)
      | (with_reducible exact LeO.refl _)
      | (with_reducible exact LeO.none _)
      | (with_reducible refine LeO.ite ?_ ?_)
      | (with_reducible refine LeO.bind ?_ (fun _ => ?_))
      | exact ih0 _ _
      | exact LeO.none _
      | refine LeO.ite ?_ ?_
      | refine LeO.bind ?_ (fun _ => ?_)
set_option maxHeartbeats 8000000 in
set_option maxRecDepth 100000 in
theorem winnowerref12_Kind.calls (k : Nat) (a0 : ByteArray) (r1 : Int) (r2 : Bool) (w : World) (h : winnowerref12_Kind.f k a0 = some (r1, r2)) :
    Calls Try.prog 8 #[.string a0] w fun e w' => e = .returned (.tuple #[.int .i64 r1, .bool r2]) ∧ Below w.heap.size w w' := by
  have HB := Aside0.mk (Below.refl w.heap.size w)
  have H : (winnowerref12_Kind.l0 k a0 0) = some (r1, r2) := h
  clear h
  have H' := Aside0.mk H
  clear H
  go_enter Try.func8, Try.ntmps8
  go_wp2
  go_loopg [4] k (fun kq v4 w' => ∃ (x4_1 : Int), v4 = .int .i64 x4_1 ∧ Aside0 (winnowerref12_Kind.l0 kq a0 x4_1 = some (r1, r2)) ∧ Aside0 (kq ≤ k) ∧ Aside0 (Below w.heap.size w w'))
  case atStart => exact ⟨(0), (by first | rfl | (simp; done) | (simp [*]; done)), H', ⟨Nat.le_refl _⟩, ⟨by repeat (first | (with_reducible first | exact HB.out | apply below_alloc | apply pw_below_drewN | apply below_drew1) | exact HB.out)⟩⟩
  case round =>
    clear H'
    obtain ⟨x4_1, rfl, HA, HK1, HB⟩ := hrel
    cases gk with
    | zero => exact absurd HA.out (by simp [winnowerref12_Kind.l0])
    | succ k1 =>
      have H := HA.out
      clear HA
      simp only [winnowerref12_Kind.l0] at H
      by_cases c2 : x4_1 < 9
      · rw [if_pos c2] at H
        have c2b0 : decide (x4_1 < 9) = true := decide_eq_true c2
        clear c2
        replace H := Option.bind_eq_some_iff.mp H
        obtain ⟨t113, A30, H⟩ := H
        replace H : (if t113.toList = a0.toList then (some (x4_1, true)) else (winnowerref12_Kind.l0 k1 a0 (wrap64 (x4_1 + 1)))) = some (r1, r2) := H
        have A3 := Aside0.mk A30
        clear A30
        by_cases c4 : t113.toList = a0.toList
        · rw [if_pos c4] at H
          have c4b0 : (t113.toList == a0.toList) = true := beq_iff_eq.mpr c4
          have c4b1 : (t113.toList != a0.toList) = false := bne_eq_false_iff_eq.mpr c4
          clear c4
          simp only [Option.some.injEq, Prod.mk.injEq] at H
          obtain ⟨rfl, rfl⟩ := H
          go_wp2_with (first | ((with_reducible refine gate_callee (f := 10) rfl ?_); refine goesL_ (some 10) rfl rfl Try.func10 (by kernel_rfl) rfl #[.int .i64 x4_1] rfl (by (try simp only [List.map_toArray, List.map_cons, List.map_nil]); first | done | rfl | (simp only [List.length_drop, List.length_take]; rfl)) ?_; (with_reducible refine (winnowerref12_Name.calls x4_1 t113 _ A3.out).mono ?_); rintro e w5 ⟨rfl, hb⟩; refine ⟨_, rfl, ?_⟩; have n0_ := Aside0.mk (below_step (by repeat (first | (with_reducible first | exact HB.out | apply below_alloc | apply pw_below_drewN | apply below_drew1) | exact HB.out)) hb); clear HB; have HB := n0_; clear n0_; (try clear hb); (try clear hb2); (try clear hk); (try clear hi)))
          go_ret2
          exact ⟨by first | rfl | (simp [errW_none, errW_some] <;> rfl) | (simp [*, errW_none, errW_some] <;> rfl), by repeat (first | (with_reducible first | exact HB.out | apply below_alloc | apply pw_below_drewN | apply below_drew1) | exact HB.out)⟩
        · rw [if_neg c4] at H
          have c4b0 : (t113.toList == a0.toList) = false := beq_eq_false_iff_ne.mpr c4
          have c4b1 : (t113.toList != a0.toList) = true := bne_iff_ne.mpr c4
          have H' := Aside0.mk H
          clear H
          go_wp2_with (first | ((with_reducible refine gate_callee (f := 10) rfl ?_); refine goesL_ (some 10) rfl rfl Try.func10 (by kernel_rfl) rfl #[.int .i64 x4_1] rfl (by (try simp only [List.map_toArray, List.map_cons, List.map_nil]); first | done | rfl | (simp only [List.length_drop, List.length_take]; rfl)) ?_; (with_reducible refine (winnowerref12_Name.calls x4_1 t113 _ A3.out).mono ?_); rintro e w6 ⟨rfl, hb⟩; refine ⟨_, rfl, ?_⟩; have n0_ := Aside0.mk (below_step (by repeat (first | (with_reducible first | exact HB.out | apply below_alloc | apply pw_below_drewN | apply below_drew1) | exact HB.out)) hb); clear HB; have HB := n0_; clear n0_; (try clear hb); (try clear hb2); (try clear hk); (try clear hi)))
          go_roundg k1
          case measure => have := HK1.out; omega
          case rel => exact ⟨(wrap64 (x4_1 + 1)), (by first | rfl | (simp; done) | (simp [*]; done)), H', ⟨by have := HK1.out; omega⟩, ⟨by repeat (first | (with_reducible first | exact HB.out | apply below_alloc | apply pw_below_drewN | apply below_drew1) | exact HB.out)⟩⟩
      · rw [if_neg c2] at H
        have c2b0 : decide (x4_1 < 9) = false := decide_eq_false c2
        clear c2
        simp only [Option.some.injEq, Prod.mk.injEq] at H
        obtain ⟨rfl, rfl⟩ := H
        go_wp2
        go_ret2
        exact ⟨by first | rfl | (simp [errW_none, errW_some] <;> rfl) | (simp [*, errW_none, errW_some] <;> rfl), by repeat (first | (with_reducible first | exact HB.out | apply below_alloc | apply pw_below_drewN | apply below_drew1) | exact HB.out)⟩

/-! ### rules_Name: function 9 -/
def rules_Name.f (a0 : Int) : Option (ByteArray) := if a0 < 0 then (some (⟨#[]⟩ : ByteArray)) else (if a0 ≥ 9 then (some (⟨#[]⟩ : ByteArray)) else ((rules_names.f).bind fun t114 => (if 0 ≤ a0 then (if a0 < (t114.length : Int) then (some (rdOf ByteArray.empty t114 a0)) else (none)) else (none))))
set_option maxHeartbeats 8000000 in
set_option maxRecDepth 100000 in
theorem rules_Name.calls (a0 : Int) (r : ByteArray) (w : World) (h : rules_Name.f a0 = some r) :
    Calls Try.prog 9 #[.int .i64 a0] w fun e w' => e = .returned (.string r) ∧ Below w.heap.size w w' := by
  have HB := Aside0.mk (Below.refl w.heap.size w)
  have H : (if a0 < 0 then (some (⟨#[]⟩ : ByteArray)) else (if a0 ≥ 9 then (some (⟨#[]⟩ : ByteArray)) else ((rules_names.f).bind fun t114 => (if 0 ≤ a0 then (if a0 < (t114.length : Int) then (some (rdOf ByteArray.empty t114 a0)) else (none)) else (none))))) = some r := h
  clear h
  by_cases c2 : a0 < 0
  · rw [if_pos c2] at H
    have c2b0 : decide (a0 < 0) = true := decide_eq_true c2
    clear c2
    obtain rfl := Option.some.inj H
    go_enter Try.func9, Try.ntmps9
    go_wp2
    go_ret
    exact ⟨by first | rfl | (simp [errW_none, errW_some] <;> rfl) | (simp [*, errW_none, errW_some] <;> rfl), by repeat (first | (with_reducible first | exact HB.out | apply below_alloc | apply pw_below_drewN | apply below_drew1) | exact HB.out)⟩
  · rw [if_neg c2] at H
    have c2b0 : decide (a0 < 0) = false := decide_eq_false c2
    clear c2
    by_cases c3 : a0 ≥ 9
    · rw [if_pos c3] at H
      have c3b0 : decide (9 ≤ a0) = true := decide_eq_true c3
      clear c3
      obtain rfl := Option.some.inj H
      go_enter Try.func9, Try.ntmps9
      go_wp2
      go_ret
      exact ⟨by first | rfl | (simp [errW_none, errW_some] <;> rfl) | (simp [*, errW_none, errW_some] <;> rfl), by repeat (first | (with_reducible first | exact HB.out | apply below_alloc | apply pw_below_drewN | apply below_drew1) | exact HB.out)⟩
    · rw [if_neg c3] at H
      have c3b0 : decide (9 ≤ a0) = false := decide_eq_false c3
      clear c3
      replace H := Option.bind_eq_some_iff.mp H
      obtain ⟨t114, A40, H⟩ := H
      replace H : (if 0 ≤ a0 then (if a0 < (t114.length : Int) then (some (rdOf ByteArray.empty t114 a0)) else (none)) else (none)) = some r := H
      have A4 := Aside0.mk A40
      clear A40
      by_cases c5 : 0 ≤ a0
      · rw [if_pos c5] at H
        have c5b0 : decide (0 ≤ a0) = true := decide_eq_true c5
        clear c5
        by_cases c6 : a0 < (t114.length : Int)
        · rw [if_pos c6] at H
          have c6b0 : decide (a0 < (t114.length : Int)) = true := decide_eq_true c6
          clear c6
          obtain rfl := Option.some.inj H
          go_enter Try.func9, Try.ntmps9
          go_wp2_with (first | ((with_reducible refine gate_callee (f := 32) rfl ?_); refine goesL_ (some 9) rfl rfl Try.func32 (by kernel_rfl) rfl #[] rfl (by (try simp only [List.map_toArray, List.map_cons, List.map_nil]); first | done | rfl | (simp only [List.length_drop, List.length_take]; rfl)) ?_; (with_reducible refine (rules_names.calls  t114 _ A4.out).mono ?_); rintro e w7 ⟨v115, rfl, ho0, hb⟩; refine ⟨_, rfl, ?_⟩; have n0_ := Aside0.mk (Kd.R_lower ho0 (below_size (by repeat (first | (with_reducible first | exact HB.out | apply below_alloc | apply pw_below_drewN | apply below_drew1) | exact HB.out)))); have n1_ := Aside0.mk (below_step (by repeat (first | (with_reducible first | exact HB.out | apply below_alloc | apply pw_below_drewN | apply below_drew1) | exact HB.out)) hb); clear HB; have HO116 := n0_; have HB := n1_; clear n0_ n1_; (try clear hb); (try clear hb2); (try clear hk); (try clear hi); (try clear ho0); obtain ⟨Ao8, co8, eo8⟩ := Kd.R_slice HO116.out; subst eo8; have p117 : 0 ≤ (a0 : Int) := of_decide_eq_true (by first | (with_reducible assumption) | assumption); have q117 : a0 < (t114.length : Int) := of_decide_eq_true (by first | (with_reducible assumption) | assumption); obtain ⟨ad117, e117, hx117_0⟩ := Kd.at_string (Kd.R_reads' HO116.out).2.2 a0 p117 q117; cases e117; replace p117 := eq_true p117; replace q117 := eq_true q117))
          go_ret
          exact ⟨by first | rfl | (simp [errW_none, errW_some] <;> rfl) | (simp [*, errW_none, errW_some] <;> rfl), by repeat (first | (with_reducible first | exact HB.out | apply below_alloc | apply pw_below_drewN | apply below_drew1) | exact HB.out)⟩
        · rw [if_neg c6] at H
          exact absurd H (by simp)
      · rw [if_neg c5] at H
        exact absurd H (by simp)

/-! ### rules_Pattern: function 11 -/
def rules_Pattern.f (a0 : Int) : Option (ByteArray) := if a0 = 0 then (some (⟨#[91, 48, 45, 57, 93, 123, 52, 125, 92, 120, 50, 100, 91, 48, 45, 57, 93, 123, 50, 125, 92, 120, 50, 100, 91, 48, 45, 57, 93, 123, 50, 125, 84, 91, 48, 45, 57, 93, 123, 50, 125, 58, 91, 48, 45, 57, 93, 123, 50, 125, 58, 91, 48, 45, 57, 93, 123, 50, 125]⟩ : ByteArray)) else (if a0 = 1 then (some (⟨#[91, 48, 45, 57, 93, 123, 49, 44, 51, 125, 40, 92, 46, 91, 48, 45, 57, 93, 123, 49, 44, 51, 125, 41, 123, 51, 125]⟩ : ByteArray)) else (if a0 = 2 then (some (⟨#[91, 48, 45, 57, 97, 45, 102, 93, 123, 50, 125, 40, 58, 91, 48, 45, 57, 97, 45, 102, 93, 123, 50, 125, 41, 123, 53, 125]⟩ : ByteArray)) else (if a0 = 3 then (some (⟨#[48, 120, 91, 48, 45, 57, 97, 45, 102, 65, 45, 70, 93, 43]⟩ : ByteArray)) else (if a0 = 4 then (some (⟨#[92, 45, 63, 91, 48, 45, 57, 93, 43, 40, 92, 46, 91, 48, 45, 57, 93, 43, 41, 63]⟩ : ByteArray)) else (if a0 = 5 then (some (⟨#[34, 40, 91, 94, 34, 92, 92, 93, 124, 92, 92, 46, 41, 42, 34]⟩ : ByteArray)) else (if a0 = 6 then (some (⟨#[91, 65, 45, 90, 97, 45, 122, 95, 93, 91, 65, 45, 90, 97, 45, 122, 48, 45, 57, 95, 93, 42]⟩ : ByteArray)) else (if a0 = 7 then (some (⟨#[91, 32, 92, 116, 93, 43]⟩ : ByteArray)) else (if a0 = 8 then (some (⟨#[46]⟩ : ByteArray)) else (some (⟨#[]⟩ : ByteArray))))))))))
set_option maxHeartbeats 8000000 in
set_option maxRecDepth 100000 in
theorem rules_Pattern.calls (a0 : Int) (r : ByteArray) (w : World) (h : rules_Pattern.f a0 = some r) :
    Calls Try.prog 11 #[.int .i64 a0] w fun e w' => e = .returned (.string r) ∧ Drawn0 w w' := by
  have H : (if a0 = 0 then (some (⟨#[91, 48, 45, 57, 93, 123, 52, 125, 92, 120, 50, 100, 91, 48, 45, 57, 93, 123, 50, 125, 92, 120, 50, 100, 91, 48, 45, 57, 93, 123, 50, 125, 84, 91, 48, 45, 57, 93, 123, 50, 125, 58, 91, 48, 45, 57, 93, 123, 50, 125, 58, 91, 48, 45, 57, 93, 123, 50, 125]⟩ : ByteArray)) else (if a0 = 1 then (some (⟨#[91, 48, 45, 57, 93, 123, 49, 44, 51, 125, 40, 92, 46, 91, 48, 45, 57, 93, 123, 49, 44, 51, 125, 41, 123, 51, 125]⟩ : ByteArray)) else (if a0 = 2 then (some (⟨#[91, 48, 45, 57, 97, 45, 102, 93, 123, 50, 125, 40, 58, 91, 48, 45, 57, 97, 45, 102, 93, 123, 50, 125, 41, 123, 53, 125]⟩ : ByteArray)) else (if a0 = 3 then (some (⟨#[48, 120, 91, 48, 45, 57, 97, 45, 102, 65, 45, 70, 93, 43]⟩ : ByteArray)) else (if a0 = 4 then (some (⟨#[92, 45, 63, 91, 48, 45, 57, 93, 43, 40, 92, 46, 91, 48, 45, 57, 93, 43, 41, 63]⟩ : ByteArray)) else (if a0 = 5 then (some (⟨#[34, 40, 91, 94, 34, 92, 92, 93, 124, 92, 92, 46, 41, 42, 34]⟩ : ByteArray)) else (if a0 = 6 then (some (⟨#[91, 65, 45, 90, 97, 45, 122, 95, 93, 91, 65, 45, 90, 97, 45, 122, 48, 45, 57, 95, 93, 42]⟩ : ByteArray)) else (if a0 = 7 then (some (⟨#[91, 32, 92, 116, 93, 43]⟩ : ByteArray)) else (if a0 = 8 then (some (⟨#[46]⟩ : ByteArray)) else (some (⟨#[]⟩ : ByteArray))))))))))) = some r := h
  clear h
  by_cases c2 : a0 = 0
  · rw [if_pos c2] at H
    have c2b0 : (a0 == 0) = true := beq_iff_eq.mpr c2
    have c2b1 : (a0 != 0) = false := bne_eq_false_iff_eq.mpr c2
    clear c2
    obtain rfl := Option.some.inj H
    go_enter Try.func11, Try.ntmps11
    go_wp2
    go_ret
    exact ⟨by first | rfl | (simp; done) | (simp [*]; done), by repeat (first | exact Drawn0.refl _ | apply Drawn0.step)⟩
  · rw [if_neg c2] at H
    have c2b0 : (a0 == 0) = false := beq_eq_false_iff_ne.mpr c2
    have c2b1 : (a0 != 0) = true := bne_iff_ne.mpr c2
    by_cases c3 : a0 = 1
    · rw [if_pos c3] at H
      have c3b0 : (a0 == 1) = true := beq_iff_eq.mpr c3
      have c3b1 : (a0 != 1) = false := bne_eq_false_iff_eq.mpr c3
      clear c3
      obtain rfl := Option.some.inj H
      go_enter Try.func11, Try.ntmps11
      go_wp2
      go_ret
      exact ⟨by first | rfl | (simp; done) | (simp [*]; done), by repeat (first | exact Drawn0.refl _ | apply Drawn0.step)⟩
    · rw [if_neg c3] at H
      have c3b0 : (a0 == 1) = false := beq_eq_false_iff_ne.mpr c3
      have c3b1 : (a0 != 1) = true := bne_iff_ne.mpr c3
      by_cases c4 : a0 = 2
      · rw [if_pos c4] at H
        have c4b0 : (a0 == 2) = true := beq_iff_eq.mpr c4
        have c4b1 : (a0 != 2) = false := bne_eq_false_iff_eq.mpr c4
        clear c4
        obtain rfl := Option.some.inj H
        go_enter Try.func11, Try.ntmps11
        go_wp2
        go_ret
        exact ⟨by first | rfl | (simp; done) | (simp [*]; done), by repeat (first | exact Drawn0.refl _ | apply Drawn0.step)⟩
      · rw [if_neg c4] at H
        have c4b0 : (a0 == 2) = false := beq_eq_false_iff_ne.mpr c4
        have c4b1 : (a0 != 2) = true := bne_iff_ne.mpr c4
        by_cases c5 : a0 = 3
        · rw [if_pos c5] at H
          have c5b0 : (a0 == 3) = true := beq_iff_eq.mpr c5
          have c5b1 : (a0 != 3) = false := bne_eq_false_iff_eq.mpr c5
          clear c5
          obtain rfl := Option.some.inj H
          go_enter Try.func11, Try.ntmps11
          go_wp2
          go_ret
          exact ⟨by first | rfl | (simp; done) | (simp [*]; done), by repeat (first | exact Drawn0.refl _ | apply Drawn0.step)⟩
        · rw [if_neg c5] at H
          have c5b0 : (a0 == 3) = false := beq_eq_false_iff_ne.mpr c5
          have c5b1 : (a0 != 3) = true := bne_iff_ne.mpr c5
          by_cases c6 : a0 = 4
          · rw [if_pos c6] at H
            have c6b0 : (a0 == 4) = true := beq_iff_eq.mpr c6
            have c6b1 : (a0 != 4) = false := bne_eq_false_iff_eq.mpr c6
            clear c6
            obtain rfl := Option.some.inj H
            go_enter Try.func11, Try.ntmps11
            go_wp2
            go_ret
            exact ⟨by first | rfl | (simp; done) | (simp [*]; done), by repeat (first | exact Drawn0.refl _ | apply Drawn0.step)⟩
          · rw [if_neg c6] at H
            have c6b0 : (a0 == 4) = false := beq_eq_false_iff_ne.mpr c6
            have c6b1 : (a0 != 4) = true := bne_iff_ne.mpr c6
            by_cases c7 : a0 = 5
            · rw [if_pos c7] at H
              have c7b0 : (a0 == 5) = true := beq_iff_eq.mpr c7
              have c7b1 : (a0 != 5) = false := bne_eq_false_iff_eq.mpr c7
              clear c7
              obtain rfl := Option.some.inj H
              go_enter Try.func11, Try.ntmps11
              go_wp2
              go_ret
              exact ⟨by first | rfl | (simp; done) | (simp [*]; done), by repeat (first | exact Drawn0.refl _ | apply Drawn0.step)⟩
            · rw [if_neg c7] at H
              have c7b0 : (a0 == 5) = false := beq_eq_false_iff_ne.mpr c7
              have c7b1 : (a0 != 5) = true := bne_iff_ne.mpr c7
              by_cases c8 : a0 = 6
              · rw [if_pos c8] at H
                have c8b0 : (a0 == 6) = true := beq_iff_eq.mpr c8
                have c8b1 : (a0 != 6) = false := bne_eq_false_iff_eq.mpr c8
                clear c8
                obtain rfl := Option.some.inj H
                go_enter Try.func11, Try.ntmps11
                go_wp2
                go_ret
                exact ⟨by first | rfl | (simp; done) | (simp [*]; done), by repeat (first | exact Drawn0.refl _ | apply Drawn0.step)⟩
              · rw [if_neg c8] at H
                have c8b0 : (a0 == 6) = false := beq_eq_false_iff_ne.mpr c8
                have c8b1 : (a0 != 6) = true := bne_iff_ne.mpr c8
                by_cases c9 : a0 = 7
                · rw [if_pos c9] at H
                  have c9b0 : (a0 == 7) = true := beq_iff_eq.mpr c9
                  have c9b1 : (a0 != 7) = false := bne_eq_false_iff_eq.mpr c9
                  clear c9
                  obtain rfl := Option.some.inj H
                  go_enter Try.func11, Try.ntmps11
                  go_wp2
                  go_ret
                  exact ⟨by first | rfl | (simp; done) | (simp [*]; done), by repeat (first | exact Drawn0.refl _ | apply Drawn0.step)⟩
                · rw [if_neg c9] at H
                  have c9b0 : (a0 == 7) = false := beq_eq_false_iff_ne.mpr c9
                  have c9b1 : (a0 != 7) = true := bne_iff_ne.mpr c9
                  by_cases c10 : a0 = 8
                  · rw [if_pos c10] at H
                    have c10b0 : (a0 == 8) = true := beq_iff_eq.mpr c10
                    have c10b1 : (a0 != 8) = false := bne_eq_false_iff_eq.mpr c10
                    clear c10
                    obtain rfl := Option.some.inj H
                    go_enter Try.func11, Try.ntmps11
                    go_wp2
                    go_ret
                    exact ⟨by first | rfl | (simp; done) | (simp [*]; done), by repeat (first | exact Drawn0.refl _ | apply Drawn0.step)⟩
                  · rw [if_neg c10] at H
                    have c10b0 : (a0 == 8) = false := beq_eq_false_iff_ne.mpr c10
                    have c10b1 : (a0 != 8) = true := bne_iff_ne.mpr c10
                    obtain rfl := Option.some.inj H
                    go_enter Try.func11, Try.ntmps11
                    go_wp2
                    go_ret
                    exact ⟨by first | rfl | (simp; done) | (simp [*]; done), by repeat (first | exact Drawn0.refl _ | apply Drawn0.step)⟩

/-! ### winnowerref12_Pattern: function 12 -/
def winnowerref12_Pattern.f (a0 : Int) : Option (ByteArray) := (some (([(⟨#[91, 48, 45, 57, 93, 123, 52, 125, 92, 120, 50, 100, 91, 48, 45, 57, 93, 123, 50, 125, 92, 120, 50, 100, 91, 48, 45, 57, 93, 123, 50, 125, 84, 91, 48, 45, 57, 93, 123, 50, 125, 58, 91, 48, 45, 57, 93, 123, 50, 125, 58, 91, 48, 45, 57, 93, 123, 50, 125]⟩ : ByteArray), (⟨#[91, 48, 45, 57, 93, 123, 49, 44, 51, 125, 40, 92, 46, 91, 48, 45, 57, 93, 123, 49, 44, 51, 125, 41, 123, 51, 125]⟩ : ByteArray), (⟨#[91, 48, 45, 57, 97, 45, 102, 93, 123, 50, 125, 40, 58, 91, 48, 45, 57, 97, 45, 102, 93, 123, 50, 125, 41, 123, 53, 125]⟩ : ByteArray), (⟨#[48, 120, 91, 48, 45, 57, 97, 45, 102, 65, 45, 70, 93, 43]⟩ : ByteArray), (⟨#[92, 45, 63, 91, 48, 45, 57, 93, 43, 40, 92, 46, 91, 48, 45, 57, 93, 43, 41, 63]⟩ : ByteArray), (⟨#[34, 40, 91, 94, 34, 92, 92, 93, 124, 92, 92, 46, 41, 42, 34]⟩ : ByteArray), (⟨#[91, 65, 45, 90, 97, 45, 122, 95, 93, 91, 65, 45, 90, 97, 45, 122, 48, 45, 57, 95, 93, 42]⟩ : ByteArray), (⟨#[91, 32, 92, 116, 93, 43]⟩ : ByteArray), (⟨#[46]⟩ : ByteArray)] : List ByteArray) : List ByteArray)).bind fun y118 => (if a0 < 0 then (some (⟨#[]⟩ : ByteArray)) else (if a0 ≥ (y118.length : Int) then (some (⟨#[]⟩ : ByteArray)) else (if 0 ≤ a0 then (if a0 < (y118.length : Int) then (some (rdOf ByteArray.empty y118 a0)) else (none)) else (none))))
set_option maxHeartbeats 8000000 in
set_option maxRecDepth 100000 in
theorem winnowerref12_Pattern.calls (a0 : Int) (r : ByteArray) (w : World) (h : winnowerref12_Pattern.f a0 = some r) :
    Calls Try.prog 12 #[.int .i64 a0] w fun e w' => e = .returned (.string r) ∧ Below w.heap.size w w' := by
  have HB := Aside0.mk (Below.refl w.heap.size w)
  have H : ((some (([(⟨#[91, 48, 45, 57, 93, 123, 52, 125, 92, 120, 50, 100, 91, 48, 45, 57, 93, 123, 50, 125, 92, 120, 50, 100, 91, 48, 45, 57, 93, 123, 50, 125, 84, 91, 48, 45, 57, 93, 123, 50, 125, 58, 91, 48, 45, 57, 93, 123, 50, 125, 58, 91, 48, 45, 57, 93, 123, 50, 125]⟩ : ByteArray), (⟨#[91, 48, 45, 57, 93, 123, 49, 44, 51, 125, 40, 92, 46, 91, 48, 45, 57, 93, 123, 49, 44, 51, 125, 41, 123, 51, 125]⟩ : ByteArray), (⟨#[91, 48, 45, 57, 97, 45, 102, 93, 123, 50, 125, 40, 58, 91, 48, 45, 57, 97, 45, 102, 93, 123, 50, 125, 41, 123, 53, 125]⟩ : ByteArray), (⟨#[48, 120, 91, 48, 45, 57, 97, 45, 102, 65, 45, 70, 93, 43]⟩ : ByteArray), (⟨#[92, 45, 63, 91, 48, 45, 57, 93, 43, 40, 92, 46, 91, 48, 45, 57, 93, 43, 41, 63]⟩ : ByteArray), (⟨#[34, 40, 91, 94, 34, 92, 92, 93, 124, 92, 92, 46, 41, 42, 34]⟩ : ByteArray), (⟨#[91, 65, 45, 90, 97, 45, 122, 95, 93, 91, 65, 45, 90, 97, 45, 122, 48, 45, 57, 95, 93, 42]⟩ : ByteArray), (⟨#[91, 32, 92, 116, 93, 43]⟩ : ByteArray), (⟨#[46]⟩ : ByteArray)] : List ByteArray) : List ByteArray)).bind fun y118 => (if a0 < 0 then (some (⟨#[]⟩ : ByteArray)) else (if a0 ≥ (y118.length : Int) then (some (⟨#[]⟩ : ByteArray)) else (if 0 ≤ a0 then (if a0 < (y118.length : Int) then (some (rdOf ByteArray.empty y118 a0)) else (none)) else (none))))) = some r := h
  clear h
  obtain ⟨y118, hy118⟩ : ∃ y_ : List ByteArray, y_ = (([(⟨#[91, 48, 45, 57, 93, 123, 52, 125, 92, 120, 50, 100, 91, 48, 45, 57, 93, 123, 50, 125, 92, 120, 50, 100, 91, 48, 45, 57, 93, 123, 50, 125, 84, 91, 48, 45, 57, 93, 123, 50, 125, 58, 91, 48, 45, 57, 93, 123, 50, 125, 58, 91, 48, 45, 57, 93, 123, 50, 125]⟩ : ByteArray), (⟨#[91, 48, 45, 57, 93, 123, 49, 44, 51, 125, 40, 92, 46, 91, 48, 45, 57, 93, 123, 49, 44, 51, 125, 41, 123, 51, 125]⟩ : ByteArray), (⟨#[91, 48, 45, 57, 97, 45, 102, 93, 123, 50, 125, 40, 58, 91, 48, 45, 57, 97, 45, 102, 93, 123, 50, 125, 41, 123, 53, 125]⟩ : ByteArray), (⟨#[48, 120, 91, 48, 45, 57, 97, 45, 102, 65, 45, 70, 93, 43]⟩ : ByteArray), (⟨#[92, 45, 63, 91, 48, 45, 57, 93, 43, 40, 92, 46, 91, 48, 45, 57, 93, 43, 41, 63]⟩ : ByteArray), (⟨#[34, 40, 91, 94, 34, 92, 92, 93, 124, 92, 92, 46, 41, 42, 34]⟩ : ByteArray), (⟨#[91, 65, 45, 90, 97, 45, 122, 95, 93, 91, 65, 45, 90, 97, 45, 122, 48, 45, 57, 95, 93, 42]⟩ : ByteArray), (⟨#[91, 32, 92, 116, 93, 43]⟩ : ByteArray), (⟨#[46]⟩ : ByteArray)] : List ByteArray)) := ⟨_, rfl⟩
  replace H : (if a0 < 0 then (some (⟨#[]⟩ : ByteArray)) else (if a0 ≥ (y118.length : Int) then (some (⟨#[]⟩ : ByteArray)) else (if 0 ≤ a0 then (if a0 < (y118.length : Int) then (some (rdOf ByteArray.empty y118 a0)) else (none)) else (none)))) = some r := by first | (rw [hy118]; with_reducible exact H) | (have H2_ := (Option.bind_some _ _).symm.trans H; rw [hy118]; with_reducible exact H2_) | (have H2_ := (Option.bind_some _ _).symm.trans H; with_reducible exact H2_) | with_reducible exact H | (rw [hy118]; exact H) | exact H
  have Ny118 := Aside0.mk hy118
  clear hy118
  by_cases c2 : a0 < 0
  · rw [if_pos c2] at H
    have c2b0 : decide (a0 < 0) = true := decide_eq_true c2
    clear c2
    obtain rfl := Option.some.inj H
    go_enter Try.func12, Try.ntmps12
    go_wp2_with (first | ((with_reducible refine gate_dst (N := 4) rfl ?_); (try (refine gate_guard (by rfl) ?_; dsimp only)); refine Kd.R_lit Kd.string _ 9 ?hg (N := 4) ?hd (xs := ([(⟨#[91, 48, 45, 57, 93, 123, 52, 125, 92, 120, 50, 100, 91, 48, 45, 57, 93, 123, 50, 125, 92, 120, 50, 100, 91, 48, 45, 57, 93, 123, 50, 125, 84, 91, 48, 45, 57, 93, 123, 50, 125, 58, 91, 48, 45, 57, 93, 123, 50, 125, 58, 91, 48, 45, 57, 93, 123, 50, 125]⟩ : ByteArray), (⟨#[91, 48, 45, 57, 93, 123, 49, 44, 51, 125, 40, 92, 46, 91, 48, 45, 57, 93, 123, 49, 44, 51, 125, 41, 123, 51, 125]⟩ : ByteArray), (⟨#[91, 48, 45, 57, 97, 45, 102, 93, 123, 50, 125, 40, 58, 91, 48, 45, 57, 97, 45, 102, 93, 123, 50, 125, 41, 123, 53, 125]⟩ : ByteArray), (⟨#[48, 120, 91, 48, 45, 57, 97, 45, 102, 65, 45, 70, 93, 43]⟩ : ByteArray), (⟨#[92, 45, 63, 91, 48, 45, 57, 93, 43, 40, 92, 46, 91, 48, 45, 57, 93, 43, 41, 63]⟩ : ByteArray), (⟨#[34, 40, 91, 94, 34, 92, 92, 93, 124, 92, 92, 46, 41, 42, 34]⟩ : ByteArray), (⟨#[91, 65, 45, 90, 97, 45, 122, 95, 93, 91, 65, 45, 90, 97, 45, 122, 48, 45, 57, 95, 93, 42]⟩ : ByteArray), (⟨#[91, 32, 92, 116, 93, 43]⟩ : ByteArray), (⟨#[46]⟩ : ByteArray)] : List ByteArray)) (inner := [.string (⟨#[91, 48, 45, 57, 93, 123, 52, 125, 92, 120, 50, 100, 91, 48, 45, 57, 93, 123, 50, 125, 92, 120, 50, 100, 91, 48, 45, 57, 93, 123, 50, 125, 84, 91, 48, 45, 57, 93, 123, 50, 125, 58, 91, 48, 45, 57, 93, 123, 50, 125, 58, 91, 48, 45, 57, 93, 123, 50, 125]⟩ : ByteArray), .string (⟨#[91, 48, 45, 57, 93, 123, 49, 44, 51, 125, 40, 92, 46, 91, 48, 45, 57, 93, 123, 49, 44, 51, 125, 41, 123, 51, 125]⟩ : ByteArray), .string (⟨#[91, 48, 45, 57, 97, 45, 102, 93, 123, 50, 125, 40, 58, 91, 48, 45, 57, 97, 45, 102, 93, 123, 50, 125, 41, 123, 53, 125]⟩ : ByteArray), .string (⟨#[48, 120, 91, 48, 45, 57, 97, 45, 102, 65, 45, 70, 93, 43]⟩ : ByteArray), .string (⟨#[92, 45, 63, 91, 48, 45, 57, 93, 43, 40, 92, 46, 91, 48, 45, 57, 93, 43, 41, 63]⟩ : ByteArray), .string (⟨#[34, 40, 91, 94, 34, 92, 92, 93, 124, 92, 92, 46, 41, 42, 34]⟩ : ByteArray), .string (⟨#[91, 65, 45, 90, 97, 45, 122, 95, 93, 91, 65, 45, 90, 97, 45, 122, 48, 45, 57, 95, 93, 42]⟩ : ByteArray), .string (⟨#[91, 32, 92, 116, 93, 43]⟩ : ByteArray), .string (⟨#[46]⟩ : ByteArray)]) (ok := fun _ => True) (okp := fun _ => True) ?hr ?hp (fun _ hk => hk) trivial (Below.refl _ _) (Nat.le_refl _) (by simp) ?_; (case hd => rfl); (case hg => rfl); (case hr => first | (go_simp; done) | (go_simp; rfl)); (case hp => exact (Reps.one (show Kd.M Kd.string _ _ _ (⟨#[91, 48, 45, 57, 93, 123, 52, 125, 92, 120, 50, 100, 91, 48, 45, 57, 93, 123, 50, 125, 92, 120, 50, 100, 91, 48, 45, 57, 93, 123, 50, 125, 84, 91, 48, 45, 57, 93, 123, 50, 125, 58, 91, 48, 45, 57, 93, 123, 50, 125, 58, 91, 48, 45, 57, 93, 123, 50, 125]⟩ : ByteArray) [.string (⟨#[91, 48, 45, 57, 93, 123, 52, 125, 92, 120, 50, 100, 91, 48, 45, 57, 93, 123, 50, 125, 92, 120, 50, 100, 91, 48, 45, 57, 93, 123, 50, 125, 84, 91, 48, 45, 57, 93, 123, 50, 125, 58, 91, 48, 45, 57, 93, 123, 50, 125, 58, 91, 48, 45, 57, 93, 123, 50, 125]⟩ : ByteArray)] from rfl) (Reps.one (show Kd.M Kd.string _ _ _ (⟨#[91, 48, 45, 57, 93, 123, 49, 44, 51, 125, 40, 92, 46, 91, 48, 45, 57, 93, 123, 49, 44, 51, 125, 41, 123, 51, 125]⟩ : ByteArray) [.string (⟨#[91, 48, 45, 57, 93, 123, 49, 44, 51, 125, 40, 92, 46, 91, 48, 45, 57, 93, 123, 49, 44, 51, 125, 41, 123, 51, 125]⟩ : ByteArray)] from rfl) (Reps.one (show Kd.M Kd.string _ _ _ (⟨#[91, 48, 45, 57, 97, 45, 102, 93, 123, 50, 125, 40, 58, 91, 48, 45, 57, 97, 45, 102, 93, 123, 50, 125, 41, 123, 53, 125]⟩ : ByteArray) [.string (⟨#[91, 48, 45, 57, 97, 45, 102, 93, 123, 50, 125, 40, 58, 91, 48, 45, 57, 97, 45, 102, 93, 123, 50, 125, 41, 123, 53, 125]⟩ : ByteArray)] from rfl) (Reps.one (show Kd.M Kd.string _ _ _ (⟨#[48, 120, 91, 48, 45, 57, 97, 45, 102, 65, 45, 70, 93, 43]⟩ : ByteArray) [.string (⟨#[48, 120, 91, 48, 45, 57, 97, 45, 102, 65, 45, 70, 93, 43]⟩ : ByteArray)] from rfl) (Reps.one (show Kd.M Kd.string _ _ _ (⟨#[92, 45, 63, 91, 48, 45, 57, 93, 43, 40, 92, 46, 91, 48, 45, 57, 93, 43, 41, 63]⟩ : ByteArray) [.string (⟨#[92, 45, 63, 91, 48, 45, 57, 93, 43, 40, 92, 46, 91, 48, 45, 57, 93, 43, 41, 63]⟩ : ByteArray)] from rfl) (Reps.one (show Kd.M Kd.string _ _ _ (⟨#[34, 40, 91, 94, 34, 92, 92, 93, 124, 92, 92, 46, 41, 42, 34]⟩ : ByteArray) [.string (⟨#[34, 40, 91, 94, 34, 92, 92, 93, 124, 92, 92, 46, 41, 42, 34]⟩ : ByteArray)] from rfl) (Reps.one (show Kd.M Kd.string _ _ _ (⟨#[91, 65, 45, 90, 97, 45, 122, 95, 93, 91, 65, 45, 90, 97, 45, 122, 48, 45, 57, 95, 93, 42]⟩ : ByteArray) [.string (⟨#[91, 65, 45, 90, 97, 45, 122, 95, 93, 91, 65, 45, 90, 97, 45, 122, 48, 45, 57, 95, 93, 42]⟩ : ByteArray)] from rfl) (Reps.one (show Kd.M Kd.string _ _ _ (⟨#[91, 32, 92, 116, 93, 43]⟩ : ByteArray) [.string (⟨#[91, 32, 92, 116, 93, 43]⟩ : ByteArray)] from rfl) (Reps.one (show Kd.M Kd.string _ _ _ (⟨#[46]⟩ : ByteArray) [.string (⟨#[46]⟩ : ByteArray)] from rfl) (Reps.none _ _))))))))))); intro v119 w3 ho4 hb hg_ hnew_; clear hg_ hnew_; (first | rw [← Ny118.out] at ho4 | (simp only [Int.reduceToNat] at ho4; rw [← Ny118.out] at ho4)); have n0_ := Aside0.mk (Kd.R_lower ho4 (below_size (by repeat (first | (with_reducible first | exact HB.out | apply below_alloc | apply pw_below_drewN | apply below_drew1) | exact HB.out)))); have n1_ := Aside0.mk (below_step (by repeat (first | (with_reducible first | exact HB.out | apply below_alloc | apply pw_below_drewN | apply below_drew1) | exact HB.out)) hb); clear HB; have HO120 := n0_; have HB := n1_; clear n0_ n1_; clear hb ho4))
    go_ret
    exact ⟨by first | rfl | (simp [errW_none, errW_some] <;> rfl) | (simp [*, errW_none, errW_some] <;> rfl), by repeat (first | (with_reducible first | exact HB.out | apply below_alloc | apply pw_below_drewN | apply below_drew1) | exact HB.out)⟩
  · rw [if_neg c2] at H
    have c2b0 : decide (a0 < 0) = false := decide_eq_false c2
    clear c2
    by_cases c5 : a0 ≥ (y118.length : Int)
    · rw [if_pos c5] at H
      have c5b0 : decide ((y118.length : Int) ≤ a0) = true := decide_eq_true c5
      clear c5
      obtain rfl := Option.some.inj H
      go_enter Try.func12, Try.ntmps12
      go_wp2_with (first | ((with_reducible refine gate_dst (N := 4) rfl ?_); (try (refine gate_guard (by rfl) ?_; dsimp only)); refine Kd.R_lit Kd.string _ 9 ?hg (N := 4) ?hd (xs := ([(⟨#[91, 48, 45, 57, 93, 123, 52, 125, 92, 120, 50, 100, 91, 48, 45, 57, 93, 123, 50, 125, 92, 120, 50, 100, 91, 48, 45, 57, 93, 123, 50, 125, 84, 91, 48, 45, 57, 93, 123, 50, 125, 58, 91, 48, 45, 57, 93, 123, 50, 125, 58, 91, 48, 45, 57, 93, 123, 50, 125]⟩ : ByteArray), (⟨#[91, 48, 45, 57, 93, 123, 49, 44, 51, 125, 40, 92, 46, 91, 48, 45, 57, 93, 123, 49, 44, 51, 125, 41, 123, 51, 125]⟩ : ByteArray), (⟨#[91, 48, 45, 57, 97, 45, 102, 93, 123, 50, 125, 40, 58, 91, 48, 45, 57, 97, 45, 102, 93, 123, 50, 125, 41, 123, 53, 125]⟩ : ByteArray), (⟨#[48, 120, 91, 48, 45, 57, 97, 45, 102, 65, 45, 70, 93, 43]⟩ : ByteArray), (⟨#[92, 45, 63, 91, 48, 45, 57, 93, 43, 40, 92, 46, 91, 48, 45, 57, 93, 43, 41, 63]⟩ : ByteArray), (⟨#[34, 40, 91, 94, 34, 92, 92, 93, 124, 92, 92, 46, 41, 42, 34]⟩ : ByteArray), (⟨#[91, 65, 45, 90, 97, 45, 122, 95, 93, 91, 65, 45, 90, 97, 45, 122, 48, 45, 57, 95, 93, 42]⟩ : ByteArray), (⟨#[91, 32, 92, 116, 93, 43]⟩ : ByteArray), (⟨#[46]⟩ : ByteArray)] : List ByteArray)) (inner := [.string (⟨#[91, 48, 45, 57, 93, 123, 52, 125, 92, 120, 50, 100, 91, 48, 45, 57, 93, 123, 50, 125, 92, 120, 50, 100, 91, 48, 45, 57, 93, 123, 50, 125, 84, 91, 48, 45, 57, 93, 123, 50, 125, 58, 91, 48, 45, 57, 93, 123, 50, 125, 58, 91, 48, 45, 57, 93, 123, 50, 125]⟩ : ByteArray), .string (⟨#[91, 48, 45, 57, 93, 123, 49, 44, 51, 125, 40, 92, 46, 91, 48, 45, 57, 93, 123, 49, 44, 51, 125, 41, 123, 51, 125]⟩ : ByteArray), .string (⟨#[91, 48, 45, 57, 97, 45, 102, 93, 123, 50, 125, 40, 58, 91, 48, 45, 57, 97, 45, 102, 93, 123, 50, 125, 41, 123, 53, 125]⟩ : ByteArray), .string (⟨#[48, 120, 91, 48, 45, 57, 97, 45, 102, 65, 45, 70, 93, 43]⟩ : ByteArray), .string (⟨#[92, 45, 63, 91, 48, 45, 57, 93, 43, 40, 92, 46, 91, 48, 45, 57, 93, 43, 41, 63]⟩ : ByteArray), .string (⟨#[34, 40, 91, 94, 34, 92, 92, 93, 124, 92, 92, 46, 41, 42, 34]⟩ : ByteArray), .string (⟨#[91, 65, 45, 90, 97, 45, 122, 95, 93, 91, 65, 45, 90, 97, 45, 122, 48, 45, 57, 95, 93, 42]⟩ : ByteArray), .string (⟨#[91, 32, 92, 116, 93, 43]⟩ : ByteArray), .string (⟨#[46]⟩ : ByteArray)]) (ok := fun _ => True) (okp := fun _ => True) ?hr ?hp (fun _ hk => hk) trivial (Below.refl _ _) (Nat.le_refl _) (by simp) ?_; (case hd => rfl); (case hg => rfl); (case hr => first | (go_simp; done) | (go_simp; rfl)); (case hp => exact (Reps.one (show Kd.M Kd.string _ _ _ (⟨#[91, 48, 45, 57, 93, 123, 52, 125, 92, 120, 50, 100, 91, 48, 45, 57, 93, 123, 50, 125, 92, 120, 50, 100, 91, 48, 45, 57, 93, 123, 50, 125, 84, 91, 48, 45, 57, 93, 123, 50, 125, 58, 91, 48, 45, 57, 93, 123, 50, 125, 58, 91, 48, 45, 57, 93, 123, 50, 125]⟩ : ByteArray) [.string (⟨#[91, 48, 45, 57, 93, 123, 52, 125, 92, 120, 50, 100, 91, 48, 45, 57, 93, 123, 50, 125, 92, 120, 50, 100, 91, 48, 45, 57, 93, 123, 50, 125, 84, 91, 48, 45, 57, 93, 123, 50, 125, 58, 91, 48, 45, 57, 93, 123, 50, 125, 58, 91, 48, 45, 57, 93, 123, 50, 125]⟩ : ByteArray)] from rfl) (Reps.one (show Kd.M Kd.string _ _ _ (⟨#[91, 48, 45, 57, 93, 123, 49, 44, 51, 125, 40, 92, 46, 91, 48, 45, 57, 93, 123, 49, 44, 51, 125, 41, 123, 51, 125]⟩ : ByteArray) [.string (⟨#[91, 48, 45, 57, 93, 123, 49, 44, 51, 125, 40, 92, 46, 91, 48, 45, 57, 93, 123, 49, 44, 51, 125, 41, 123, 51, 125]⟩ : ByteArray)] from rfl) (Reps.one (show Kd.M Kd.string _ _ _ (⟨#[91, 48, 45, 57, 97, 45, 102, 93, 123, 50, 125, 40, 58, 91, 48, 45, 57, 97, 45, 102, 93, 123, 50, 125, 41, 123, 53, 125]⟩ : ByteArray) [.string (⟨#[91, 48, 45, 57, 97, 45, 102, 93, 123, 50, 125, 40, 58, 91, 48, 45, 57, 97, 45, 102, 93, 123, 50, 125, 41, 123, 53, 125]⟩ : ByteArray)] from rfl) (Reps.one (show Kd.M Kd.string _ _ _ (⟨#[48, 120, 91, 48, 45, 57, 97, 45, 102, 65, 45, 70, 93, 43]⟩ : ByteArray) [.string (⟨#[48, 120, 91, 48, 45, 57, 97, 45, 102, 65, 45, 70, 93, 43]⟩ : ByteArray)] from rfl) (Reps.one (show Kd.M Kd.string _ _ _ (⟨#[92, 45, 63, 91, 48, 45, 57, 93, 43, 40, 92, 46, 91, 48, 45, 57, 93, 43, 41, 63]⟩ : ByteArray) [.string (⟨#[92, 45, 63, 91, 48, 45, 57, 93, 43, 40, 92, 46, 91, 48, 45, 57, 93, 43, 41, 63]⟩ : ByteArray)] from rfl) (Reps.one (show Kd.M Kd.string _ _ _ (⟨#[34, 40, 91, 94, 34, 92, 92, 93, 124, 92, 92, 46, 41, 42, 34]⟩ : ByteArray) [.string (⟨#[34, 40, 91, 94, 34, 92, 92, 93, 124, 92, 92, 46, 41, 42, 34]⟩ : ByteArray)] from rfl) (Reps.one (show Kd.M Kd.string _ _ _ (⟨#[91, 65, 45, 90, 97, 45, 122, 95, 93, 91, 65, 45, 90, 97, 45, 122, 48, 45, 57, 95, 93, 42]⟩ : ByteArray) [.string (⟨#[91, 65, 45, 90, 97, 45, 122, 95, 93, 91, 65, 45, 90, 97, 45, 122, 48, 45, 57, 95, 93, 42]⟩ : ByteArray)] from rfl) (Reps.one (show Kd.M Kd.string _ _ _ (⟨#[91, 32, 92, 116, 93, 43]⟩ : ByteArray) [.string (⟨#[91, 32, 92, 116, 93, 43]⟩ : ByteArray)] from rfl) (Reps.one (show Kd.M Kd.string _ _ _ (⟨#[46]⟩ : ByteArray) [.string (⟨#[46]⟩ : ByteArray)] from rfl) (Reps.none _ _))))))))))); intro v119 w6 ho7 hb hg_ hnew_; clear hg_ hnew_; (first | rw [← Ny118.out] at ho7 | (simp only [Int.reduceToNat] at ho7; rw [← Ny118.out] at ho7)); have n0_ := Aside0.mk (Kd.R_lower ho7 (below_size (by repeat (first | (with_reducible first | exact HB.out | apply below_alloc | apply pw_below_drewN | apply below_drew1) | exact HB.out)))); have n1_ := Aside0.mk (below_step (by repeat (first | (with_reducible first | exact HB.out | apply below_alloc | apply pw_below_drewN | apply below_drew1) | exact HB.out)) hb); clear HB; have HO120 := n0_; have HB := n1_; clear n0_ n1_; clear hb ho7; obtain ⟨Ao8, co8, eo8⟩ := Kd.R_slice HO120.out; subst eo8))
      go_ret
      exact ⟨by first | rfl | (simp [errW_none, errW_some] <;> rfl) | (simp [*, errW_none, errW_some] <;> rfl), by repeat (first | (with_reducible first | exact HB.out | apply below_alloc | apply pw_below_drewN | apply below_drew1) | exact HB.out)⟩
    · rw [if_neg c5] at H
      have c5b0 : decide ((y118.length : Int) ≤ a0) = false := decide_eq_false c5
      clear c5
      by_cases c9 : 0 ≤ a0
      · rw [if_pos c9] at H
        have c9b0 : decide (0 ≤ a0) = true := decide_eq_true c9
        clear c9
        by_cases c10 : a0 < (y118.length : Int)
        · rw [if_pos c10] at H
          have c10b0 : decide (a0 < (y118.length : Int)) = true := decide_eq_true c10
          clear c10
          obtain rfl := Option.some.inj H
          go_enter Try.func12, Try.ntmps12
          go_wp2_with (first | ((with_reducible refine gate_dst (N := 4) rfl ?_); (try (refine gate_guard (by rfl) ?_; dsimp only)); refine Kd.R_lit Kd.string _ 9 ?hg (N := 4) ?hd (xs := ([(⟨#[91, 48, 45, 57, 93, 123, 52, 125, 92, 120, 50, 100, 91, 48, 45, 57, 93, 123, 50, 125, 92, 120, 50, 100, 91, 48, 45, 57, 93, 123, 50, 125, 84, 91, 48, 45, 57, 93, 123, 50, 125, 58, 91, 48, 45, 57, 93, 123, 50, 125, 58, 91, 48, 45, 57, 93, 123, 50, 125]⟩ : ByteArray), (⟨#[91, 48, 45, 57, 93, 123, 49, 44, 51, 125, 40, 92, 46, 91, 48, 45, 57, 93, 123, 49, 44, 51, 125, 41, 123, 51, 125]⟩ : ByteArray), (⟨#[91, 48, 45, 57, 97, 45, 102, 93, 123, 50, 125, 40, 58, 91, 48, 45, 57, 97, 45, 102, 93, 123, 50, 125, 41, 123, 53, 125]⟩ : ByteArray), (⟨#[48, 120, 91, 48, 45, 57, 97, 45, 102, 65, 45, 70, 93, 43]⟩ : ByteArray), (⟨#[92, 45, 63, 91, 48, 45, 57, 93, 43, 40, 92, 46, 91, 48, 45, 57, 93, 43, 41, 63]⟩ : ByteArray), (⟨#[34, 40, 91, 94, 34, 92, 92, 93, 124, 92, 92, 46, 41, 42, 34]⟩ : ByteArray), (⟨#[91, 65, 45, 90, 97, 45, 122, 95, 93, 91, 65, 45, 90, 97, 45, 122, 48, 45, 57, 95, 93, 42]⟩ : ByteArray), (⟨#[91, 32, 92, 116, 93, 43]⟩ : ByteArray), (⟨#[46]⟩ : ByteArray)] : List ByteArray)) (inner := [.string (⟨#[91, 48, 45, 57, 93, 123, 52, 125, 92, 120, 50, 100, 91, 48, 45, 57, 93, 123, 50, 125, 92, 120, 50, 100, 91, 48, 45, 57, 93, 123, 50, 125, 84, 91, 48, 45, 57, 93, 123, 50, 125, 58, 91, 48, 45, 57, 93, 123, 50, 125, 58, 91, 48, 45, 57, 93, 123, 50, 125]⟩ : ByteArray), .string (⟨#[91, 48, 45, 57, 93, 123, 49, 44, 51, 125, 40, 92, 46, 91, 48, 45, 57, 93, 123, 49, 44, 51, 125, 41, 123, 51, 125]⟩ : ByteArray), .string (⟨#[91, 48, 45, 57, 97, 45, 102, 93, 123, 50, 125, 40, 58, 91, 48, 45, 57, 97, 45, 102, 93, 123, 50, 125, 41, 123, 53, 125]⟩ : ByteArray), .string (⟨#[48, 120, 91, 48, 45, 57, 97, 45, 102, 65, 45, 70, 93, 43]⟩ : ByteArray), .string (⟨#[92, 45, 63, 91, 48, 45, 57, 93, 43, 40, 92, 46, 91, 48, 45, 57, 93, 43, 41, 63]⟩ : ByteArray), .string (⟨#[34, 40, 91, 94, 34, 92, 92, 93, 124, 92, 92, 46, 41, 42, 34]⟩ : ByteArray), .string (⟨#[91, 65, 45, 90, 97, 45, 122, 95, 93, 91, 65, 45, 90, 97, 45, 122, 48, 45, 57, 95, 93, 42]⟩ : ByteArray), .string (⟨#[91, 32, 92, 116, 93, 43]⟩ : ByteArray), .string (⟨#[46]⟩ : ByteArray)]) (ok := fun _ => True) (okp := fun _ => True) ?hr ?hp (fun _ hk => hk) trivial (Below.refl _ _) (Nat.le_refl _) (by simp) ?_; (case hd => rfl); (case hg => rfl); (case hr => first | (go_simp; done) | (go_simp; rfl)); (case hp => exact (Reps.one (show Kd.M Kd.string _ _ _ (⟨#[91, 48, 45, 57, 93, 123, 52, 125, 92, 120, 50, 100, 91, 48, 45, 57, 93, 123, 50, 125, 92, 120, 50, 100, 91, 48, 45, 57, 93, 123, 50, 125, 84, 91, 48, 45, 57, 93, 123, 50, 125, 58, 91, 48, 45, 57, 93, 123, 50, 125, 58, 91, 48, 45, 57, 93, 123, 50, 125]⟩ : ByteArray) [.string (⟨#[91, 48, 45, 57, 93, 123, 52, 125, 92, 120, 50, 100, 91, 48, 45, 57, 93, 123, 50, 125, 92, 120, 50, 100, 91, 48, 45, 57, 93, 123, 50, 125, 84, 91, 48, 45, 57, 93, 123, 50, 125, 58, 91, 48, 45, 57, 93, 123, 50, 125, 58, 91, 48, 45, 57, 93, 123, 50, 125]⟩ : ByteArray)] from rfl) (Reps.one (show Kd.M Kd.string _ _ _ (⟨#[91, 48, 45, 57, 93, 123, 49, 44, 51, 125, 40, 92, 46, 91, 48, 45, 57, 93, 123, 49, 44, 51, 125, 41, 123, 51, 125]⟩ : ByteArray) [.string (⟨#[91, 48, 45, 57, 93, 123, 49, 44, 51, 125, 40, 92, 46, 91, 48, 45, 57, 93, 123, 49, 44, 51, 125, 41, 123, 51, 125]⟩ : ByteArray)] from rfl) (Reps.one (show Kd.M Kd.string _ _ _ (⟨#[91, 48, 45, 57, 97, 45, 102, 93, 123, 50, 125, 40, 58, 91, 48, 45, 57, 97, 45, 102, 93, 123, 50, 125, 41, 123, 53, 125]⟩ : ByteArray) [.string (⟨#[91, 48, 45, 57, 97, 45, 102, 93, 123, 50, 125, 40, 58, 91, 48, 45, 57, 97, 45, 102, 93, 123, 50, 125, 41, 123, 53, 125]⟩ : ByteArray)] from rfl) (Reps.one (show Kd.M Kd.string _ _ _ (⟨#[48, 120, 91, 48, 45, 57, 97, 45, 102, 65, 45, 70, 93, 43]⟩ : ByteArray) [.string (⟨#[48, 120, 91, 48, 45, 57, 97, 45, 102, 65, 45, 70, 93, 43]⟩ : ByteArray)] from rfl) (Reps.one (show Kd.M Kd.string _ _ _ (⟨#[92, 45, 63, 91, 48, 45, 57, 93, 43, 40, 92, 46, 91, 48, 45, 57, 93, 43, 41, 63]⟩ : ByteArray) [.string (⟨#[92, 45, 63, 91, 48, 45, 57, 93, 43, 40, 92, 46, 91, 48, 45, 57, 93, 43, 41, 63]⟩ : ByteArray)] from rfl) (Reps.one (show Kd.M Kd.string _ _ _ (⟨#[34, 40, 91, 94, 34, 92, 92, 93, 124, 92, 92, 46, 41, 42, 34]⟩ : ByteArray) [.string (⟨#[34, 40, 91, 94, 34, 92, 92, 93, 124, 92, 92, 46, 41, 42, 34]⟩ : ByteArray)] from rfl) (Reps.one (show Kd.M Kd.string _ _ _ (⟨#[91, 65, 45, 90, 97, 45, 122, 95, 93, 91, 65, 45, 90, 97, 45, 122, 48, 45, 57, 95, 93, 42]⟩ : ByteArray) [.string (⟨#[91, 65, 45, 90, 97, 45, 122, 95, 93, 91, 65, 45, 90, 97, 45, 122, 48, 45, 57, 95, 93, 42]⟩ : ByteArray)] from rfl) (Reps.one (show Kd.M Kd.string _ _ _ (⟨#[91, 32, 92, 116, 93, 43]⟩ : ByteArray) [.string (⟨#[91, 32, 92, 116, 93, 43]⟩ : ByteArray)] from rfl) (Reps.one (show Kd.M Kd.string _ _ _ (⟨#[46]⟩ : ByteArray) [.string (⟨#[46]⟩ : ByteArray)] from rfl) (Reps.none _ _))))))))))); intro v119 w11 ho12 hb hg_ hnew_; clear hg_ hnew_; (first | rw [← Ny118.out] at ho12 | (simp only [Int.reduceToNat] at ho12; rw [← Ny118.out] at ho12)); have n0_ := Aside0.mk (Kd.R_lower ho12 (below_size (by repeat (first | (with_reducible first | exact HB.out | apply below_alloc | apply pw_below_drewN | apply below_drew1) | exact HB.out)))); have n1_ := Aside0.mk (below_step (by repeat (first | (with_reducible first | exact HB.out | apply below_alloc | apply pw_below_drewN | apply below_drew1) | exact HB.out)) hb); clear HB; have HO120 := n0_; have HB := n1_; clear n0_ n1_; clear hb ho12; obtain ⟨Ao13, co13, eo13⟩ := Kd.R_slice HO120.out; subst eo13; have p121 : 0 ≤ (a0 : Int) := of_decide_eq_true (by first | (with_reducible assumption) | assumption); have q121 : a0 < (y118.length : Int) := of_decide_eq_true (by first | (with_reducible assumption) | assumption); obtain ⟨ad121, e121, hx121_0⟩ := Kd.at_string (Kd.R_reads' HO120.out).2.2 a0 p121 q121; cases e121; replace p121 := eq_true p121; replace q121 := eq_true q121))
          go_ret
          exact ⟨by first | rfl | (simp [errW_none, errW_some] <;> rfl) | (simp [*, errW_none, errW_some] <;> rfl), by repeat (first | (with_reducible first | exact HB.out | apply below_alloc | apply pw_below_drewN | apply below_drew1) | exact HB.out)⟩
        · rw [if_neg c10] at H
          exact absurd H (by simp)
      · rw [if_neg c9] at H
        exact absurd H (by simp)

/-! ### winnowerlaw12_known: function 13 -/
def winnowerlaw12_known.f (k : Nat)  : Option (Bool) := (rules_Kind.f k (⟨#[105, 112]⟩ : ByteArray)).bind fun bt122 => (if bt122.2 = true then (if bt122.1 = 1 then ((rules_Name.f 8).bind fun t124 => (some (t124.toList == ([111, 116, 104, 101, 114] : List UInt8)))) else (some false)) else (some false))
theorem winnowerlaw12_known.mono : ∀ k, LeO (winnowerlaw12_known.f k ) (winnowerlaw12_known.f (k + 1) ) := by
  intro  k
  unfold winnowerlaw12_known.f
  repeat' first
      | (with_reducible exact rules_Kind.mono _ _)
      | (with_reducible exact LeO.refl _)
      | (with_reducible exact LeO.none _)
      | (with_reducible refine LeO.ite ?_ ?_)
      | (with_reducible refine LeO.bind ?_ (fun _ => ?_))
      | exact rules_Kind.mono _ _
      | exact LeO.none _
      | refine LeO.ite ?_ ?_
      | refine LeO.bind ?_ (fun _ => ?_)
set_option maxHeartbeats 8000000 in
set_option maxRecDepth 100000 in
theorem winnowerlaw12_known.calls (k : Nat)  (r : Bool) (w : World) (h : winnowerlaw12_known.f k  = some r) :
    Calls Try.prog 13 #[] w fun e w' => e = .returned (.bool r) ∧ Below w.heap.size w w' := by
  have HB := Aside0.mk (Below.refl w.heap.size w)
  have H : ((rules_Kind.f k (⟨#[105, 112]⟩ : ByteArray)).bind fun bt122 => (if bt122.2 = true then (if bt122.1 = 1 then ((rules_Name.f 8).bind fun t124 => (some (t124.toList == ([111, 116, 104, 101, 114] : List UInt8)))) else (some false)) else (some false))) = some r := h
  clear h
  replace H := Option.bind_eq_some_iff.mp H
  obtain ⟨⟨t122, t123⟩, A10, H⟩ := H
  replace H : (if t123 = true then (if t122 = 1 then ((rules_Name.f 8).bind fun t124 => (some (t124.toList == ([111, 116, 104, 101, 114] : List UInt8)))) else (some false)) else (some false)) = some r := H
  have A1 := Aside0.mk A10
  clear A10
  by_cases c2 : t123 = true
  · subst c2
    have H1 : (if t122 = 1 then ((rules_Name.f 8).bind fun t124 => (some (t124.toList == ([111, 116, 104, 101, 114] : List UInt8)))) else (some false)) = some r := by rw [if_pos rfl] at H; exact H
    clear H
    have H := H1
    clear H1
    by_cases c3 : t122 = 1
    · rw [if_pos c3] at H
      have c3b0 : (t122 == 1) = true := beq_iff_eq.mpr c3
      have c3b1 : (t122 != 1) = false := bne_eq_false_iff_eq.mpr c3
      clear c3
      replace H := Option.bind_eq_some_iff.mp H
      obtain ⟨t124, A40, H⟩ := H
      replace H : (some (t124.toList == ([111, 116, 104, 101, 114] : List UInt8))) = some r := H
      have A4 := Aside0.mk A40
      clear A40
      obtain rfl := Option.some.inj H
      go_enter Try.func13, Try.ntmps13
      go_wp2_with (first | ((with_reducible refine gate_callee (f := 7) rfl ?_); refine goesL_ (some 4) rfl rfl Try.func7 (by kernel_rfl) rfl #[.string (⟨#[105, 112]⟩ : ByteArray)] rfl (by (try simp only [List.map_toArray, List.map_cons, List.map_nil]); first | done | rfl | (simp only [List.length_drop, List.length_take]; rfl)) ?_; (with_reducible refine (rules_Kind.calls k (⟨#[105, 112]⟩ : ByteArray) t122 true _ A1.out).mono ?_); rintro e w5 ⟨rfl, hb⟩; refine ⟨_, rfl, ?_⟩; have n0_ := Aside0.mk (below_step (by repeat (first | (with_reducible first | exact HB.out | apply below_alloc | apply pw_below_drewN | apply below_drew1) | exact HB.out)) hb); clear HB; have HB := n0_; clear n0_; (try clear hb); (try clear hb2); (try clear hk); (try clear hi)) | (go_at_call 9; (with_reducible refine (rules_Name.calls 8 t124 _ A4.out).mono ?_); rintro e w6 ⟨rfl, hb⟩; have n0_ := Aside0.mk (below_step (by repeat (first | (with_reducible first | exact HB.out | apply below_alloc | apply pw_below_drewN | apply below_drew1) | exact HB.out)) hb); clear HB; have HB := n0_; clear n0_; (try clear hb); (try clear hb2); (try clear hk); (try clear hi)))
      go_ret
      exact ⟨by first | rfl | (simp [errW_none, errW_some] <;> rfl) | (simp [*, errW_none, errW_some] <;> rfl), by repeat (first | (with_reducible first | exact HB.out | apply below_alloc | apply pw_below_drewN | apply below_drew1) | exact HB.out)⟩
    · rw [if_neg c3] at H
      have c3b0 : (t122 == 1) = false := beq_eq_false_iff_ne.mpr c3
      have c3b1 : (t122 != 1) = true := bne_iff_ne.mpr c3
      obtain rfl := Option.some.inj H
      go_enter Try.func13, Try.ntmps13
      go_wp2_with (first | ((with_reducible refine gate_callee (f := 7) rfl ?_); refine goesL_ (some 4) rfl rfl Try.func7 (by kernel_rfl) rfl #[.string (⟨#[105, 112]⟩ : ByteArray)] rfl (by (try simp only [List.map_toArray, List.map_cons, List.map_nil]); first | done | rfl | (simp only [List.length_drop, List.length_take]; rfl)) ?_; (with_reducible refine (rules_Kind.calls k (⟨#[105, 112]⟩ : ByteArray) t122 true _ A1.out).mono ?_); rintro e w7 ⟨rfl, hb⟩; refine ⟨_, rfl, ?_⟩; have n0_ := Aside0.mk (below_step (by repeat (first | (with_reducible first | exact HB.out | apply below_alloc | apply pw_below_drewN | apply below_drew1) | exact HB.out)) hb); clear HB; have HB := n0_; clear n0_; (try clear hb); (try clear hb2); (try clear hk); (try clear hi)))
      go_ret
      exact ⟨by first | rfl | (simp [errW_none, errW_some] <;> rfl) | (simp [*, errW_none, errW_some] <;> rfl), by repeat (first | (with_reducible first | exact HB.out | apply below_alloc | apply pw_below_drewN | apply below_drew1) | exact HB.out)⟩
  · replace c2 := Bool.eq_false_iff.mpr c2
    subst c2
    have H1 : (some false) = some r := by rw [if_neg (show ¬ (false = true) by decide)] at H; exact H
    clear H
    have H := H1
    clear H1
    obtain rfl := Option.some.inj H
    go_enter Try.func13, Try.ntmps13
    go_wp2_with (first | ((with_reducible refine gate_callee (f := 7) rfl ?_); refine goesL_ (some 4) rfl rfl Try.func7 (by kernel_rfl) rfl #[.string (⟨#[105, 112]⟩ : ByteArray)] rfl (by (try simp only [List.map_toArray, List.map_cons, List.map_nil]); first | done | rfl | (simp only [List.length_drop, List.length_take]; rfl)) ?_; (with_reducible refine (rules_Kind.calls k (⟨#[105, 112]⟩ : ByteArray) t122 false _ A1.out).mono ?_); rintro e w8 ⟨rfl, hb⟩; refine ⟨_, rfl, ?_⟩; have n0_ := Aside0.mk (below_step (by repeat (first | (with_reducible first | exact HB.out | apply below_alloc | apply pw_below_drewN | apply below_drew1) | exact HB.out)) hb); clear HB; have HB := n0_; clear n0_; (try clear hb); (try clear hb2); (try clear hk); (try clear hi)))
    go_ret
    exact ⟨by first | rfl | (simp [errW_none, errW_some] <;> rfl) | (simp [*, errW_none, errW_some] <;> rfl), by repeat (first | (with_reducible first | exact HB.out | apply below_alloc | apply pw_below_drewN | apply below_drew1) | exact HB.out)⟩

/-! ### winnowerlaw12_RulesTable: function 3 -/
def winnowerlaw12_RulesTable.f (k : Nat) (a0 : Int) (a1 : ByteArray) : Option (Bool) := if (a1.size : Int) > 100 then (some true) else ((rules_Kind.f k a1).bind fun bt125 => ((winnowerref12_Kind.f k a1).bind fun bt127 => ((rules_Name.f a0).bind fun t129 => ((winnowerref12_Name.f a0).bind fun t130 => (if t129.toList = t130.toList then ((rules_Pattern.f a0).bind fun t131 => ((winnowerref12_Pattern.f a0).bind fun t132 => (if t131.toList = t132.toList then (if bt125.1 = bt127.1 then (if (bt125.2 == bt127.2) = true then ((winnowerlaw12_known.f k).bind fun t133 => (some t133)) else (some false)) else (some false)) else (some false)))) else (some false))))))
theorem winnowerlaw12_RulesTable.mono : ∀ a0 a1 k, LeO (winnowerlaw12_RulesTable.f k a0 a1) (winnowerlaw12_RulesTable.f (k + 1) a0 a1) := by
  intro a0 a1 k
  unfold winnowerlaw12_RulesTable.f
  repeat' first
      | (with_reducible exact rules_Kind.mono _ _)
      | (with_reducible exact winnowerlaw12_known.mono _)
      | (with_reducible exact winnowerref12_Kind.mono _ _)
      | (with_reducible exact LeO.refl _)
      | (with_reducible exact LeO.none _)
      | (with_reducible refine LeO.ite ?_ ?_)
      | (with_reducible refine LeO.bind ?_ (fun _ => ?_))
      | exact rules_Kind.mono _ _
      | exact winnowerlaw12_known.mono _
      | exact winnowerref12_Kind.mono _ _
      | exact LeO.none _
      | refine LeO.ite ?_ ?_
      | refine LeO.bind ?_ (fun _ => ?_)
set_option maxHeartbeats 8000000 in
set_option maxRecDepth 100000 in
theorem winnowerlaw12_RulesTable.calls (k : Nat) (a0 : Int) (a1 : ByteArray) (r : Bool) (w : World) (h : winnowerlaw12_RulesTable.f k a0 a1 = some r) :
    Calls Try.prog 3 #[.int .i64 a0, .string a1] w fun e w' => e = .returned (.bool r) ∧ Below w.heap.size w w' := by
  have HB := Aside0.mk (Below.refl w.heap.size w)
  have H : (if (a1.size : Int) > 100 then (some true) else ((rules_Kind.f k a1).bind fun bt125 => ((winnowerref12_Kind.f k a1).bind fun bt127 => ((rules_Name.f a0).bind fun t129 => ((winnowerref12_Name.f a0).bind fun t130 => (if t129.toList = t130.toList then ((rules_Pattern.f a0).bind fun t131 => ((winnowerref12_Pattern.f a0).bind fun t132 => (if t131.toList = t132.toList then (if bt125.1 = bt127.1 then (if (bt125.2 == bt127.2) = true then ((winnowerlaw12_known.f k).bind fun t133 => (some t133)) else (some false)) else (some false)) else (some false)))) else (some false))))))) = some r := h
  clear h
  by_cases c3 : (a1.size : Int) > 100
  · rw [if_pos c3] at H
    have c3b0 : decide (100 < (a1.size : Int)) = true := decide_eq_true c3
    have c3b1 : decide (100 < a1.size) = true := decide_eq_true (by omega)
    clear c3
    obtain rfl := Option.some.inj H
    go_enter Try.func3, Try.ntmps3
    go_wp2
    go_ret
    exact ⟨by first | rfl | (simp [errW_none, errW_some] <;> rfl) | (simp [*, errW_none, errW_some] <;> rfl), by repeat (first | (with_reducible first | exact HB.out | apply below_alloc | apply pw_below_drewN | apply below_drew1) | exact HB.out)⟩
  · rw [if_neg c3] at H
    have c3b0 : decide (100 < (a1.size : Int)) = false := decide_eq_false c3
    have c3b1 : decide (100 < a1.size) = false := decide_eq_false (by omega)
    clear c3
    replace H := Option.bind_eq_some_iff.mp H
    obtain ⟨⟨t125, t126⟩, A40, H⟩ := H
    replace H : ((winnowerref12_Kind.f k a1).bind fun bt127 => ((rules_Name.f a0).bind fun t129 => ((winnowerref12_Name.f a0).bind fun t130 => (if t129.toList = t130.toList then ((rules_Pattern.f a0).bind fun t131 => ((winnowerref12_Pattern.f a0).bind fun t132 => (if t131.toList = t132.toList then (if t125 = bt127.1 then (if (t126 == bt127.2) = true then ((winnowerlaw12_known.f k).bind fun t133 => (some t133)) else (some false)) else (some false)) else (some false)))) else (some false))))) = some r := H
    have A4 := Aside0.mk A40
    clear A40
    replace H := Option.bind_eq_some_iff.mp H
    obtain ⟨⟨t127, t128⟩, A50, H⟩ := H
    replace H : ((rules_Name.f a0).bind fun t129 => ((winnowerref12_Name.f a0).bind fun t130 => (if t129.toList = t130.toList then ((rules_Pattern.f a0).bind fun t131 => ((winnowerref12_Pattern.f a0).bind fun t132 => (if t131.toList = t132.toList then (if t125 = t127 then (if (t126 == t128) = true then ((winnowerlaw12_known.f k).bind fun t133 => (some t133)) else (some false)) else (some false)) else (some false)))) else (some false)))) = some r := H
    have A5 := Aside0.mk A50
    clear A50
    replace H := Option.bind_eq_some_iff.mp H
    obtain ⟨t129, A60, H⟩ := H
    replace H : ((winnowerref12_Name.f a0).bind fun t130 => (if t129.toList = t130.toList then ((rules_Pattern.f a0).bind fun t131 => ((winnowerref12_Pattern.f a0).bind fun t132 => (if t131.toList = t132.toList then (if t125 = t127 then (if (t126 == t128) = true then ((winnowerlaw12_known.f k).bind fun t133 => (some t133)) else (some false)) else (some false)) else (some false)))) else (some false))) = some r := H
    have A6 := Aside0.mk A60
    clear A60
    replace H := Option.bind_eq_some_iff.mp H
    obtain ⟨t130, A70, H⟩ := H
    replace H : (if t129.toList = t130.toList then ((rules_Pattern.f a0).bind fun t131 => ((winnowerref12_Pattern.f a0).bind fun t132 => (if t131.toList = t132.toList then (if t125 = t127 then (if (t126 == t128) = true then ((winnowerlaw12_known.f k).bind fun t133 => (some t133)) else (some false)) else (some false)) else (some false)))) else (some false)) = some r := H
    have A7 := Aside0.mk A70
    clear A70
    by_cases c8 : t129.toList = t130.toList
    · rw [if_pos c8] at H
      have c8b0 : (t129.toList == t130.toList) = true := beq_iff_eq.mpr c8
      have c8b1 : (t129.toList != t130.toList) = false := bne_eq_false_iff_eq.mpr c8
      clear c8
      replace H := Option.bind_eq_some_iff.mp H
      obtain ⟨t131, A90, H⟩ := H
      replace H : ((winnowerref12_Pattern.f a0).bind fun t132 => (if t131.toList = t132.toList then (if t125 = t127 then (if (t126 == t128) = true then ((winnowerlaw12_known.f k).bind fun t133 => (some t133)) else (some false)) else (some false)) else (some false))) = some r := H
      have A9 := Aside0.mk A90
      clear A90
      replace H := Option.bind_eq_some_iff.mp H
      obtain ⟨t132, A100, H⟩ := H
      replace H : (if t131.toList = t132.toList then (if t125 = t127 then (if (t126 == t128) = true then ((winnowerlaw12_known.f k).bind fun t133 => (some t133)) else (some false)) else (some false)) else (some false)) = some r := H
      have A10 := Aside0.mk A100
      clear A100
      by_cases c11 : t131.toList = t132.toList
      · rw [if_pos c11] at H
        have c11b0 : (t131.toList == t132.toList) = true := beq_iff_eq.mpr c11
        have c11b1 : (t131.toList != t132.toList) = false := bne_eq_false_iff_eq.mpr c11
        clear c11
        by_cases c12 : t125 = t127
        · rw [if_pos c12] at H
          have c12b0 : (t125 == t127) = true := beq_iff_eq.mpr c12
          have c12b1 : (t125 != t127) = false := bne_eq_false_iff_eq.mpr c12
          clear c12
          by_cases c13 : (t126 == t128) = true
          · rw [if_pos c13] at H
            have c13b0 : (t126 == t128) = true := c13
            (try (have c13b1 : decide (t126 = t128) = true := by simpa using c13))
            (try (have c13b2 : (t126 == t128) = true := by simpa using c13))
            clear c13
            replace H := Option.bind_eq_some_iff.mp H
            obtain ⟨t133, A140, H⟩ := H
            replace H : (some t133) = some r := H
            have A14 := Aside0.mk A140
            clear A140
            obtain rfl := Option.some.inj H
            go_enter Try.func3, Try.ntmps3
            go_wp2_with (first | ((with_reducible refine gate_callee (f := 7) rfl ?_); refine goesL_ (some 14) rfl rfl Try.func7 (by kernel_rfl) rfl #[.string a1] rfl (by (try simp only [List.map_toArray, List.map_cons, List.map_nil]); first | done | rfl | (simp only [List.length_drop, List.length_take]; rfl)) ?_; (with_reducible refine (rules_Kind.calls k a1 t125 t126 _ A4.out).mono ?_); rintro e w15 ⟨rfl, hb⟩; refine ⟨_, rfl, ?_⟩; have n0_ := Aside0.mk (below_step (by repeat (first | (with_reducible first | exact HB.out | apply below_alloc | apply pw_below_drewN | apply below_drew1) | exact HB.out)) hb); clear HB; have HB := n0_; clear n0_; (try clear hb); (try clear hb2); (try clear hk); (try clear hi)) | ((with_reducible refine gate_callee (f := 8) rfl ?_); refine goesL_ (some 19) rfl rfl Try.func8 (by kernel_rfl) rfl #[.string a1] rfl (by (try simp only [List.map_toArray, List.map_cons, List.map_nil]); first | done | rfl | (simp only [List.length_drop, List.length_take]; rfl)) ?_; (with_reducible refine (winnowerref12_Kind.calls k a1 t127 t128 _ A5.out).mono ?_); rintro e w16 ⟨rfl, hb⟩; refine ⟨_, rfl, ?_⟩; have n0_ := Aside0.mk (below_step (by repeat (first | (with_reducible first | exact HB.out | apply below_alloc | apply pw_below_drewN | apply below_drew1) | exact HB.out)) hb); clear HB; have HB := n0_; clear n0_; (try clear hb); (try clear hb2); (try clear hk); (try clear hi)) | ((with_reducible refine gate_callee (f := 9) rfl ?_); refine goesL_ (some 23) rfl rfl Try.func9 (by kernel_rfl) rfl #[.int .i64 a0] rfl (by (try simp only [List.map_toArray, List.map_cons, List.map_nil]); first | done | rfl | (simp only [List.length_drop, List.length_take]; rfl)) ?_; (with_reducible refine (rules_Name.calls a0 t129 _ A6.out).mono ?_); rintro e w17 ⟨rfl, hb⟩; refine ⟨_, rfl, ?_⟩; have n0_ := Aside0.mk (below_step (by repeat (first | (with_reducible first | exact HB.out | apply below_alloc | apply pw_below_drewN | apply below_drew1) | exact HB.out)) hb); clear HB; have HB := n0_; clear n0_; (try clear hb); (try clear hb2); (try clear hk); (try clear hi)) | ((with_reducible refine gate_callee (f := 10) rfl ?_); refine goesL_ (some 25) rfl rfl Try.func10 (by kernel_rfl) rfl #[.int .i64 a0] rfl (by (try simp only [List.map_toArray, List.map_cons, List.map_nil]); first | done | rfl | (simp only [List.length_drop, List.length_take]; rfl)) ?_; (with_reducible refine (winnowerref12_Name.calls a0 t130 _ A7.out).mono ?_); rintro e w18 ⟨rfl, hb⟩; refine ⟨_, rfl, ?_⟩; have n0_ := Aside0.mk (below_step (by repeat (first | (with_reducible first | exact HB.out | apply below_alloc | apply pw_below_drewN | apply below_drew1) | exact HB.out)) hb); clear HB; have HB := n0_; clear n0_; (try clear hb); (try clear hb2); (try clear hk); (try clear hi)) | (go_at_call 11; (with_reducible refine (rules_Pattern.calls a0 t131 _ A9.out).mono ?_); rintro e w' ⟨rfl, ⟨nd, rfl⟩⟩) | (go_at_call 12; (with_reducible refine (winnowerref12_Pattern.calls a0 t132 _ A10.out).mono ?_); rintro e w19 ⟨rfl, hb⟩; have n0_ := Aside0.mk (below_step (by repeat (first | (with_reducible first | exact HB.out | apply below_alloc | apply pw_below_drewN | apply below_drew1) | exact HB.out)) hb); clear HB; have HB := n0_; clear n0_; (try clear hb); (try clear hb2); (try clear hk); (try clear hi)) | (go_at_call 13; (with_reducible refine (winnowerlaw12_known.calls k  t133 _ A14.out).mono ?_); rintro e w20 ⟨rfl, hb⟩; have n0_ := Aside0.mk (below_step (by repeat (first | (with_reducible first | exact HB.out | apply below_alloc | apply pw_below_drewN | apply below_drew1) | exact HB.out)) hb); clear HB; have HB := n0_; clear n0_; (try clear hb); (try clear hb2); (try clear hk); (try clear hi)))
            go_ret
            exact ⟨by first | rfl | (simp [errW_none, errW_some] <;> rfl) | (simp [*, errW_none, errW_some] <;> rfl), by repeat (first | (with_reducible first | exact HB.out | apply below_alloc | apply pw_below_drewN | apply below_drew1) | exact HB.out)⟩
          · rw [if_neg c13] at H
            have c13b0 : (t126 == t128) = false := by simpa using c13
            (try (have c13b1 : decide (t126 = t128) = false := by simpa using c13))
            (try (have c13b2 : (t126 == t128) = false := by simpa using c13))
            (try (have c13b3 : ¬ (t126 = t128) := by simpa using c13))
            clear c13
            obtain rfl := Option.some.inj H
            go_enter Try.func3, Try.ntmps3
            go_wp2_with (first | ((with_reducible refine gate_callee (f := 7) rfl ?_); refine goesL_ (some 14) rfl rfl Try.func7 (by kernel_rfl) rfl #[.string a1] rfl (by (try simp only [List.map_toArray, List.map_cons, List.map_nil]); first | done | rfl | (simp only [List.length_drop, List.length_take]; rfl)) ?_; (with_reducible refine (rules_Kind.calls k a1 t125 t126 _ A4.out).mono ?_); rintro e w21 ⟨rfl, hb⟩; refine ⟨_, rfl, ?_⟩; have n0_ := Aside0.mk (below_step (by repeat (first | (with_reducible first | exact HB.out | apply below_alloc | apply pw_below_drewN | apply below_drew1) | exact HB.out)) hb); clear HB; have HB := n0_; clear n0_; (try clear hb); (try clear hb2); (try clear hk); (try clear hi)) | ((with_reducible refine gate_callee (f := 8) rfl ?_); refine goesL_ (some 19) rfl rfl Try.func8 (by kernel_rfl) rfl #[.string a1] rfl (by (try simp only [List.map_toArray, List.map_cons, List.map_nil]); first | done | rfl | (simp only [List.length_drop, List.length_take]; rfl)) ?_; (with_reducible refine (winnowerref12_Kind.calls k a1 t127 t128 _ A5.out).mono ?_); rintro e w22 ⟨rfl, hb⟩; refine ⟨_, rfl, ?_⟩; have n0_ := Aside0.mk (below_step (by repeat (first | (with_reducible first | exact HB.out | apply below_alloc | apply pw_below_drewN | apply below_drew1) | exact HB.out)) hb); clear HB; have HB := n0_; clear n0_; (try clear hb); (try clear hb2); (try clear hk); (try clear hi)) | ((with_reducible refine gate_callee (f := 9) rfl ?_); refine goesL_ (some 23) rfl rfl Try.func9 (by kernel_rfl) rfl #[.int .i64 a0] rfl (by (try simp only [List.map_toArray, List.map_cons, List.map_nil]); first | done | rfl | (simp only [List.length_drop, List.length_take]; rfl)) ?_; (with_reducible refine (rules_Name.calls a0 t129 _ A6.out).mono ?_); rintro e w23 ⟨rfl, hb⟩; refine ⟨_, rfl, ?_⟩; have n0_ := Aside0.mk (below_step (by repeat (first | (with_reducible first | exact HB.out | apply below_alloc | apply pw_below_drewN | apply below_drew1) | exact HB.out)) hb); clear HB; have HB := n0_; clear n0_; (try clear hb); (try clear hb2); (try clear hk); (try clear hi)) | ((with_reducible refine gate_callee (f := 10) rfl ?_); refine goesL_ (some 25) rfl rfl Try.func10 (by kernel_rfl) rfl #[.int .i64 a0] rfl (by (try simp only [List.map_toArray, List.map_cons, List.map_nil]); first | done | rfl | (simp only [List.length_drop, List.length_take]; rfl)) ?_; (with_reducible refine (winnowerref12_Name.calls a0 t130 _ A7.out).mono ?_); rintro e w24 ⟨rfl, hb⟩; refine ⟨_, rfl, ?_⟩; have n0_ := Aside0.mk (below_step (by repeat (first | (with_reducible first | exact HB.out | apply below_alloc | apply pw_below_drewN | apply below_drew1) | exact HB.out)) hb); clear HB; have HB := n0_; clear n0_; (try clear hb); (try clear hb2); (try clear hk); (try clear hi)) | (go_at_call 11; (with_reducible refine (rules_Pattern.calls a0 t131 _ A9.out).mono ?_); rintro e w' ⟨rfl, ⟨nd, rfl⟩⟩) | (go_at_call 12; (with_reducible refine (winnowerref12_Pattern.calls a0 t132 _ A10.out).mono ?_); rintro e w25 ⟨rfl, hb⟩; have n0_ := Aside0.mk (below_step (by repeat (first | (with_reducible first | exact HB.out | apply below_alloc | apply pw_below_drewN | apply below_drew1) | exact HB.out)) hb); clear HB; have HB := n0_; clear n0_; (try clear hb); (try clear hb2); (try clear hk); (try clear hi)))
            go_ret
            exact ⟨by first | rfl | (simp [errW_none, errW_some] <;> rfl) | (simp [*, errW_none, errW_some] <;> rfl), by repeat (first | (with_reducible first | exact HB.out | apply below_alloc | apply pw_below_drewN | apply below_drew1) | exact HB.out)⟩
        · rw [if_neg c12] at H
          have c12b0 : (t125 == t127) = false := beq_eq_false_iff_ne.mpr c12
          have c12b1 : (t125 != t127) = true := bne_iff_ne.mpr c12
          obtain rfl := Option.some.inj H
          go_enter Try.func3, Try.ntmps3
          go_wp2_with (first | ((with_reducible refine gate_callee (f := 7) rfl ?_); refine goesL_ (some 14) rfl rfl Try.func7 (by kernel_rfl) rfl #[.string a1] rfl (by (try simp only [List.map_toArray, List.map_cons, List.map_nil]); first | done | rfl | (simp only [List.length_drop, List.length_take]; rfl)) ?_; (with_reducible refine (rules_Kind.calls k a1 t125 t126 _ A4.out).mono ?_); rintro e w26 ⟨rfl, hb⟩; refine ⟨_, rfl, ?_⟩; have n0_ := Aside0.mk (below_step (by repeat (first | (with_reducible first | exact HB.out | apply below_alloc | apply pw_below_drewN | apply below_drew1) | exact HB.out)) hb); clear HB; have HB := n0_; clear n0_; (try clear hb); (try clear hb2); (try clear hk); (try clear hi)) | ((with_reducible refine gate_callee (f := 8) rfl ?_); refine goesL_ (some 19) rfl rfl Try.func8 (by kernel_rfl) rfl #[.string a1] rfl (by (try simp only [List.map_toArray, List.map_cons, List.map_nil]); first | done | rfl | (simp only [List.length_drop, List.length_take]; rfl)) ?_; (with_reducible refine (winnowerref12_Kind.calls k a1 t127 t128 _ A5.out).mono ?_); rintro e w27 ⟨rfl, hb⟩; refine ⟨_, rfl, ?_⟩; have n0_ := Aside0.mk (below_step (by repeat (first | (with_reducible first | exact HB.out | apply below_alloc | apply pw_below_drewN | apply below_drew1) | exact HB.out)) hb); clear HB; have HB := n0_; clear n0_; (try clear hb); (try clear hb2); (try clear hk); (try clear hi)) | ((with_reducible refine gate_callee (f := 9) rfl ?_); refine goesL_ (some 23) rfl rfl Try.func9 (by kernel_rfl) rfl #[.int .i64 a0] rfl (by (try simp only [List.map_toArray, List.map_cons, List.map_nil]); first | done | rfl | (simp only [List.length_drop, List.length_take]; rfl)) ?_; (with_reducible refine (rules_Name.calls a0 t129 _ A6.out).mono ?_); rintro e w28 ⟨rfl, hb⟩; refine ⟨_, rfl, ?_⟩; have n0_ := Aside0.mk (below_step (by repeat (first | (with_reducible first | exact HB.out | apply below_alloc | apply pw_below_drewN | apply below_drew1) | exact HB.out)) hb); clear HB; have HB := n0_; clear n0_; (try clear hb); (try clear hb2); (try clear hk); (try clear hi)) | ((with_reducible refine gate_callee (f := 10) rfl ?_); refine goesL_ (some 25) rfl rfl Try.func10 (by kernel_rfl) rfl #[.int .i64 a0] rfl (by (try simp only [List.map_toArray, List.map_cons, List.map_nil]); first | done | rfl | (simp only [List.length_drop, List.length_take]; rfl)) ?_; (with_reducible refine (winnowerref12_Name.calls a0 t130 _ A7.out).mono ?_); rintro e w29 ⟨rfl, hb⟩; refine ⟨_, rfl, ?_⟩; have n0_ := Aside0.mk (below_step (by repeat (first | (with_reducible first | exact HB.out | apply below_alloc | apply pw_below_drewN | apply below_drew1) | exact HB.out)) hb); clear HB; have HB := n0_; clear n0_; (try clear hb); (try clear hb2); (try clear hk); (try clear hi)) | (go_at_call 11; (with_reducible refine (rules_Pattern.calls a0 t131 _ A9.out).mono ?_); rintro e w' ⟨rfl, ⟨nd, rfl⟩⟩) | (go_at_call 12; (with_reducible refine (winnowerref12_Pattern.calls a0 t132 _ A10.out).mono ?_); rintro e w30 ⟨rfl, hb⟩; have n0_ := Aside0.mk (below_step (by repeat (first | (with_reducible first | exact HB.out | apply below_alloc | apply pw_below_drewN | apply below_drew1) | exact HB.out)) hb); clear HB; have HB := n0_; clear n0_; (try clear hb); (try clear hb2); (try clear hk); (try clear hi)))
          go_ret
          exact ⟨by first | rfl | (simp [errW_none, errW_some] <;> rfl) | (simp [*, errW_none, errW_some] <;> rfl), by repeat (first | (with_reducible first | exact HB.out | apply below_alloc | apply pw_below_drewN | apply below_drew1) | exact HB.out)⟩
      · rw [if_neg c11] at H
        have c11b0 : (t131.toList == t132.toList) = false := beq_eq_false_iff_ne.mpr c11
        have c11b1 : (t131.toList != t132.toList) = true := bne_iff_ne.mpr c11
        obtain rfl := Option.some.inj H
        go_enter Try.func3, Try.ntmps3
        go_wp2_with (first | ((with_reducible refine gate_callee (f := 7) rfl ?_); refine goesL_ (some 14) rfl rfl Try.func7 (by kernel_rfl) rfl #[.string a1] rfl (by (try simp only [List.map_toArray, List.map_cons, List.map_nil]); first | done | rfl | (simp only [List.length_drop, List.length_take]; rfl)) ?_; (with_reducible refine (rules_Kind.calls k a1 t125 t126 _ A4.out).mono ?_); rintro e w31 ⟨rfl, hb⟩; refine ⟨_, rfl, ?_⟩; have n0_ := Aside0.mk (below_step (by repeat (first | (with_reducible first | exact HB.out | apply below_alloc | apply pw_below_drewN | apply below_drew1) | exact HB.out)) hb); clear HB; have HB := n0_; clear n0_; (try clear hb); (try clear hb2); (try clear hk); (try clear hi)) | ((with_reducible refine gate_callee (f := 8) rfl ?_); refine goesL_ (some 19) rfl rfl Try.func8 (by kernel_rfl) rfl #[.string a1] rfl (by (try simp only [List.map_toArray, List.map_cons, List.map_nil]); first | done | rfl | (simp only [List.length_drop, List.length_take]; rfl)) ?_; (with_reducible refine (winnowerref12_Kind.calls k a1 t127 t128 _ A5.out).mono ?_); rintro e w32 ⟨rfl, hb⟩; refine ⟨_, rfl, ?_⟩; have n0_ := Aside0.mk (below_step (by repeat (first | (with_reducible first | exact HB.out | apply below_alloc | apply pw_below_drewN | apply below_drew1) | exact HB.out)) hb); clear HB; have HB := n0_; clear n0_; (try clear hb); (try clear hb2); (try clear hk); (try clear hi)) | ((with_reducible refine gate_callee (f := 9) rfl ?_); refine goesL_ (some 23) rfl rfl Try.func9 (by kernel_rfl) rfl #[.int .i64 a0] rfl (by (try simp only [List.map_toArray, List.map_cons, List.map_nil]); first | done | rfl | (simp only [List.length_drop, List.length_take]; rfl)) ?_; (with_reducible refine (rules_Name.calls a0 t129 _ A6.out).mono ?_); rintro e w33 ⟨rfl, hb⟩; refine ⟨_, rfl, ?_⟩; have n0_ := Aside0.mk (below_step (by repeat (first | (with_reducible first | exact HB.out | apply below_alloc | apply pw_below_drewN | apply below_drew1) | exact HB.out)) hb); clear HB; have HB := n0_; clear n0_; (try clear hb); (try clear hb2); (try clear hk); (try clear hi)) | ((with_reducible refine gate_callee (f := 10) rfl ?_); refine goesL_ (some 25) rfl rfl Try.func10 (by kernel_rfl) rfl #[.int .i64 a0] rfl (by (try simp only [List.map_toArray, List.map_cons, List.map_nil]); first | done | rfl | (simp only [List.length_drop, List.length_take]; rfl)) ?_; (with_reducible refine (winnowerref12_Name.calls a0 t130 _ A7.out).mono ?_); rintro e w34 ⟨rfl, hb⟩; refine ⟨_, rfl, ?_⟩; have n0_ := Aside0.mk (below_step (by repeat (first | (with_reducible first | exact HB.out | apply below_alloc | apply pw_below_drewN | apply below_drew1) | exact HB.out)) hb); clear HB; have HB := n0_; clear n0_; (try clear hb); (try clear hb2); (try clear hk); (try clear hi)) | (go_at_call 11; (with_reducible refine (rules_Pattern.calls a0 t131 _ A9.out).mono ?_); rintro e w' ⟨rfl, ⟨nd, rfl⟩⟩) | (go_at_call 12; (with_reducible refine (winnowerref12_Pattern.calls a0 t132 _ A10.out).mono ?_); rintro e w35 ⟨rfl, hb⟩; have n0_ := Aside0.mk (below_step (by repeat (first | (with_reducible first | exact HB.out | apply below_alloc | apply pw_below_drewN | apply below_drew1) | exact HB.out)) hb); clear HB; have HB := n0_; clear n0_; (try clear hb); (try clear hb2); (try clear hk); (try clear hi)))
        go_ret
        exact ⟨by first | rfl | (simp [errW_none, errW_some] <;> rfl) | (simp [*, errW_none, errW_some] <;> rfl), by repeat (first | (with_reducible first | exact HB.out | apply below_alloc | apply pw_below_drewN | apply below_drew1) | exact HB.out)⟩
    · rw [if_neg c8] at H
      have c8b0 : (t129.toList == t130.toList) = false := beq_eq_false_iff_ne.mpr c8
      have c8b1 : (t129.toList != t130.toList) = true := bne_iff_ne.mpr c8
      obtain rfl := Option.some.inj H
      go_enter Try.func3, Try.ntmps3
      go_wp2_with (first | ((with_reducible refine gate_callee (f := 7) rfl ?_); refine goesL_ (some 14) rfl rfl Try.func7 (by kernel_rfl) rfl #[.string a1] rfl (by (try simp only [List.map_toArray, List.map_cons, List.map_nil]); first | done | rfl | (simp only [List.length_drop, List.length_take]; rfl)) ?_; (with_reducible refine (rules_Kind.calls k a1 t125 t126 _ A4.out).mono ?_); rintro e w36 ⟨rfl, hb⟩; refine ⟨_, rfl, ?_⟩; have n0_ := Aside0.mk (below_step (by repeat (first | (with_reducible first | exact HB.out | apply below_alloc | apply pw_below_drewN | apply below_drew1) | exact HB.out)) hb); clear HB; have HB := n0_; clear n0_; (try clear hb); (try clear hb2); (try clear hk); (try clear hi)) | ((with_reducible refine gate_callee (f := 8) rfl ?_); refine goesL_ (some 19) rfl rfl Try.func8 (by kernel_rfl) rfl #[.string a1] rfl (by (try simp only [List.map_toArray, List.map_cons, List.map_nil]); first | done | rfl | (simp only [List.length_drop, List.length_take]; rfl)) ?_; (with_reducible refine (winnowerref12_Kind.calls k a1 t127 t128 _ A5.out).mono ?_); rintro e w37 ⟨rfl, hb⟩; refine ⟨_, rfl, ?_⟩; have n0_ := Aside0.mk (below_step (by repeat (first | (with_reducible first | exact HB.out | apply below_alloc | apply pw_below_drewN | apply below_drew1) | exact HB.out)) hb); clear HB; have HB := n0_; clear n0_; (try clear hb); (try clear hb2); (try clear hk); (try clear hi)) | ((with_reducible refine gate_callee (f := 9) rfl ?_); refine goesL_ (some 23) rfl rfl Try.func9 (by kernel_rfl) rfl #[.int .i64 a0] rfl (by (try simp only [List.map_toArray, List.map_cons, List.map_nil]); first | done | rfl | (simp only [List.length_drop, List.length_take]; rfl)) ?_; (with_reducible refine (rules_Name.calls a0 t129 _ A6.out).mono ?_); rintro e w38 ⟨rfl, hb⟩; refine ⟨_, rfl, ?_⟩; have n0_ := Aside0.mk (below_step (by repeat (first | (with_reducible first | exact HB.out | apply below_alloc | apply pw_below_drewN | apply below_drew1) | exact HB.out)) hb); clear HB; have HB := n0_; clear n0_; (try clear hb); (try clear hb2); (try clear hk); (try clear hi)) | ((with_reducible refine gate_callee (f := 10) rfl ?_); refine goesL_ (some 25) rfl rfl Try.func10 (by kernel_rfl) rfl #[.int .i64 a0] rfl (by (try simp only [List.map_toArray, List.map_cons, List.map_nil]); first | done | rfl | (simp only [List.length_drop, List.length_take]; rfl)) ?_; (with_reducible refine (winnowerref12_Name.calls a0 t130 _ A7.out).mono ?_); rintro e w39 ⟨rfl, hb⟩; refine ⟨_, rfl, ?_⟩; have n0_ := Aside0.mk (below_step (by repeat (first | (with_reducible first | exact HB.out | apply below_alloc | apply pw_below_drewN | apply below_drew1) | exact HB.out)) hb); clear HB; have HB := n0_; clear n0_; (try clear hb); (try clear hb2); (try clear hk); (try clear hi)))
      go_ret
      exact ⟨by first | rfl | (simp [errW_none, errW_some] <;> rfl) | (simp [*, errW_none, errW_some] <;> rfl), by repeat (first | (with_reducible first | exact HB.out | apply below_alloc | apply pw_below_drewN | apply below_drew1) | exact HB.out)⟩

/-- THE ONE PURE STATEMENT of winnowerlaw12_RulesTable: yours. -/
def winnowerlaw12_RulesTable.Pure : Prop := ∀ (a0 : Int) (a1 : ByteArray), (Lit.int .i64 a0).wf = true → a1.size ≤ 140737488351232 → ∃ k, winnowerlaw12_RulesTable.f k a0 a1 = some true
theorem winnowerlaw12_RulesTable.walk (P : winnowerlaw12_RulesTable.Pure) (a0 : Int) (a1 : ByteArray) (w : World) (w0 : (Lit.int .i64 a0).wf = true) (w1 : a1.size ≤ 140737488351232) :
    Calls Try.prog 3 #[.int .i64 a0, .string a1] w fun e w' => e = .returned (.bool true) ∧ Below w.heap.size w w' := by
  obtain ⟨k, h⟩ := P a0 a1 w0 w1
  refine (winnowerlaw12_RulesTable.calls k a0 a1 true w h).mono ?_
  rintro e w' ⟨rfl, hd⟩
  exact ⟨rfl, hd⟩

end Go.Proofs.Ytamniobmcdfngaa.PRulesTable
