/-
  Permits: the orders of the region where a paper is made.
-/
import Derived.Test.YtemfikdogdadnaaPmA
namespace Go.Proofs.Ytemfikdogdadnaa
open Go.RowKit

def regIn (id : Nat) : Code → Option (Array Oper)
  | .region i ops _ => if i = id then some ops else none
  | .seq x y => (regIn id x).orElse fun _ => regIn id y
  | .cond _ x y => (regIn id x).orElse fun _ => regIn id y
  | .block _ x => regIn id x
  | .loop x => regIn id x
  | _ => none
def regsD : Code → List (Nat × Array Oper)
  | .region i ops draw => if draw then [(i, ops)] else []
  | .seq x y => regsD x ++ regsD y
  | .cond _ x y => regsD x ++ regsD y
  | .block _ x => regsD x
  | .loop x => regsD x
  | _ => []
def okR (G : FuncId → Bool) (O : Ord) (r : Nat × Array Oper) : Bool := match O r.1 with
  | none => ordB G r.2 (List.range r.2.size)
  | some t => Region.noSelect r.2 && ordT G r.2 t true r.2.size (Array.replicate r.2.size false)
/-- the check with some regions left out -/
def codeOkX (sk : Nat → Bool) (G : FuncId → Bool) (N : Nat) (O : Ord) : Code → Bool
  | .region id ops draw => ops.toList.all (opOk N) && (match draw with
    | false => true
    | true => sk id || okR G O (id, ops))
  | .seq x y => codeOkX sk G N O x && codeOkX sk G N O y
  | .cond c x y => cstOk c && (codeOkX sk G N O x && codeOkX sk G N O y)
  | .block _ x => codeOkX sk G N O x
  | .loop x => codeOkX sk G N O x
  | _ => true
theorem codeOkX_ok {sk : Nat → Bool} {G : FuncId → Bool} {N : Nat} {O : Ord} : ∀ c : Code, codeOkX sk G N O c = true → (∀ r ∈ regsD c, sk r.1 = true → okR G O r = true) → codeOk G N O c = true := fun c => by
  induction c with
  | region id ops draw =>
    intro h hr
    simp only [codeOkX, Bool.and_eq_true] at h
    simp only [codeOk, Bool.and_eq_true]
    refine ⟨h.1, ?_⟩
    cases draw with
    | false => rfl
    | true =>
      have h2 := h.2
      simp only [Bool.or_eq_true] at h2
      have h3 : okR G O (id, ops) = true := h2.elim (fun hs => hr (id, ops) (by simp [regsD]) hs) (fun hs => hs)
      exact h3
  | seq x y ihx ihy =>
    intro h hr
    simp only [codeOkX, Bool.and_eq_true] at h
    simp only [codeOk, Bool.and_eq_true]
    exact ⟨ihx h.1 fun r hm => hr r (List.mem_append_left _ hm), ihy h.2 fun r hm => hr r (List.mem_append_right _ hm)⟩
  | cond c x y ihx ihy =>
    intro h hr
    simp only [codeOkX, Bool.and_eq_true] at h
    simp only [codeOk, Bool.and_eq_true]
    exact ⟨h.1, ihx h.2.1 fun r hm => hr r (List.mem_append_left _ hm), ihy h.2.2 fun r hm => hr r (List.mem_append_right _ hm)⟩
  | block id x ih => intro h hr; exact ih h hr
  | loop x ih => intro h hr; exact ih h hr
  | _ => intro _ _; rfl
section
variable {G : FuncId → Bool} {ops : Array Oper} {i m : Nat} {t r : OT} {listed listed' : Array Bool}
theorem done_ok (hc : (Region.ready .any ops listed).isEmpty = true) : ordT G ops .done true 0 listed = true := by
  simp only [ordT, Bool.true_and, Bool.and_eq_true]
  exact ⟨rfl, hc⟩
theorem none_ok : ordT G ops .none false m listed = true := rfl
theorem go_ok (hc : ((Region.ready .any ops listed).contains i && (match ops[i]? with
      | some o => match clsOf G o.op with
        | .W => Region.free .any ops listed i
        | .R => Region.free .any ops listed i && allWait G ops listed i
        | .E => (Region.ready .any ops listed).all fun j => j == i
      | none => false)) = true) (e : listed.setIfInBounds i true = listed') (h : ordT G ops t true m listed' = true) : ordT G ops (.go i t) true (m + 1) listed = true := by
  subst e
  simp only [ordT, Bool.true_and]
  rw [h, Bool.and_true]
  exact hc
theorem fork_ok (hc : (!(Region.ready .any ops listed).isEmpty && (Region.ready .any ops listed).all (fun j => r.firsts.contains j)) = true) (h : ordT G ops r false m listed = true) : ordT G ops (.fork r) true (m + 1) listed = true := by
  simp only [Bool.and_eq_true] at hc
  simp only [ordT, Bool.true_and, Bool.and_eq_true]
  exact ⟨hc.1, hc.2, h⟩
theorem alt_ok (hc : (Region.ready .any ops listed).contains i = true) (e : listed.setIfInBounds i true = listed') (h : ordT G ops t true m listed' = true) (hr : ordT G ops r false m listed = true) : ordT G ops (.alt i t r) false m listed = true := by
  subst e
  simp only [ordT, Bool.not_false, Bool.true_and, Bool.and_eq_true]
  exact ⟨hc, h, hr⟩
theorem okR_mk {O : Ord} {id : Nat} (ho : O id = some t) (hs : Region.noSelect ops = true) (e : (ops.size, Array.replicate ops.size false) = (m, listed)) (h : ordT G ops t true m listed = true) : okR G O (id, ops) = true := by
  unfold okR
  injection e with e1 e2
  simp only [ho, hs, Bool.true_and]
  rw [e1] at e2 ⊢
  rw [e2]
  exact h
end
noncomputable def pm_ops : Array Oper := (match Try.f12.body with | some c => regIn 15 c | none => none).getD #[]
noncomputable def pm_t0 : OT := .done
theorem pm_s0 : ordT (Gq gamPb) pm_ops pm_t0 true 0 #[true, true, true, true, true, true, true, true, true, true, true, true, true, true, true, true, true, true] = true := done_ok (by kernel_rfl)
noncomputable def pm_t1 : OT := .go 17 pm_t0
theorem pm_s1 : ordT (Gq gamPb) pm_ops pm_t1 true 1 #[true, true, true, true, true, true, true, true, true, true, true, true, true, true, true, true, true, false] = true := go_ok (by kernel_rfl) (by kernel_rfl) pm_s0
noncomputable def pm_t2 : OT := .go 16 pm_t1
theorem pm_s2 : ordT (Gq gamPb) pm_ops pm_t2 true 2 #[true, true, true, true, true, true, true, true, true, true, true, true, true, true, true, true, false, false] = true := go_ok (by kernel_rfl) (by kernel_rfl) pm_s1
noncomputable def pm_t3 : OT := .go 15 pm_t2
theorem pm_s3 : ordT (Gq gamPb) pm_ops pm_t3 true 3 #[true, true, true, true, true, true, true, true, true, true, true, true, true, true, true, false, false, false] = true := go_ok (by kernel_rfl) (by kernel_rfl) pm_s2
noncomputable def pm_t4 : OT := .go 14 pm_t3
theorem pm_s4 : ordT (Gq gamPb) pm_ops pm_t4 true 4 #[true, true, true, true, true, true, true, true, true, true, true, true, true, true, false, false, false, false] = true := go_ok (by kernel_rfl) (by kernel_rfl) pm_s3
noncomputable def pm_t5 : OT := .go 13 pm_t4
theorem pm_s5 : ordT (Gq gamPb) pm_ops pm_t5 true 5 #[true, true, true, true, true, true, true, true, true, true, true, true, true, false, false, false, false, false] = true := go_ok (by kernel_rfl) (by kernel_rfl) pm_s4
noncomputable def pm_t6 : OT := .go 12 pm_t5
theorem pm_s6 : ordT (Gq gamPb) pm_ops pm_t6 true 6 #[true, true, true, true, true, true, true, true, true, true, true, true, false, false, false, false, false, false] = true := go_ok (by kernel_rfl) (by kernel_rfl) pm_s5
noncomputable def pm_t7 : OT := .go 11 pm_t6
theorem pm_s7 : ordT (Gq gamPb) pm_ops pm_t7 true 7 #[true, true, true, true, true, true, true, true, true, true, true, false, false, false, false, false, false, false] = true := go_ok (by kernel_rfl) (by kernel_rfl) pm_s6
noncomputable def pm_t8 : OT := .go 8 pm_t6
theorem pm_s8 : ordT (Gq gamPb) pm_ops pm_t8 true 7 #[true, true, true, true, true, true, true, true, false, true, true, true, false, false, false, false, false, false] = true := go_ok (by kernel_rfl) (by kernel_rfl) pm_s6
noncomputable def pm_t9 : OT := .fork (.alt 8 pm_t7 (.alt 11 pm_t8 (.none)))
theorem pm_s9 : ordT (Gq gamPb) pm_ops pm_t9 true 8 #[true, true, true, true, true, true, true, true, false, true, true, false, false, false, false, false, false, false] = true := fork_ok (by kernel_rfl) (alt_ok (by kernel_rfl) (by kernel_rfl) pm_s7 (alt_ok (by kernel_rfl) (by kernel_rfl) pm_s8 (none_ok)))
noncomputable def pm_t10 : OT := .go 7 pm_t9
theorem pm_s10 : ordT (Gq gamPb) pm_ops pm_t10 true 9 #[true, true, true, true, true, true, true, false, false, true, true, false, false, false, false, false, false, false] = true := go_ok (by kernel_rfl) (by kernel_rfl) pm_s9
noncomputable def pm_t11 : OT := .go 6 pm_t10
theorem pm_s11 : ordT (Gq gamPb) pm_ops pm_t11 true 10 #[true, true, true, true, true, true, false, false, false, true, true, false, false, false, false, false, false, false] = true := go_ok (by kernel_rfl) (by kernel_rfl) pm_s10
noncomputable def pm_t12 : OT := .go 7 pm_t8
theorem pm_s12 : ordT (Gq gamPb) pm_ops pm_t12 true 8 #[true, true, true, true, true, true, true, false, false, true, true, true, false, false, false, false, false, false] = true := go_ok (by kernel_rfl) (by kernel_rfl) pm_s8
noncomputable def pm_t13 : OT := .go 6 pm_t12
theorem pm_s13 : ordT (Gq gamPb) pm_ops pm_t13 true 9 #[true, true, true, true, true, true, false, false, false, true, true, true, false, false, false, false, false, false] = true := go_ok (by kernel_rfl) (by kernel_rfl) pm_s12
noncomputable def pm_t14 : OT := .go 5 pm_t13
theorem pm_s14 : ordT (Gq gamPb) pm_ops pm_t14 true 10 #[true, true, true, true, true, false, false, false, false, true, true, true, false, false, false, false, false, false] = true := go_ok (by kernel_rfl) (by kernel_rfl) pm_s13
noncomputable def pm_t15 : OT := .fork (.alt 5 pm_t11 (.alt 11 pm_t14 (.none)))
theorem pm_s15 : ordT (Gq gamPb) pm_ops pm_t15 true 11 #[true, true, true, true, true, false, false, false, false, true, true, false, false, false, false, false, false, false] = true := fork_ok (by kernel_rfl) (alt_ok (by kernel_rfl) (by kernel_rfl) pm_s11 (alt_ok (by kernel_rfl) (by kernel_rfl) pm_s14 (none_ok)))
noncomputable def pm_t16 : OT := .go 4 pm_t4
theorem pm_s16 : ordT (Gq gamPb) pm_ops pm_t16 true 5 #[true, true, true, true, false, true, true, true, true, true, true, true, true, true, false, false, false, false] = true := go_ok (by kernel_rfl) (by kernel_rfl) pm_s4
noncomputable def pm_t17 : OT := .fork (.alt 4 pm_t5 (.alt 13 pm_t16 (.none)))
theorem pm_s17 : ordT (Gq gamPb) pm_ops pm_t17 true 6 #[true, true, true, true, false, true, true, true, true, true, true, true, true, false, false, false, false, false] = true := fork_ok (by kernel_rfl) (alt_ok (by kernel_rfl) (by kernel_rfl) pm_s5 (alt_ok (by kernel_rfl) (by kernel_rfl) pm_s16 (none_ok)))
noncomputable def pm_t18 : OT := .go 12 pm_t17
theorem pm_s18 : ordT (Gq gamPb) pm_ops pm_t18 true 7 #[true, true, true, true, false, true, true, true, true, true, true, true, false, false, false, false, false, false] = true := go_ok (by kernel_rfl) (by kernel_rfl) pm_s17
noncomputable def pm_t19 : OT := .fork (.alt 4 pm_t7 (.alt 11 pm_t18 (.none)))
theorem pm_s19 : ordT (Gq gamPb) pm_ops pm_t19 true 8 #[true, true, true, true, false, true, true, true, true, true, true, false, false, false, false, false, false, false] = true := fork_ok (by kernel_rfl) (alt_ok (by kernel_rfl) (by kernel_rfl) pm_s7 (alt_ok (by kernel_rfl) (by kernel_rfl) pm_s18 (none_ok)))
noncomputable def pm_t20 : OT := .go 8 pm_t18
theorem pm_s20 : ordT (Gq gamPb) pm_ops pm_t20 true 8 #[true, true, true, true, false, true, true, true, false, true, true, true, false, false, false, false, false, false] = true := go_ok (by kernel_rfl) (by kernel_rfl) pm_s18
noncomputable def pm_t21 : OT := .fork (.alt 4 pm_t9 (.alt 8 pm_t19 (.alt 11 pm_t20 (.none))))
theorem pm_s21 : ordT (Gq gamPb) pm_ops pm_t21 true 9 #[true, true, true, true, false, true, true, true, false, true, true, false, false, false, false, false, false, false] = true := fork_ok (by kernel_rfl) (alt_ok (by kernel_rfl) (by kernel_rfl) pm_s9 (alt_ok (by kernel_rfl) (by kernel_rfl) pm_s19 (alt_ok (by kernel_rfl) (by kernel_rfl) pm_s20 (none_ok))))
noncomputable def pm_t22 : OT := .go 7 pm_t21
theorem pm_s22 : ordT (Gq gamPb) pm_ops pm_t22 true 10 #[true, true, true, true, false, true, true, false, false, true, true, false, false, false, false, false, false, false] = true := go_ok (by kernel_rfl) (by kernel_rfl) pm_s21
noncomputable def pm_t23 : OT := .go 6 pm_t22
theorem pm_s23 : ordT (Gq gamPb) pm_ops pm_t23 true 11 #[true, true, true, true, false, true, false, false, false, true, true, false, false, false, false, false, false, false] = true := go_ok (by kernel_rfl) (by kernel_rfl) pm_s22
noncomputable def pm_t24 : OT := .go 7 pm_t20
theorem pm_s24 : ordT (Gq gamPb) pm_ops pm_t24 true 9 #[true, true, true, true, false, true, true, false, false, true, true, true, false, false, false, false, false, false] = true := go_ok (by kernel_rfl) (by kernel_rfl) pm_s20
noncomputable def pm_t25 : OT := .go 6 pm_t24
theorem pm_s25 : ordT (Gq gamPb) pm_ops pm_t25 true 10 #[true, true, true, true, false, true, false, false, false, true, true, true, false, false, false, false, false, false] = true := go_ok (by kernel_rfl) (by kernel_rfl) pm_s24
noncomputable def pm_t26 : OT := .go 5 pm_t25
theorem pm_s26 : ordT (Gq gamPb) pm_ops pm_t26 true 11 #[true, true, true, true, false, false, false, false, false, true, true, true, false, false, false, false, false, false] = true := go_ok (by kernel_rfl) (by kernel_rfl) pm_s25
noncomputable def pm_t27 : OT := .fork (.alt 4 pm_t15 (.alt 5 pm_t23 (.alt 11 pm_t26 (.none))))
theorem pm_s27 : ordT (Gq gamPb) pm_ops pm_t27 true 12 #[true, true, true, true, false, false, false, false, false, true, true, false, false, false, false, false, false, false] = true := fork_ok (by kernel_rfl) (alt_ok (by kernel_rfl) (by kernel_rfl) pm_s15 (alt_ok (by kernel_rfl) (by kernel_rfl) pm_s23 (alt_ok (by kernel_rfl) (by kernel_rfl) pm_s26 (none_ok))))
noncomputable def pm_t28 : OT := .go 3 pm_t27
theorem pm_s28 : ordT (Gq gamPb) pm_ops pm_t28 true 13 #[true, true, true, false, false, false, false, false, false, true, true, false, false, false, false, false, false, false] = true := go_ok (by kernel_rfl) (by kernel_rfl) pm_s27
noncomputable def pm_t29 : OT := .go 2 pm_t28
theorem pm_s29 : ordT (Gq gamPb) pm_ops pm_t29 true 14 #[true, true, false, false, false, false, false, false, false, true, true, false, false, false, false, false, false, false] = true := go_ok (by kernel_rfl) (by kernel_rfl) pm_s28
noncomputable def pm_t30 : OT := .go 3 pm_t21
theorem pm_s30 : ordT (Gq gamPb) pm_ops pm_t30 true 10 #[true, true, true, false, false, true, true, true, false, true, true, false, false, false, false, false, false, false] = true := go_ok (by kernel_rfl) (by kernel_rfl) pm_s21
noncomputable def pm_t31 : OT := .go 2 pm_t30
theorem pm_s31 : ordT (Gq gamPb) pm_ops pm_t31 true 11 #[true, true, false, false, false, true, true, true, false, true, true, false, false, false, false, false, false, false] = true := go_ok (by kernel_rfl) (by kernel_rfl) pm_s30
noncomputable def pm_t32 : OT := .go 3 pm_t19
theorem pm_s32 : ordT (Gq gamPb) pm_ops pm_t32 true 9 #[true, true, true, false, false, true, true, true, true, true, true, false, false, false, false, false, false, false] = true := go_ok (by kernel_rfl) (by kernel_rfl) pm_s19
noncomputable def pm_t33 : OT := .go 2 pm_t32
theorem pm_s33 : ordT (Gq gamPb) pm_ops pm_t33 true 10 #[true, true, false, false, false, true, true, true, true, true, true, false, false, false, false, false, false, false] = true := go_ok (by kernel_rfl) (by kernel_rfl) pm_s32
noncomputable def pm_t34 : OT := .go 3 pm_t17
theorem pm_s34 : ordT (Gq gamPb) pm_ops pm_t34 true 7 #[true, true, true, false, false, true, true, true, true, true, true, true, true, false, false, false, false, false] = true := go_ok (by kernel_rfl) (by kernel_rfl) pm_s17
noncomputable def pm_t35 : OT := .go 2 pm_t34
theorem pm_s35 : ordT (Gq gamPb) pm_ops pm_t35 true 8 #[true, true, false, false, false, true, true, true, true, true, true, true, true, false, false, false, false, false] = true := go_ok (by kernel_rfl) (by kernel_rfl) pm_s34
noncomputable def pm_t36 : OT := .go 3 pm_t16
theorem pm_s36 : ordT (Gq gamPb) pm_ops pm_t36 true 6 #[true, true, true, false, false, true, true, true, true, true, true, true, true, true, false, false, false, false] = true := go_ok (by kernel_rfl) (by kernel_rfl) pm_s16
noncomputable def pm_t37 : OT := .go 2 pm_t36
theorem pm_s37 : ordT (Gq gamPb) pm_ops pm_t37 true 7 #[true, true, false, false, false, true, true, true, true, true, true, true, true, true, false, false, false, false] = true := go_ok (by kernel_rfl) (by kernel_rfl) pm_s36
noncomputable def pm_t38 : OT := .go 1 pm_t37
theorem pm_s38 : ordT (Gq gamPb) pm_ops pm_t38 true 8 #[true, false, false, false, false, true, true, true, true, true, true, true, true, true, false, false, false, false] = true := go_ok (by kernel_rfl) (by kernel_rfl) pm_s37
noncomputable def pm_t39 : OT := .fork (.alt 1 pm_t35 (.alt 13 pm_t38 (.none)))
theorem pm_s39 : ordT (Gq gamPb) pm_ops pm_t39 true 9 #[true, false, false, false, false, true, true, true, true, true, true, true, true, false, false, false, false, false] = true := fork_ok (by kernel_rfl) (alt_ok (by kernel_rfl) (by kernel_rfl) pm_s35 (alt_ok (by kernel_rfl) (by kernel_rfl) pm_s38 (none_ok)))
noncomputable def pm_t40 : OT := .go 12 pm_t39
theorem pm_s40 : ordT (Gq gamPb) pm_ops pm_t40 true 10 #[true, false, false, false, false, true, true, true, true, true, true, true, false, false, false, false, false, false] = true := go_ok (by kernel_rfl) (by kernel_rfl) pm_s39
noncomputable def pm_t41 : OT := .fork (.alt 1 pm_t33 (.alt 11 pm_t40 (.none)))
theorem pm_s41 : ordT (Gq gamPb) pm_ops pm_t41 true 11 #[true, false, false, false, false, true, true, true, true, true, true, false, false, false, false, false, false, false] = true := fork_ok (by kernel_rfl) (alt_ok (by kernel_rfl) (by kernel_rfl) pm_s33 (alt_ok (by kernel_rfl) (by kernel_rfl) pm_s40 (none_ok)))
noncomputable def pm_t42 : OT := .go 8 pm_t40
theorem pm_s42 : ordT (Gq gamPb) pm_ops pm_t42 true 11 #[true, false, false, false, false, true, true, true, false, true, true, true, false, false, false, false, false, false] = true := go_ok (by kernel_rfl) (by kernel_rfl) pm_s40
noncomputable def pm_t43 : OT := .fork (.alt 1 pm_t31 (.alt 8 pm_t41 (.alt 11 pm_t42 (.none))))
theorem pm_s43 : ordT (Gq gamPb) pm_ops pm_t43 true 12 #[true, false, false, false, false, true, true, true, false, true, true, false, false, false, false, false, false, false] = true := fork_ok (by kernel_rfl) (alt_ok (by kernel_rfl) (by kernel_rfl) pm_s31 (alt_ok (by kernel_rfl) (by kernel_rfl) pm_s41 (alt_ok (by kernel_rfl) (by kernel_rfl) pm_s42 (none_ok))))
noncomputable def pm_t44 : OT := .go 7 pm_t43
theorem pm_s44 : ordT (Gq gamPb) pm_ops pm_t44 true 13 #[true, false, false, false, false, true, true, false, false, true, true, false, false, false, false, false, false, false] = true := go_ok (by kernel_rfl) (by kernel_rfl) pm_s43
noncomputable def pm_t45 : OT := .go 6 pm_t44
theorem pm_s45 : ordT (Gq gamPb) pm_ops pm_t45 true 14 #[true, false, false, false, false, true, false, false, false, true, true, false, false, false, false, false, false, false] = true := go_ok (by kernel_rfl) (by kernel_rfl) pm_s44
noncomputable def pm_t46 : OT := .go 7 pm_t42
theorem pm_s46 : ordT (Gq gamPb) pm_ops pm_t46 true 12 #[true, false, false, false, false, true, true, false, false, true, true, true, false, false, false, false, false, false] = true := go_ok (by kernel_rfl) (by kernel_rfl) pm_s42
noncomputable def pm_t47 : OT := .go 6 pm_t46
theorem pm_s47 : ordT (Gq gamPb) pm_ops pm_t47 true 13 #[true, false, false, false, false, true, false, false, false, true, true, true, false, false, false, false, false, false] = true := go_ok (by kernel_rfl) (by kernel_rfl) pm_s46
noncomputable def pm_t48 : OT := .go 5 pm_t47
theorem pm_s48 : ordT (Gq gamPb) pm_ops pm_t48 true 14 #[true, false, false, false, false, false, false, false, false, true, true, true, false, false, false, false, false, false] = true := go_ok (by kernel_rfl) (by kernel_rfl) pm_s47
noncomputable def pm_t49 : OT := .fork (.alt 1 pm_t29 (.alt 5 pm_t45 (.alt 11 pm_t48 (.none))))
theorem pm_s49 : ordT (Gq gamPb) pm_ops pm_t49 true 15 #[true, false, false, false, false, false, false, false, false, true, true, false, false, false, false, false, false, false] = true := fork_ok (by kernel_rfl) (alt_ok (by kernel_rfl) (by kernel_rfl) pm_s29 (alt_ok (by kernel_rfl) (by kernel_rfl) pm_s45 (alt_ok (by kernel_rfl) (by kernel_rfl) pm_s48 (none_ok))))
noncomputable def pm_t50 : OT := .go 0 pm_t3
theorem pm_s50 : ordT (Gq gamPb) pm_ops pm_t50 true 4 #[false, true, true, true, true, true, true, true, true, true, true, true, true, true, true, false, false, false] = true := go_ok (by kernel_rfl) (by kernel_rfl) pm_s3
noncomputable def pm_t51 : OT := .fork (.alt 0 pm_t4 (.alt 14 pm_t50 (.none)))
theorem pm_s51 : ordT (Gq gamPb) pm_ops pm_t51 true 5 #[false, true, true, true, true, true, true, true, true, true, true, true, true, true, false, false, false, false] = true := fork_ok (by kernel_rfl) (alt_ok (by kernel_rfl) (by kernel_rfl) pm_s4 (alt_ok (by kernel_rfl) (by kernel_rfl) pm_s50 (none_ok)))
noncomputable def pm_t52 : OT := .fork (.alt 0 pm_t5 (.alt 13 pm_t51 (.none)))
theorem pm_s52 : ordT (Gq gamPb) pm_ops pm_t52 true 6 #[false, true, true, true, true, true, true, true, true, true, true, true, true, false, false, false, false, false] = true := fork_ok (by kernel_rfl) (alt_ok (by kernel_rfl) (by kernel_rfl) pm_s5 (alt_ok (by kernel_rfl) (by kernel_rfl) pm_s51 (none_ok)))
noncomputable def pm_t53 : OT := .go 12 pm_t52
theorem pm_s53 : ordT (Gq gamPb) pm_ops pm_t53 true 7 #[false, true, true, true, true, true, true, true, true, true, true, true, false, false, false, false, false, false] = true := go_ok (by kernel_rfl) (by kernel_rfl) pm_s52
noncomputable def pm_t54 : OT := .fork (.alt 0 pm_t7 (.alt 11 pm_t53 (.none)))
theorem pm_s54 : ordT (Gq gamPb) pm_ops pm_t54 true 8 #[false, true, true, true, true, true, true, true, true, true, true, false, false, false, false, false, false, false] = true := fork_ok (by kernel_rfl) (alt_ok (by kernel_rfl) (by kernel_rfl) pm_s7 (alt_ok (by kernel_rfl) (by kernel_rfl) pm_s53 (none_ok)))
noncomputable def pm_t55 : OT := .go 8 pm_t53
theorem pm_s55 : ordT (Gq gamPb) pm_ops pm_t55 true 8 #[false, true, true, true, true, true, true, true, false, true, true, true, false, false, false, false, false, false] = true := go_ok (by kernel_rfl) (by kernel_rfl) pm_s53
noncomputable def pm_t56 : OT := .fork (.alt 0 pm_t9 (.alt 8 pm_t54 (.alt 11 pm_t55 (.none))))
theorem pm_s56 : ordT (Gq gamPb) pm_ops pm_t56 true 9 #[false, true, true, true, true, true, true, true, false, true, true, false, false, false, false, false, false, false] = true := fork_ok (by kernel_rfl) (alt_ok (by kernel_rfl) (by kernel_rfl) pm_s9 (alt_ok (by kernel_rfl) (by kernel_rfl) pm_s54 (alt_ok (by kernel_rfl) (by kernel_rfl) pm_s55 (none_ok))))
noncomputable def pm_t57 : OT := .go 7 pm_t56
theorem pm_s57 : ordT (Gq gamPb) pm_ops pm_t57 true 10 #[false, true, true, true, true, true, true, false, false, true, true, false, false, false, false, false, false, false] = true := go_ok (by kernel_rfl) (by kernel_rfl) pm_s56
noncomputable def pm_t58 : OT := .go 6 pm_t57
theorem pm_s58 : ordT (Gq gamPb) pm_ops pm_t58 true 11 #[false, true, true, true, true, true, false, false, false, true, true, false, false, false, false, false, false, false] = true := go_ok (by kernel_rfl) (by kernel_rfl) pm_s57
noncomputable def pm_t59 : OT := .go 7 pm_t55
theorem pm_s59 : ordT (Gq gamPb) pm_ops pm_t59 true 9 #[false, true, true, true, true, true, true, false, false, true, true, true, false, false, false, false, false, false] = true := go_ok (by kernel_rfl) (by kernel_rfl) pm_s55
noncomputable def pm_t60 : OT := .go 6 pm_t59
theorem pm_s60 : ordT (Gq gamPb) pm_ops pm_t60 true 10 #[false, true, true, true, true, true, false, false, false, true, true, true, false, false, false, false, false, false] = true := go_ok (by kernel_rfl) (by kernel_rfl) pm_s59
noncomputable def pm_t61 : OT := .go 5 pm_t60
theorem pm_s61 : ordT (Gq gamPb) pm_ops pm_t61 true 11 #[false, true, true, true, true, false, false, false, false, true, true, true, false, false, false, false, false, false] = true := go_ok (by kernel_rfl) (by kernel_rfl) pm_s60
noncomputable def pm_t62 : OT := .fork (.alt 0 pm_t15 (.alt 5 pm_t58 (.alt 11 pm_t61 (.none))))
theorem pm_s62 : ordT (Gq gamPb) pm_ops pm_t62 true 12 #[false, true, true, true, true, false, false, false, false, true, true, false, false, false, false, false, false, false] = true := fork_ok (by kernel_rfl) (alt_ok (by kernel_rfl) (by kernel_rfl) pm_s15 (alt_ok (by kernel_rfl) (by kernel_rfl) pm_s58 (alt_ok (by kernel_rfl) (by kernel_rfl) pm_s61 (none_ok))))
noncomputable def pm_t63 : OT := .go 4 pm_t51
theorem pm_s63 : ordT (Gq gamPb) pm_ops pm_t63 true 6 #[false, true, true, true, false, true, true, true, true, true, true, true, true, true, false, false, false, false] = true := go_ok (by kernel_rfl) (by kernel_rfl) pm_s51
noncomputable def pm_t64 : OT := .fork (.alt 0 pm_t17 (.alt 4 pm_t52 (.alt 13 pm_t63 (.none))))
theorem pm_s64 : ordT (Gq gamPb) pm_ops pm_t64 true 7 #[false, true, true, true, false, true, true, true, true, true, true, true, true, false, false, false, false, false] = true := fork_ok (by kernel_rfl) (alt_ok (by kernel_rfl) (by kernel_rfl) pm_s17 (alt_ok (by kernel_rfl) (by kernel_rfl) pm_s52 (alt_ok (by kernel_rfl) (by kernel_rfl) pm_s63 (none_ok))))
noncomputable def pm_t65 : OT := .go 12 pm_t64
theorem pm_s65 : ordT (Gq gamPb) pm_ops pm_t65 true 8 #[false, true, true, true, false, true, true, true, true, true, true, true, false, false, false, false, false, false] = true := go_ok (by kernel_rfl) (by kernel_rfl) pm_s64
noncomputable def pm_t66 : OT := .fork (.alt 0 pm_t19 (.alt 4 pm_t54 (.alt 11 pm_t65 (.none))))
theorem pm_s66 : ordT (Gq gamPb) pm_ops pm_t66 true 9 #[false, true, true, true, false, true, true, true, true, true, true, false, false, false, false, false, false, false] = true := fork_ok (by kernel_rfl) (alt_ok (by kernel_rfl) (by kernel_rfl) pm_s19 (alt_ok (by kernel_rfl) (by kernel_rfl) pm_s54 (alt_ok (by kernel_rfl) (by kernel_rfl) pm_s65 (none_ok))))
noncomputable def pm_t67 : OT := .go 8 pm_t65
theorem pm_s67 : ordT (Gq gamPb) pm_ops pm_t67 true 9 #[false, true, true, true, false, true, true, true, false, true, true, true, false, false, false, false, false, false] = true := go_ok (by kernel_rfl) (by kernel_rfl) pm_s65
noncomputable def pm_t68 : OT := .fork (.alt 0 pm_t21 (.alt 4 pm_t56 (.alt 8 pm_t66 (.alt 11 pm_t67 (.none)))))
theorem pm_s68 : ordT (Gq gamPb) pm_ops pm_t68 true 10 #[false, true, true, true, false, true, true, true, false, true, true, false, false, false, false, false, false, false] = true := fork_ok (by kernel_rfl) (alt_ok (by kernel_rfl) (by kernel_rfl) pm_s21 (alt_ok (by kernel_rfl) (by kernel_rfl) pm_s56 (alt_ok (by kernel_rfl) (by kernel_rfl) pm_s66 (alt_ok (by kernel_rfl) (by kernel_rfl) pm_s67 (none_ok)))))
noncomputable def pm_t69 : OT := .go 7 pm_t68
theorem pm_s69 : ordT (Gq gamPb) pm_ops pm_t69 true 11 #[false, true, true, true, false, true, true, false, false, true, true, false, false, false, false, false, false, false] = true := go_ok (by kernel_rfl) (by kernel_rfl) pm_s68
noncomputable def pm_t70 : OT := .go 6 pm_t69
theorem pm_s70 : ordT (Gq gamPb) pm_ops pm_t70 true 12 #[false, true, true, true, false, true, false, false, false, true, true, false, false, false, false, false, false, false] = true := go_ok (by kernel_rfl) (by kernel_rfl) pm_s69
noncomputable def pm_t71 : OT := .go 7 pm_t67
theorem pm_s71 : ordT (Gq gamPb) pm_ops pm_t71 true 10 #[false, true, true, true, false, true, true, false, false, true, true, true, false, false, false, false, false, false] = true := go_ok (by kernel_rfl) (by kernel_rfl) pm_s67
noncomputable def pm_t72 : OT := .go 6 pm_t71
theorem pm_s72 : ordT (Gq gamPb) pm_ops pm_t72 true 11 #[false, true, true, true, false, true, false, false, false, true, true, true, false, false, false, false, false, false] = true := go_ok (by kernel_rfl) (by kernel_rfl) pm_s71
noncomputable def pm_t73 : OT := .go 5 pm_t72
theorem pm_s73 : ordT (Gq gamPb) pm_ops pm_t73 true 12 #[false, true, true, true, false, false, false, false, false, true, true, true, false, false, false, false, false, false] = true := go_ok (by kernel_rfl) (by kernel_rfl) pm_s72
noncomputable def pm_t74 : OT := .fork (.alt 0 pm_t27 (.alt 4 pm_t62 (.alt 5 pm_t70 (.alt 11 pm_t73 (.none)))))
theorem pm_s74 : ordT (Gq gamPb) pm_ops pm_t74 true 13 #[false, true, true, true, false, false, false, false, false, true, true, false, false, false, false, false, false, false] = true := fork_ok (by kernel_rfl) (alt_ok (by kernel_rfl) (by kernel_rfl) pm_s27 (alt_ok (by kernel_rfl) (by kernel_rfl) pm_s62 (alt_ok (by kernel_rfl) (by kernel_rfl) pm_s70 (alt_ok (by kernel_rfl) (by kernel_rfl) pm_s73 (none_ok)))))
noncomputable def pm_t75 : OT := .go 3 pm_t74
theorem pm_s75 : ordT (Gq gamPb) pm_ops pm_t75 true 14 #[false, true, true, false, false, false, false, false, false, true, true, false, false, false, false, false, false, false] = true := go_ok (by kernel_rfl) (by kernel_rfl) pm_s74
noncomputable def pm_t76 : OT := .go 2 pm_t75
theorem pm_s76 : ordT (Gq gamPb) pm_ops pm_t76 true 15 #[false, true, false, false, false, false, false, false, false, true, true, false, false, false, false, false, false, false] = true := go_ok (by kernel_rfl) (by kernel_rfl) pm_s75
noncomputable def pm_t77 : OT := .go 3 pm_t68
theorem pm_s77 : ordT (Gq gamPb) pm_ops pm_t77 true 11 #[false, true, true, false, false, true, true, true, false, true, true, false, false, false, false, false, false, false] = true := go_ok (by kernel_rfl) (by kernel_rfl) pm_s68
noncomputable def pm_t78 : OT := .go 2 pm_t77
theorem pm_s78 : ordT (Gq gamPb) pm_ops pm_t78 true 12 #[false, true, false, false, false, true, true, true, false, true, true, false, false, false, false, false, false, false] = true := go_ok (by kernel_rfl) (by kernel_rfl) pm_s77
noncomputable def pm_t79 : OT := .go 3 pm_t66
theorem pm_s79 : ordT (Gq gamPb) pm_ops pm_t79 true 10 #[false, true, true, false, false, true, true, true, true, true, true, false, false, false, false, false, false, false] = true := go_ok (by kernel_rfl) (by kernel_rfl) pm_s66
noncomputable def pm_t80 : OT := .go 2 pm_t79
theorem pm_s80 : ordT (Gq gamPb) pm_ops pm_t80 true 11 #[false, true, false, false, false, true, true, true, true, true, true, false, false, false, false, false, false, false] = true := go_ok (by kernel_rfl) (by kernel_rfl) pm_s79
noncomputable def pm_t81 : OT := .go 3 pm_t64
theorem pm_s81 : ordT (Gq gamPb) pm_ops pm_t81 true 8 #[false, true, true, false, false, true, true, true, true, true, true, true, true, false, false, false, false, false] = true := go_ok (by kernel_rfl) (by kernel_rfl) pm_s64
noncomputable def pm_t82 : OT := .go 2 pm_t81
theorem pm_s82 : ordT (Gq gamPb) pm_ops pm_t82 true 9 #[false, true, false, false, false, true, true, true, true, true, true, true, true, false, false, false, false, false] = true := go_ok (by kernel_rfl) (by kernel_rfl) pm_s81
noncomputable def pm_t83 : OT := .go 3 pm_t63
theorem pm_s83 : ordT (Gq gamPb) pm_ops pm_t83 true 7 #[false, true, true, false, false, true, true, true, true, true, true, true, true, true, false, false, false, false] = true := go_ok (by kernel_rfl) (by kernel_rfl) pm_s63
noncomputable def pm_t84 : OT := .go 2 pm_t83
theorem pm_s84 : ordT (Gq gamPb) pm_ops pm_t84 true 8 #[false, true, false, false, false, true, true, true, true, true, true, true, true, true, false, false, false, false] = true := go_ok (by kernel_rfl) (by kernel_rfl) pm_s83
noncomputable def pm_t85 : OT := .go 1 pm_t84
theorem pm_s85 : ordT (Gq gamPb) pm_ops pm_t85 true 9 #[false, false, false, false, false, true, true, true, true, true, true, true, true, true, false, false, false, false] = true := go_ok (by kernel_rfl) (by kernel_rfl) pm_s84
noncomputable def pm_t86 : OT := .fork (.alt 0 pm_t39 (.alt 1 pm_t82 (.alt 13 pm_t85 (.none))))
theorem pm_s86 : ordT (Gq gamPb) pm_ops pm_t86 true 10 #[false, false, false, false, false, true, true, true, true, true, true, true, true, false, false, false, false, false] = true := fork_ok (by kernel_rfl) (alt_ok (by kernel_rfl) (by kernel_rfl) pm_s39 (alt_ok (by kernel_rfl) (by kernel_rfl) pm_s82 (alt_ok (by kernel_rfl) (by kernel_rfl) pm_s85 (none_ok))))
noncomputable def pm_t87 : OT := .go 12 pm_t86
theorem pm_s87 : ordT (Gq gamPb) pm_ops pm_t87 true 11 #[false, false, false, false, false, true, true, true, true, true, true, true, false, false, false, false, false, false] = true := go_ok (by kernel_rfl) (by kernel_rfl) pm_s86
noncomputable def pm_t88 : OT := .fork (.alt 0 pm_t41 (.alt 1 pm_t80 (.alt 11 pm_t87 (.none))))
theorem pm_s88 : ordT (Gq gamPb) pm_ops pm_t88 true 12 #[false, false, false, false, false, true, true, true, true, true, true, false, false, false, false, false, false, false] = true := fork_ok (by kernel_rfl) (alt_ok (by kernel_rfl) (by kernel_rfl) pm_s41 (alt_ok (by kernel_rfl) (by kernel_rfl) pm_s80 (alt_ok (by kernel_rfl) (by kernel_rfl) pm_s87 (none_ok))))
noncomputable def pm_t89 : OT := .go 8 pm_t87
theorem pm_s89 : ordT (Gq gamPb) pm_ops pm_t89 true 12 #[false, false, false, false, false, true, true, true, false, true, true, true, false, false, false, false, false, false] = true := go_ok (by kernel_rfl) (by kernel_rfl) pm_s87
noncomputable def pm_t90 : OT := .fork (.alt 0 pm_t43 (.alt 1 pm_t78 (.alt 8 pm_t88 (.alt 11 pm_t89 (.none)))))
theorem pm_s90 : ordT (Gq gamPb) pm_ops pm_t90 true 13 #[false, false, false, false, false, true, true, true, false, true, true, false, false, false, false, false, false, false] = true := fork_ok (by kernel_rfl) (alt_ok (by kernel_rfl) (by kernel_rfl) pm_s43 (alt_ok (by kernel_rfl) (by kernel_rfl) pm_s78 (alt_ok (by kernel_rfl) (by kernel_rfl) pm_s88 (alt_ok (by kernel_rfl) (by kernel_rfl) pm_s89 (none_ok)))))
noncomputable def pm_t91 : OT := .go 7 pm_t90
theorem pm_s91 : ordT (Gq gamPb) pm_ops pm_t91 true 14 #[false, false, false, false, false, true, true, false, false, true, true, false, false, false, false, false, false, false] = true := go_ok (by kernel_rfl) (by kernel_rfl) pm_s90
noncomputable def pm_t92 : OT := .go 6 pm_t91
theorem pm_s92 : ordT (Gq gamPb) pm_ops pm_t92 true 15 #[false, false, false, false, false, true, false, false, false, true, true, false, false, false, false, false, false, false] = true := go_ok (by kernel_rfl) (by kernel_rfl) pm_s91
noncomputable def pm_t93 : OT := .go 7 pm_t89
theorem pm_s93 : ordT (Gq gamPb) pm_ops pm_t93 true 13 #[false, false, false, false, false, true, true, false, false, true, true, true, false, false, false, false, false, false] = true := go_ok (by kernel_rfl) (by kernel_rfl) pm_s89
noncomputable def pm_t94 : OT := .go 6 pm_t93
theorem pm_s94 : ordT (Gq gamPb) pm_ops pm_t94 true 14 #[false, false, false, false, false, true, false, false, false, true, true, true, false, false, false, false, false, false] = true := go_ok (by kernel_rfl) (by kernel_rfl) pm_s93
noncomputable def pm_t95 : OT := .go 5 pm_t94
theorem pm_s95 : ordT (Gq gamPb) pm_ops pm_t95 true 15 #[false, false, false, false, false, false, false, false, false, true, true, true, false, false, false, false, false, false] = true := go_ok (by kernel_rfl) (by kernel_rfl) pm_s94
noncomputable def pm_t96 : OT := .fork (.alt 0 pm_t49 (.alt 1 pm_t76 (.alt 5 pm_t92 (.alt 11 pm_t95 (.none)))))
theorem pm_s96 : ordT (Gq gamPb) pm_ops pm_t96 true 16 #[false, false, false, false, false, false, false, false, false, true, true, false, false, false, false, false, false, false] = true := fork_ok (by kernel_rfl) (alt_ok (by kernel_rfl) (by kernel_rfl) pm_s49 (alt_ok (by kernel_rfl) (by kernel_rfl) pm_s76 (alt_ok (by kernel_rfl) (by kernel_rfl) pm_s92 (alt_ok (by kernel_rfl) (by kernel_rfl) pm_s95 (none_ok)))))
noncomputable def pm_t97 : OT := .go 10 pm_t96
theorem pm_s97 : ordT (Gq gamPb) pm_ops pm_t97 true 17 #[false, false, false, false, false, false, false, false, false, true, false, false, false, false, false, false, false, false] = true := go_ok (by kernel_rfl) (by kernel_rfl) pm_s96
noncomputable def pm_t98 : OT := .go 9 pm_t97
theorem pm_s98 : ordT (Gq gamPb) pm_ops pm_t98 true 18 #[false, false, false, false, false, false, false, false, false, false, false, false, false, false, false, false, false, false] = true := go_ok (by kernel_rfl) (by kernel_rfl) pm_s97
noncomputable def pm_tree : OT := pm_t98
noncomputable def pm_ord : Ord := fun id => if id = 15 then some pm_tree else none
theorem pm_okR : okR (Gq gamPb) pm_ord (15, pm_ops) = true := okR_mk rfl (by kernel_rfl) (by kernel_rfl) pm_s98
theorem pm_regs : ((match Try.f12.body with | some c => regsD c | none => []).filter fun r => r.1 == 15) = [(15, pm_ops)] := by kernel_rfl
theorem pm_mem : ∀ r ∈ (match Try.f12.body with | some c => regsD c | none => []), (r.1 == 15) = true → okR (Gq gamPb) pm_ord r = true := by
  intro r hr h
  have h1 := List.mem_filter (p := fun r : Nat × Array Oper => r.1 == 15) |>.2 ⟨hr, h⟩
  rw [pm_regs, List.mem_singleton] at h1
  rw [h1]
  exact pm_okR
end Go.Proofs.Ytemfikdogdadnaa
