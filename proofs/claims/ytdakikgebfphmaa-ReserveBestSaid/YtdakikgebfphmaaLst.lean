/-
  The reference Lists: all rows of numbers within limits that have a sum.
-/
import Derived.Test.YtdakikgebfphmaaSrtP
namespace Go.Proofs.Ytdakikgebfphmaa
open Go.RowKit

/-- the rows that begin with 0, 1, .., V - 1 -/
def LSp (f : Int → List (List Int)) : Nat → List (List Int)
  | 0 => []
  | V + 1 => LSp f V ++ (f V).map fun l => (V : Int) :: l
def LS (lim : Nat → Int) : Nat → Int → List (List Int)
  | 0, s => if s = 0 then [[]] else []
  | n + 1, s => LSp (fun v => LS (fun k => lim (k + 1)) n (s - v)) (min (lim 0) s + 1).toNat
/-- the rows as slices -/
def lCell : List Int → Nat → Nat → L
  | [] => fun k j => [][k * 1 + j]?.getD (L.v undef)
  | v :: l => fun k j => if k < 1 then [iL v][k * 1 + j]?.getD (L.v undef) else lCell l (k - 1) j
def rowL (l : List (List Int)) (n : Nat) : Nat → Nat → L := fun k _ => .sl 1 n (lCell (l.getD k []))
def lmOk (lim : Nat → Int) (n : Nat) : Prop := n ≤ 3 ∧ ∀ k, k < n → 0 ≤ lim k ∧ lim k ≤ 8
theorem LSp_len {f : Int → List (List Int)} {c : Nat} (h : ∀ v, (f v).length ≤ c) : ∀ V, (LSp f V).length ≤ V * c
  | 0 => Nat.zero_le _
  | V + 1 => by
    have := LSp_len h V
    have := h V
    simp only [LSp, List.length_append, List.length_map]
    rw [Nat.add_mul]
    omega
theorem LS_len : ∀ {n : Nat} {lim : Nat → Int} {s : Int}, (∀ k, k < n → lim k ≤ 8) → (LS lim n s).length ≤ 9 ^ n
  | 0, lim, s, _ => by
    unfold LS
    split <;> simp
  | n + 1, lim, s, h => by
    have h1 := LSp_len (f := fun v => LS (fun k => lim (k + 1)) n (s - v)) (c := 9 ^ n) (fun v => LS_len fun k hk => h (k + 1) (by omega)) (min (lim 0) s + 1).toNat
    have h2 := h 0 (by omega)
    have h3 : (min (lim 0) s + 1).toNat ≤ 9 := by omega
    have h4 := Nat.mul_le_mul_right (9 ^ n) h3
    show (LSp _ _).length ≤ _
    rw [Nat.pow_succ, Nat.mul_comm (9 ^ n)]
    omega
theorem lsLe {n : Nat} {lim lim' : Nat → Int} (h : ∀ k, k < n → lim k = lim' k) : Le1 (.c (.sl 1 n (c1 lim))) (.c (.sl 1 n (c1 lim'))) := Le1.sl fun k hk j hj => by
  obtain rfl : j = 0 := by omega
  show iL (lim k) = iL (lim' k)
  rw [h k hk]
theorem lsNil {sz : Nat} {f : Nat → Nat → L} : Le1 (.c (.v (.slice none 0 0))) (.c (.sl sz 0 f)) := fun σ I w v hd => by
  simp only [Den, L.rd] at hd ⊢
  obtain ⟨rfl, _⟩ := hd
  exact ⟨none, 0, rfl, Nat.le_refl _, Nat.zero_le _, fun h => absurd h (Nat.lt_irrefl 0)⟩
/-- what Lists returns -/
def lsK (lim : Nat → Int) (n : Nat) (s : Int) (obs : List OB) (v : AV) : Prop :=
  obs = [] ∧ (((LS lim n s).length = 0 ∧ v = .c (.v (.slice none 0 0))) ∨ ∃ f, v = .c (.sl 1 (LS lim n s).length f) ∧ ShL (LS lim n s).length 1 f (rowL (LS lim n s) n))
set_option maxHeartbeats 1000000 in
theorem lists0 (lim : Nat → Int) (s : Int) : Fn Try.prog 55 [.c (.sl 1 0 (c1 lim)), intV s] (lsK lim 0 s) := by
  refine fn_of_wpx (O := lex) tab_ok gamZ_ok mixed Try.func55 (by kernel_rfl) rfl rfl rfl (by simp [Try.ntmps55]) (by kernel_rfl) ?_
  conv => whnf
  repeat' (first
    | (refine NilG.mk fun bn hbn => ?_; conv => whnf)
    | (refine Both.mk ?_ ?_ <;> conv => whnf)
    | exact trivial
    | (refine Br.mk (fun hb => ?_) (fun hb => ?_) <;> (first | (exfalso; revert hb; decide) | ((try simp only [BL] at hb) <;> (try simp only [DL] at hb) <;> conv => whnf)))
    | (refine And.intro ?_ ?_; (focus (first | exact id | exact rfl | exact trivial | (intro hg; first | exact hg | exact rfl | (simp; done) | (simp at hg ⊢; assumption)) | omega | decide | exact is2_c _ _ _ | exact is1_c _ _ | exact isS_c _ _ | exact isB_c _ _ | exact Nat.le_refl _ | assumption | exact mulLe (by decide) (by omega) | exact mulLe2 (by decide) (by omega) (by omega) | (intros; simp only [BL] at *; omega) | (intros; (try simp only [BL] at *); (try simp only [DL] at *); omega) | (intros; simp only [BL] at *; rw [wr_id (by omega) (by omega)]; omega) | (intro h1 h2; exact Bool.and_eq_true_iff.2 ⟨h1, h2⟩) | (intros; simp_all; done))); conv => whnf)
    | (refine Or.inr (And.intro rfl ?_); first | (refine congrArg intV ?_) | (refine congrArg boolV ?_) | (refine tupII ?_ ?_) | (refine tupIII ?_ ?_ ?_) | (refine tupU ?_ ?_ ?_ ?_ ?_) | exact rfl))
  · have e : LS lim 0 s = [[]] := if_pos hb
    refine .inr ⟨rfl, .inr ?_⟩
    rw [e]
    refine ⟨_, rfl, fun k hk j hj => ?_⟩
    obtain rfl : k = 0 := by have : k < 1 := hk; omega
    obtain rfl : j = 0 := by omega
    exact LLe.sl fun k hk => absurd hk (Nat.not_lt_zero _)
  · have e : LS lim 0 s = [] := if_neg hb
    exact .inr ⟨rfl, .inl ⟨by rw [e]; rfl, rfl⟩⟩
theorem listsS (lim : Nat → Int) (n : Nat) (s : Int) (hl : lmOk lim (n + 1)) (hs : -1000 ≤ s ∧ s ≤ 1000) (ih : ∀ s', -1000 ≤ s' → s' ≤ 1000 → Fn Try.prog 55 [.c (.sl 1 n (c1 fun k => lim (k + 1))), intV s'] (fun obs v => obs = [] ∧ v = .c (.sl 1 (LS (fun k => lim (k + 1)) n s').length (rowL (LS (fun k => lim (k + 1)) n s') n)))) : Fn Try.prog 55 [.c (.sl 1 (n + 1) (c1 lim)), intV s] (lsK lim (n + 1) s) := by
  refine fn_of_wpx (O := lex) tab_ok gamZ_ok mixed Try.func55 (by kernel_rfl) rfl rfl rfl (by simp [Try.ntmps55]) (by kernel_rfl) ?_
  have hn := hl.1
  have h0 := hl.2 0 (by omega)
  conv => whnf
  repeat' (first
    | (refine NilG.mk fun bn hbn => ?_; conv => whnf)
    | (refine Both.mk ?_ ?_ <;> conv => whnf)
    | exact trivial
    | (refine Br.mk (fun hb => ?_) (fun hb => ?_) <;> (first | (exfalso; revert hb; decide) | ((try simp only [BL] at hb) <;> (try simp only [DL] at hb) <;> conv => whnf)))
    | (refine And.intro ?_ ?_; (focus (first | exact id | exact rfl | exact trivial | (intro hg; first | exact hg | exact rfl | (simp; done) | (simp at hg ⊢; assumption)) | omega | decide | exact is2_c _ _ _ | exact is1_c _ _ | exact isS_c _ _ | exact isB_c _ _ | exact Nat.le_refl _ | assumption | exact mulLe (by decide) (by omega) | exact mulLe2 (by decide) (by omega) (by omega) | (intros; simp only [BL] at *; omega) | (intros; (try simp only [BL] at *); (try simp only [DL] at *); omega) | (intros; simp only [BL] at *; rw [wr_id (by omega) (by omega)]; omega) | (intro h1 h2; exact Bool.and_eq_true_iff.2 ⟨h1, h2⟩) | (intros; simp_all; done))); conv => whnf)
    | (refine Or.inr (And.intro rfl ?_); first | (refine congrArg intV ?_) | (refine congrArg boolV ?_) | (refine tupII ?_ ?_) | (refine tupIII ?_ ?_ ?_) | (refine tupU ?_ ?_ ?_ ?_ ?_) | exact rfl))
  all_goals first | (exfalso; omega) | skip
  refine LoopG.nil 5 33 1 rfl ?_
  generalize hf : (fun v => LS (fun k => lim (k + 1)) n (s - v)) = f
  have hlen : ∀ v, (f v).length ≤ 81 := fun v => by
    rw [← hf]
    have h8 := LS_len (n := n) (lim := fun k => lim (k + 1)) (s := s - v) fun k hk => (hl.2 (k + 1) (by omega)).2
    exact Nat.le_trans h8 (Nat.pow_le_pow_right (n := 9) (by decide) (show n ≤ 2 by omega))
  refine sem_loop tab_ok gamZ_ok mixed (by kernel_rfl) (O := lex) (fun V : Nat => ⟨[(0, .c (.sl 1 (n + 1) (c1 lim))), (1, intV s), (5, .own 0), (6, intV V)], [.row 33 1 (LSp f V).length false (rowL (LSp f V) (n + 1))]⟩) (fun V => V ≤ (min (lim 0) s + 1).toNat) (fun V => (min (lim 0) s + 1).toNat - V) ⟨0, [?_], Nat.zero_le _, ?_⟩ fun V hV => ?_
  rotate_left 1
  · refine Sub.of ?_ ?_ ?_
    repeat' (first | (refine And.intro ?_ ?_) | exact trivial | exact fun _ _ _ => hsc _ _ | (exact congrArg intV (by first | with_reducible rfl | with_reducible assumption)) | exact (rfl : AV.idsLt _ _ = true) | exact (rfl : _ = AV.ren _ (.own _)) | exact (rfl : _ = AV.ren _ (.fn _ _)) | exact (rfl : _ = AV.ren _ (.gh _)) | (exact congrArg intV (by assumption)) | (refine congrArg intV ((wr_id (by omega) (by omega)).trans (by omega))) | exact rfl | (simp only [Int.toNat_natCast, Int.toNat_zero, Nat.sub_zero, Nat.zero_add]; first | exact rfl | done) | exact all0 | exact fun h => Bool.noConfusion h | exact fun _ _ _ _ => rfl | omega)
  conv => whnf
  repeat' (first
    | (refine NilG.mk fun bn hbn => ?_; conv => whnf)
    | (refine Both.mk ?_ ?_ <;> conv => whnf)
    | exact trivial
    | (refine Br.mk (fun hb => ?_) (fun hb => ?_) <;> (first | (exfalso; revert hb; decide) | ((try simp only [BL] at hb) <;> (try simp only [DL] at hb) <;> conv => whnf)))
    | (refine And.intro ?_ ?_; (focus (first | exact id | exact rfl | exact trivial | (intro hg; first | exact hg | exact rfl | (simp; done) | (simp at hg ⊢; assumption)) | omega | decide | exact is2_c _ _ _ | exact is1_c _ _ | exact isS_c _ _ | exact isB_c _ _ | exact Nat.le_refl _ | assumption | exact mulLe (by decide) (by omega) | exact mulLe2 (by decide) (by omega) (by omega) | (intros; simp only [BL] at *; omega) | (intros; (try simp only [BL] at *); (try simp only [DL] at *); omega) | (intros; simp only [BL] at *; rw [wr_id (by omega) (by omega)]; omega) | (intro h1 h2; exact Bool.and_eq_true_iff.2 ⟨h1, h2⟩) | (intros; simp_all; done))); conv => whnf)
    | (refine Or.inr (And.intro rfl ?_); first | (refine congrArg intV ?_) | (refine congrArg boolV ?_) | (refine tupII ?_ ?_) | (refine tupIII ?_ ?_ ?_) | (refine tupU ?_ ?_ ?_ ?_ ?_) | exact rfl))
  · have hVm : V < (min (lim 0) s + 1).toNat := by
      have hb : (V : Int) ≤ min (lim 0) s := hb
      omega
    have ew : IntKind.i64.wrap (s - V) = s - V := wr_id (by omega) (by omega)
    rw [ew]
    have efV : f V = LS (fun k => lim (k + 1)) n (s - V) := by rw [← hf]
    refine CallG.mk (Fn.mono ((ih (s - V) (by omega) (by omega)).le (Le.cons (Le1.sl fun k hk j hj => ?_) (Le.cons (Le1.refl _) Le.nil))) ?_)
    · obtain rfl : j = 0 := by omega
      show iL (lim (1 + k)) = iL (lim (k + 1))
      rw [Nat.add_comm]
    rintro obs r ⟨rfl, rfl⟩
    rw [← efV]
    have hlV := hlen V
    have hpl := LSp_len hlen V
    conv => whnf
    repeat' (first
      | (refine NilG.mk fun bn hbn => ?_; conv => whnf)
      | (refine Both.mk ?_ ?_ <;> conv => whnf)
      | exact trivial
      | (refine Br.mk (fun hb => ?_) (fun hb => ?_) <;> (first | (exfalso; revert hb; decide) | ((try simp only [BL] at hb) <;> (try simp only [DL] at hb) <;> conv => whnf)))
      | (refine And.intro ?_ ?_; (focus (first | exact id | exact rfl | exact trivial | (intro hg; first | exact hg | exact rfl | (simp; done) | (simp at hg ⊢; assumption)) | omega | decide | exact is2_c _ _ _ | exact is1_c _ _ | exact isS_c _ _ | exact isB_c _ _ | exact Nat.le_refl _ | assumption | exact mulLe (by decide) (by omega) | exact mulLe2 (by decide) (by omega) (by omega) | (intros; simp only [BL] at *; omega) | (intros; (try simp only [BL] at *); (try simp only [DL] at *); omega) | (intros; simp only [BL] at *; rw [wr_id (by omega) (by omega)]; omega) | (intro h1 h2; exact Bool.and_eq_true_iff.2 ⟨h1, h2⟩) | (intros; simp_all; done))); conv => whnf)
      | (refine Or.inr (And.intro rfl ?_); first | (refine congrArg intV ?_) | (refine congrArg boolV ?_) | (refine tupII ?_ ?_) | (refine tupIII ?_ ?_ ?_) | (refine tupU ?_ ?_ ?_ ?_ ?_) | exact rfl))
    have e0 : (LSp f V).length = (LSp f V ++ ((f V).take 0).map fun l => (V : Int) :: l).length := by simp
    refine sem_loop tab_ok gamZ_ok mixed (by kernel_rfl) (O := lex) (fun i : Nat => ⟨[(0, .c (.sl 1 (n + 1) (c1 lim))), (1, intV s), (5, .own 0), (6, intV V), (30, .c (.sl 1 (f V).length (rowL (f V) n))), (31, intV (f V).length), (32, intV i)], [.row 33 1 ((LSp f V).length + i) false (rowL (LSp f V ++ ((f V).take i).map fun l => (V : Int) :: l) (n + 1))]⟩) (fun i => i ≤ (f V).length) (fun i => (f V).length - i) ⟨0, [?_], Nat.zero_le _, ?_⟩ fun i hi => ?_
    rotate_left 1
    · refine Sub.of ?_ ?_ ?_
      repeat' (first | (refine And.intro ?_ ?_) | exact trivial | exact fun _ _ _ => hsc _ _ | (exact congrArg intV (by first | with_reducible rfl | with_reducible assumption)) | exact (rfl : AV.idsLt _ _ = true) | exact (rfl : _ = AV.ren _ (.own _)) | exact (rfl : _ = AV.ren _ (.fn _ _)) | exact (rfl : _ = AV.ren _ (.gh _)) | (exact congrArg intV (by assumption)) | (refine congrArg intV ((wr_id (by omega) (by omega)).trans (by omega))) | exact rfl | (simp only [Int.toNat_natCast, Int.toNat_zero, Nat.sub_zero, Nat.zero_add]; first | exact rfl | done) | exact all0 | exact fun h => Bool.noConfusion h | exact fun _ _ _ _ => rfl | omega)
      · intro a ha b hb1
        rw [List.take_zero, List.map_nil, List.append_nil]
    clear e0
    conv => whnf
    repeat' (first
      | (refine NilG.mk fun bn hbn => ?_; conv => whnf)
      | (refine Both.mk ?_ ?_ <;> conv => whnf)
      | exact trivial
      | (refine Br.mk (fun hb => ?_) (fun hb => ?_) <;> (first | (exfalso; revert hb; decide) | ((try simp only [BL] at hb) <;> (try simp only [DL] at hb) <;> conv => whnf)))
      | (refine And.intro ?_ ?_; (focus (first | exact id | exact rfl | exact trivial | (intro hg; first | exact hg | exact rfl | (simp; done) | (simp at hg ⊢; assumption)) | omega | decide | exact is2_c _ _ _ | exact is1_c _ _ | exact isS_c _ _ | exact isB_c _ _ | exact Nat.le_refl _ | assumption | exact mulLe (by decide) (by omega) | exact mulLe2 (by decide) (by omega) (by omega) | (intros; simp only [BL] at *; omega) | (intros; (try simp only [BL] at *); (try simp only [DL] at *); omega) | (intros; simp only [BL] at *; rw [wr_id (by omega) (by omega)]; omega) | (intro h1 h2; exact Bool.and_eq_true_iff.2 ⟨h1, h2⟩) | (intros; simp_all; done))); conv => whnf)
      | (refine Or.inr (And.intro rfl ?_); first | (refine congrArg intV ?_) | (refine congrArg boolV ?_) | (refine tupII ?_ ?_) | (refine tupIII ?_ ?_ ?_) | (refine tupU ?_ ?_ ?_ ?_ ?_) | exact rfl))
    · have hif : i < (f V).length := by omega
      have e5 : (LSp f V).length + i + 1 = (LSp f V).length + (i + 1) := by omega
      refine ⟨i + 1, [?_], by omega, by omega, ?_⟩
      rotate_left 1
      refine Sub.of ?_ ?_ ?_
      repeat' (first | (refine And.intro ?_ ?_) | exact trivial | exact fun _ _ _ => hsc _ _ | (exact congrArg intV (by first | with_reducible rfl | with_reducible assumption)) | exact (rfl : AV.idsLt _ _ = true) | exact (rfl : _ = AV.ren _ (.own _)) | exact (rfl : _ = AV.ren _ (.fn _ _)) | exact (rfl : _ = AV.ren _ (.gh _)) | (exact congrArg intV (by assumption)) | (refine congrArg intV ((wr_id (by omega) (by omega)).trans (by omega))) | exact rfl | (simp only [Int.toNat_natCast, Int.toNat_zero, Nat.sub_zero, Nat.zero_add]; first | exact rfl | done) | exact all0 | exact fun h => Bool.noConfusion h | exact fun _ _ _ _ => rfl | omega)
      intro a ha b hb1
      have hb1 : b < 1 := hb1
      obtain rfl : b = 0 := by omega
      have hln : (LSp f V ++ ((f V).take i).map fun l => (V : Int) :: l).length = (LSp f V).length + i := by
        rw [List.length_append, List.length_map, List.length_take, Nat.min_eq_left hi]
      have hnx : LSp f V ++ ((f V).take (i + 1)).map (fun l => (V : Int) :: l) = (LSp f V ++ ((f V).take i).map fun l => (V : Int) :: l) ++ [(V : Int) :: (f V).getD i []] := by
        rw [List.take_add_one, List.map_append, List.append_assoc, List.getElem?_eq_getElem hif]
        simp [List.getD, List.getElem?_eq_getElem hif]
      rw [hnx]
      generalize LSp f V ++ ((f V).take i).map (fun l => (V : Int) :: l) = W at *
      by_cases h : a < (LSp f V).length + i
      · refine (if_pos h).trans ?_
        unfold rowL
        rw [List.getD_eq_getElem?_getD, List.getD_eq_getElem?_getD, List.getElem?_append_left (by omega)]
      · have hai : a = (LSp f V).length + i := by omega
        refine (if_neg h).trans ?_
        rw [hai, Nat.sub_self]
        unfold rowL
        rw [List.getD_eq_getElem?_getD (l := _ ++ _), List.getElem?_append_right (by omega), hln, Nat.sub_self]
        show L.sl 1 (1 + n) _ = _
        rw [Nat.add_comm 1 n]
        rfl
    · obtain rfl : i = (f V).length := by omega
      have e1 : LSp f V ++ ((f V).take (f V).length).map (fun l => (V : Int) :: l) = LSp f (V + 1) := by
        rw [List.take_length]
        rfl
      have e2 : (LSp f V).length + (f V).length = (LSp f (V + 1)).length := by
        rw [← e1]
        simp
      rw [e1]
      refine ⟨V + 1, [?_], by omega, by omega, ?_⟩
      rotate_left 1
      refine Sub.of ?_ ?_ ?_
      repeat' (first | (refine And.intro ?_ ?_) | exact trivial | exact fun _ _ _ => hsc _ _ | (exact congrArg intV (by first | with_reducible rfl | with_reducible assumption)) | exact (rfl : AV.idsLt _ _ = true) | exact (rfl : _ = AV.ren _ (.own _)) | exact (rfl : _ = AV.ren _ (.fn _ _)) | exact (rfl : _ = AV.ren _ (.gh _)) | (exact congrArg intV (by assumption)) | (refine congrArg intV ((wr_id (by omega) (by omega)).trans (by omega))) | exact rfl | (simp only [Int.toNat_natCast, Int.toNat_zero, Nat.sub_zero, Nat.zero_add]; first | exact rfl | done) | exact all0 | exact fun h => Bool.noConfusion h | exact fun _ _ _ _ => rfl | omega)
  · have hVm : V = (min (lim 0) s + 1).toNat := by
      have hb : ¬ (V : Int) ≤ min (lim 0) s := hb
      omega
    have e : LS lim (n + 1) s = LSp f V := by
      rw [hVm, ← hf]
      rfl
    refine .inr ⟨rfl, .inr ?_⟩
    rw [e]
    exact ⟨_, rfl, fun _ _ _ _ => LLe.of_eq rfl⟩
theorem lists : ∀ (n : Nat) (lim : Nat → Int) (s : Int), lmOk lim n → -1000 ≤ s → s ≤ 1000 → Fn Try.prog 55 [.c (.sl 1 n (c1 lim)), intV s] (fun obs v => obs = [] ∧ v = .c (.sl 1 (LS lim n s).length (rowL (LS lim n s) n)))
  | 0, lim, s, _, _, _ => (lists0 lim s).res fun obs r ⟨h1, h2⟩ => by
    rcases h2 with ⟨h2, rfl⟩ | ⟨f, rfl, h3⟩
    · rw [h2]
      exact ⟨_, ⟨h1, rfl⟩, lsNil⟩
    · exact ⟨_, ⟨h1, rfl⟩, Le1.l (LLe.sl h3)⟩
  | n + 1, lim, s, hl, h0, h1 => (listsS lim n s hl ⟨h0, h1⟩ fun s' g0 g1 => lists n (fun k => lim (k + 1)) s' ⟨by have := hl.1; omega, fun k hk => hl.2 (k + 1) (by omega)⟩ g0 g1).res fun obs r ⟨h1, h2⟩ => by
    rcases h2 with ⟨h2, rfl⟩ | ⟨f, rfl, h3⟩
    · rw [h2]
      exact ⟨_, ⟨h1, rfl⟩, lsNil⟩
    · exact ⟨_, ⟨h1, rfl⟩, Le1.l (LLe.sl h3)⟩
/-- the rows are those within the limits that have the sum -/
theorem LSp_mem {f : Int → List (List Int)} {l : List Int} : ∀ {V : Nat}, l ∈ LSp f V ↔ ∃ v : Nat, v < V ∧ ∃ r, r ∈ f v ∧ l = (v : Int) :: r
  | 0 => ⟨fun h => (List.not_mem_nil h).elim, fun ⟨v, h, _⟩ => absurd h (Nat.not_lt_zero _)⟩
  | V + 1 => by
    simp only [LSp, List.mem_append, List.mem_map, LSp_mem (V := V)]
    constructor
    · rintro (⟨v, h1, r, h2, h3⟩ | ⟨r, h2, h3⟩)
      · exact ⟨v, by omega, r, h2, h3⟩
      · exact ⟨V, by omega, r, h2, h3.symm⟩
    · rintro ⟨v, h1, r, h2, h3⟩
      rcases Nat.lt_succ_iff_lt_or_eq.1 h1 with hlt | rfl
      · exact .inl ⟨v, hlt, r, h2, h3⟩
      · exact .inr ⟨r, h2, h3.symm⟩
def lF' (l : List Int) (k : Nat) : Int := l.getD k 0
theorem LS_mem : ∀ {n : Nat} {lim : Nat → Int} {s : Int} {l : List Int}, l ∈ LS lim n s ↔ l.length = n ∧ S (lF' l) n = s ∧ ∀ k, k < n → 0 ≤ lF' l k ∧ lF' l k ≤ lim k
  | 0, lim, s, l => by
    unfold LS
    constructor
    · intro h
      split at h
      · rename_i h0
        obtain rfl : l = [] := by simpa using h
        exact ⟨rfl, h0.symm, fun k hk => absurd hk (Nat.not_lt_zero _)⟩
      · exact (List.not_mem_nil h).elim
    · rintro ⟨h1, h2, _⟩
      have h2 : (0 : Int) = s := h2
      rw [if_pos h2.symm, List.length_eq_zero_iff.1 h1]
      exact List.mem_singleton.2 rfl
  | n + 1, lim, s, l => by
    have hS : ∀ (v : Int) (r : List Int), S (lF' (v :: r)) (n + 1) = v + S (lF' r) n := fun v r => by
      have : ∀ k, S (lF' (v :: r)) (k + 1) = v + S (lF' r) k := fun k => by
        induction k with
        | zero => show 0 + v = v + 0; omega
        | succ k ih =>
          show S (lF' (v :: r)) (k + 1) + lF' (v :: r) (k + 1) = v + (S (lF' r) k + lF' r k)
          rw [ih]
          show v + S (lF' r) k + lF' r k = _
          omega
      exact this n
    show l ∈ LSp _ _ ↔ _
    rw [LSp_mem]
    constructor
    · rintro ⟨v, h1, r, h2, rfl⟩
      obtain ⟨g1, g2, g3⟩ := LS_mem.1 h2
      refine ⟨by rw [List.length_cons, g1], by rw [hS, g2]; omega, fun k hk => ?_⟩
      cases k with
      | zero =>
        show 0 ≤ (v : Int) ∧ (v : Int) ≤ lim 0
        omega
      | succ k => exact g3 k (by omega)
    · rintro ⟨h1, h2, h3⟩
      match l, h1 with
      | v :: r, h1 =>
        have h4 := h3 0 (by omega)
        have h4 : 0 ≤ v ∧ v ≤ lim 0 := h4
        have g3 : ∀ k, k < n → 0 ≤ lF' r k ∧ lF' r k ≤ lim (k + 1) := fun k hk => h3 (k + 1) (by omega)
        have h5 := hS v r
        have h6 : 0 ≤ S (lF' r) n := by
          have := S_mono (p := lF' r) (i := 0) (j := n) (fun k hk => (g3 k hk).1) (Nat.zero_le _)
          exact this
        refine ⟨v.toNat, by omega, r, ?_, by rw [Int.toNat_of_nonneg h4.1]⟩
        rw [LS_mem]
        refine ⟨by rw [List.length_cons] at h1; omega, by rw [Int.toNat_of_nonneg h4.1]; omega, g3⟩
end Go.Proofs.Ytdakikgebfphmaa
