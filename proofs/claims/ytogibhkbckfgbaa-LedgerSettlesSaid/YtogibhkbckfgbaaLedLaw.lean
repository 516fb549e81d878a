/-
  LedgerSettles holds: ledger.Settle returns entries that move exactly the sums, fewer than accounts, whatever the input.
-/
import Derived.Test.YtogibhkbckfgbaaLed2
namespace Go.Proofs.Ytogibhkbckfgbaa
open Go.RowKit Go.ChangeShapes Go.WideShapes

theorem lgTup {bs' bs : List AV} (h : Le bs' bs) : Le1 (.tup bs') (.tup bs) := fun σ I w v hd => by
  simp only [Den] at hd ⊢
  obtain ⟨us, e, h1⟩ := hd
  exact ⟨us, e, h _ _ _ _ h1⟩
theorem lgNil {sz : Nat} {f : Nat → Nat → L} : Le1 (.c (.v (.slice none 0 0))) (.c (.sl sz 0 f)) := fun σ I w v hd => by
  simp only [Den, L.rd] at hd ⊢
  obtain ⟨rfl, _⟩ := hd
  exact ⟨none, 0, rfl, Nat.le_refl _, Nat.zero_le _, fun h => absurd h (Nat.lt_irrefl 0)⟩
def setR (n m : Nat) (s : Nat → ByteArray) (x : Nat → Int) (obs : List OB) (r : AV) : Prop :=
  obs = [] ∧ ∃ K, r = .tup [.c (.sl 3 K (cEn s n x)), intV (seE n m s x)] ∧ (seE n m s x ≠ 0 → K = 0) ∧ (seE n m s x = 0 → (∀ j, j < K → goes n (bal n x j)) ∧ ¬ goes n (bal n x K))
theorem settleR (n m : Nat) (s : Nat → ByteArray) (x : Nat → Int) (hs : ∀ k, k < n → (s k).size ≤ maxLen) (hn : n ≤ maxLen) (hm : m ≤ maxLen) : Fn Try.prog 36 [.c (.sl 1 n (cS s)), .c (.sl 1 m (c1 x))] (setR n m s x) :=
  (settle n m s x hs hn hm).res fun obs r ⟨h1, h2⟩ => by
    rcases h2 with ⟨h2, rfl⟩ | ⟨h2, J, h3, h4, rfl⟩
    · exact ⟨_, ⟨h1, 0, rfl, fun _ => rfl, fun h => absurd h h2⟩, lgTup (Le.cons lgNil (Le.cons (Le1.refl _) Le.nil))⟩
    · exact ⟨_, ⟨h1, J, rfl, fun h => absurd h2 h, fun _ => ⟨h3, h4⟩⟩, lgTup (Le.cons (Le1.refl _) (Le.cons (by rw [h2]; exact Le1.refl _) Le.nil))⟩

/-- one of the first k has this name -/
def agB (s : Nat → ByteArray) (nm : ByteArray) : Nat → Bool
  | 0 => false
  | k + 1 => agB s nm k || ((s k).toList == nm.toList)
theorem agB_dup {s : Nat → ByteArray} {nm : ByteArray} (n : Nat) : agB s nm n = dupB s nm n := by
  have h1 : ∀ n, agB s nm n = false → ∀ k, k < n → sameN s nm k = false := by
    intro n
    induction n with
    | zero => exact fun _ k hk => absurd hk (Nat.not_lt_zero k)
    | succ n ih =>
      intro h k hk
      simp only [agB, Bool.or_eq_false_iff] at h
      rcases Nat.lt_succ_iff_lt_or_eq.1 hk with hlt | rfl
      · exact ih h.1 k hlt
      · exact h.2
  have h2 : ∀ n, agB s nm n = true → ∃ k, k < n ∧ sameN s nm k = true := by
    intro n
    induction n with
    | zero => exact fun h => by cases h
    | succ n ih =>
      intro h
      simp only [agB, Bool.or_eq_true] at h
      rcases h with h | h
      · obtain ⟨k, h3, h4⟩ := ih h
        exact ⟨k, by omega, h4⟩
      · exact ⟨n, by omega, h⟩
  cases hb : agB s nm n with
  | false => exact (dup_false (h1 n hb)).symm
  | true =>
    obtain ⟨k, h3, h4⟩ := h2 n hb
    unfold dupB
    by_cases hf : fidx (sameN s nm) n ≥ 0
    · simp [hf]
    · have := fidx_out hf k h3
      rw [h4] at this
      cases this
/-- what is added up before an error is seen -/
def aB (s : Nat → ByteArray) (x : Nat → Int) : Nat → Int
  | 0 => 0
  | k + 1 => if fst (lgE s x) (k + 1) = 0 then aB s x k + x k else aB s x k
theorem fst_back {e : Nat → Int} {k : Nat} (h : fst e (k + 1) = 0) : fst e k = 0 ∧ e k = 0 := by
  simp only [fst] at h
  split at h
  · rename_i h0; exact absurd h h0
  · rename_i h0; exact ⟨by simpa using h0, h⟩
theorem fst_stay {e : Nat → Int} {i : Nat} (h : fst e i ≠ 0) : ∀ n, i ≤ n → fst e n = fst e i
  | 0, hn => by obtain rfl : i = 0 := by omega
                rfl
  | n + 1, hn => by
    rcases Nat.eq_or_lt_of_le hn with rfl | hlt
    · rfl
    · have := fst_stay h n (by omega)
      simp only [fst]
      rw [this, if_pos h]
theorem aB_S {s : Nat → ByteArray} {x : Nat → Int} : ∀ {k : Nat}, fst (lgE s x) k = 0 → aB s x k = S x k
  | 0, _ => rfl
  | k + 1, h => by
    simp only [aB, S]
    rw [if_pos h, aB_S (fst_back h).1]

theorem bal_in {n K : Nat} {x : Nat → Int} (hx : ∀ a, a < n → -1000000000000 ≤ x a ∧ x a ≤ 1000000000000) (hK : ∀ j, j < K → goes n (bal n x j)) : ∀ j, j ≤ K → (∀ a, a < n → -1000000000000 ≤ bal n x j a ∧ bal n x j a ≤ 1000000000000) ∧ cz (bal n x j) n + j ≤ n ∧ S (bal n x j) n = S x n
  | 0, _ => ⟨hx, cz_le n, rfl⟩
  | j + 1, hj => by
    obtain ⟨h1, h2, h3⟩ := bal_in hx hK j (by omega)
    have hg := hK j (by omega)
    have := stp_cz hg
    refine ⟨stp_le hg h1, ?_, (stp_S hg).trans h3⟩
    show cz (stp n (bal n x j)) n + (j + 1) ≤ n
    omega
theorem zero_pos {b : Nat → Int} {M : Int} : ∀ {n : Nat}, (∀ a, a < n → 0 ≤ b a ∧ b a ≤ M) → S b n = 0 → ∀ a, a < n → b a = 0
  | n + 1, h, hS, a, ha => by
    have h1 := (S_le (p := b) (a := 0) (b := M) (k := n) fun k hk => h k (by omega)).1
    have h2 := h n (by omega)
    simp only [S] at hS
    rcases Nat.lt_succ_iff_lt_or_eq.1 ha with hlt | rfl
    · exact zero_pos (n := n) (fun k hk => h k (by omega)) (by omega) a hlt
    · omega
theorem zero_neg {b : Nat → Int} {M : Int} : ∀ {n : Nat}, (∀ a, a < n → -M ≤ b a ∧ b a ≤ 0) → S b n = 0 → ∀ a, a < n → b a = 0
  | n + 1, h, hS, a, ha => by
    have h1 := (S_le (p := b) (a := -M) (b := 0) (k := n) fun k hk => h k (by omega)).2
    have h2 := h n (by omega)
    simp only [S] at hS
    rcases Nat.lt_succ_iff_lt_or_eq.1 ha with hlt | rfl
    · exact zero_neg (n := n) (fun k hk => h k (by omega)) (by omega) a hlt
    · omega
theorem bal_end {n : Nat} {b : Nat → Int} {M : Int} (hb : ∀ a, a < n → -M ≤ b a ∧ b a ≤ M) (hS : S b n = 0) (hg : ¬ goes n b) : ∀ a, a < n → b a = 0 := by
  by_cases h1 : fidx (ngB b) n ≥ 0
  · have h2 : ¬ fidx (psB b) n ≥ 0 := fun h => hg ⟨h1, h⟩
    have h3 := fidx_out h2
    exact zero_neg (M := M) (fun a ha => by have := of_decide_eq_false (h3 a ha); have := hb a ha; omega) hS
  · have h3 := fidx_out h1
    exact zero_pos (M := M) (fun a ha => by have := of_decide_eq_false (h3 a ha); have := hb a ha; omega) hS
theorem bal_few {n K : Nat} {x : Nat → Int} (hx : ∀ a, a < n → -1000000000000 ≤ x a ∧ x a ≤ 1000000000000) (hK : ∀ j, j < K → goes n (bal n x j)) : K = 0 ∨ K < n := by
  cases K with
  | zero => exact .inl rfl
  | succ k =>
    have h1 := (bal_in hx hK k (by omega)).2.1
    obtain ⟨g1, g2, g3, g4, g5, _⟩ := goes_in (hK k (by omega))
    have := cz_two g1 g2 g5 (b := bal n x k) (by omega) (by omega)
    omega

def gamE2 : Gam := fun f => match f with
  | 21 => some (s3 inB)
  | 37 => some (s1S (fun s => s.size ≤ maxLen) nameB)
  | _ => none
theorem gamE2_ok : GOk Try.prog gamE2 := fun f g h => by
  unfold gamE2 at h
  split at h
  · injection h with h; subst h; exact s3_ok in3
  · injection h with h; subst h; exact s1S_ok named3
  · cases h

def s0 : Nat → ByteArray := fun k => [⟨#[65]⟩, ⟨#[66]⟩, ⟨#[67]⟩].getD k ⟨#[]⟩
def x0 : Nat → Int := fun k => [-5, 3, 2].getD k 0
theorem set0 : seE 3 3 s0 x0 = 0 := by decide +kernel
theorem go0 : goes 3 (bal 3 x0 0) ∧ goes 3 (bal 3 x0 1) ∧ ¬ goes 3 (bal 3 x0 2) := by unfold goes; decide

/-- the last assignments: the second reading of the entry may come up behind the first store -/
def ordLd : Ord := fun id => if id = 42 then some (.go 0 (.go 1 (.go 2 (.go 3 (.go 4 (.go 5 (.go 6 (.go 7 (.go 8 (.go 9 (.go 10 (.go 11 (.go 12 (.go 13 (.go 14 (.go 15 (.go 18 (.fork (.alt 16 (.go 17 (.go 19 (.go 20 (.go 21 (.done))))) (.alt 19 (.go 16 (.go 17 (.go 20 (.go 21 (.done))))) (.none))))))))))))))))))))) else none

set_option maxHeartbeats 4000000 in
theorem ledLaw (n m : Nat) (s : Nat → ByteArray) (x : Nat → Int) (hs : ∀ k, k < n → (s k).size ≤ maxLen) (hn : n ≤ maxLen) (hm : m ≤ maxLen) : Fn1 Try.prog 7 [.c (.sl 1 n (cS s)), .c (.sl 1 m (c1 x))] (boolV true) := by
  refine fn_of_wpx (O := ordLd) tab_ok gamE2_ok mixed Try.func7 (by kernel_rfl) rfl rfl rfl (by simp [Try.ntmps7]) (by kernel_rfl) ?_
  have hn' : n ≤ 9223372036854775807 := hn
  have hm' : m ≤ 9223372036854775807 := hm
  conv => whnf
  repeat' (first
    | (refine NilG.mk fun bn hbn => ?_; conv => whnf)
    | (refine Both.mk ?_ ?_ <;> conv => whnf)
    | exact trivial
    | (refine Br.mk (fun hb => ?_) (fun hb => ?_) <;> (first | (exfalso; revert hb; decide) | ((try simp only [BL] at hb) <;> (try simp only [DL] at hb) <;> conv => whnf)))
    | (refine And.intro ?_ ?_; (focus (first | exact id | exact rfl | exact trivial | (intro hg; first | exact hg | exact rfl | (simp; done) | (simp at hg ⊢; assumption)) | omega | decide | exact is2_c _ _ _ | exact is1_c _ _ | exact isS_c _ _ | exact isB_c _ _ | exact Nat.le_refl _ | assumption | exact mulLe (by decide) (by omega) | exact mulLe2 (by decide) (by omega) (by omega) | (intros; simp only [BL] at *; omega) | (intros; (try simp only [BL] at *); (try simp only [DL] at *); omega) | (intros; simp only [BL] at *; rw [wr_id (by omega) (by omega)]; omega) | (intros; simp_all; done))); conv => whnf)
    | (refine Or.inr (And.intro rfl ?_); first | (refine congrArg intV ?_) | (refine congrArg boolV ?_) | (refine tupII ?_ ?_) | (refine tupIII ?_ ?_ ?_) | (refine tupU ?_ ?_ ?_ ?_ ?_) | exact rfl))
  refine CallG.mk (Fn.mono ((settleR 3 3 s0 x0 (fun k hk => ?_) (by decide) (by decide)).le (Le.cons (Le1.sl fun k hk j hj => ?_) (Le.cons (Le1.sl fun k hk j hj => ?_) Le.nil))) ?_)
  · match k, hk with
    | 0, _ => exact (by decide)
    | 1, _ => exact (by decide)
    | 2, _ => exact (by decide)
  · match k, j, hk, hj with
    | 0, 0, _, _ => rfl
    | 1, 0, _, _ => rfl
    | 2, 0, _, _ => rfl
  · match k, j, hk, hj with
    | 0, 0, _, _ => rfl
    | 1, 0, _, _ => rfl
    | 2, 0, _, _ => rfl
  rintro obs r ⟨rfl, K0, rfl, _, hK0⟩
  obtain ⟨k1, k2⟩ := hK0 set0
  have hK2 : K0 = 2 := by
    rcases Nat.lt_trichotomy K0 2 with h | h | h
    · exfalso
      rcases Nat.lt_succ_iff_lt_or_eq.1 h with h | rfl
      · obtain rfl : K0 = 0 := by omega
        exact k2 go0.1
      · exact k2 go0.2.1
    · exact h
    · exact absurd (k1 2 h) go0.2.2
  subst hK2
  rw [set0]
  clear k1 k2 hK0
  conv => whnf
  repeat' (first
    | (refine NilG.mk fun bn hbn => ?_; conv => whnf)
    | (refine Both.mk ?_ ?_ <;> conv => whnf)
    | exact trivial
    | (refine Br.mk (fun hb => ?_) (fun hb => ?_) <;> (first | (exfalso; revert hb; decide) | ((try simp only [BL] at hb) <;> (try simp only [DL] at hb) <;> conv => whnf)))
    | (refine And.intro ?_ ?_; (focus (first | exact id | exact rfl | exact trivial | (intro hg; first | exact hg | exact rfl | (simp; done) | (simp at hg ⊢; assumption)) | omega | decide | exact is2_c _ _ _ | exact is1_c _ _ | exact isS_c _ _ | exact isB_c _ _ | exact Nat.le_refl _ | assumption | exact mulLe (by decide) (by omega) | exact mulLe2 (by decide) (by omega) (by omega) | (intros; simp only [BL] at *; omega) | (intros; (try simp only [BL] at *); (try simp only [DL] at *); omega) | (intros; simp only [BL] at *; rw [wr_id (by omega) (by omega)]; omega) | (intros; simp_all; done))); conv => whnf)
    | (refine Or.inr (And.intro rfl ?_); first | (refine congrArg intV ?_) | (refine congrArg boolV ?_) | (refine tupII ?_ ?_) | (refine tupIII ?_ ?_ ?_) | (refine tupU ?_ ?_ ?_ ?_ ?_) | exact rfl))
  refine CallG.mk (Fn.mono (settleR n m s x hs hn hm) ?_)
  rintro obs r ⟨rfl, K, rfl, hK1, hK2⟩
  conv => whnf
  repeat' (first
    | (refine NilG.mk fun bn hbn => ?_; conv => whnf)
    | (refine Both.mk ?_ ?_ <;> conv => whnf)
    | exact trivial
    | (refine Br.mk (fun hb => ?_) (fun hb => ?_) <;> (first | (exfalso; revert hb; decide) | ((try simp only [BL] at hb) <;> (try simp only [DL] at hb) <;> conv => whnf)))
    | (refine And.intro ?_ ?_; (focus (first | exact id | exact rfl | exact trivial | (intro hg; first | exact hg | exact rfl | (simp; done) | (simp at hg ⊢; assumption)) | omega | decide | exact is2_c _ _ _ | exact is1_c _ _ | exact isS_c _ _ | exact isB_c _ _ | exact Nat.le_refl _ | assumption | exact mulLe (by decide) (by omega) | exact mulLe2 (by decide) (by omega) (by omega) | (intros; simp only [BL] at *; omega) | (intros; (try simp only [BL] at *); (try simp only [DL] at *); omega) | (intros; simp only [BL] at *; rw [wr_id (by omega) (by omega)]; omega) | (intros; simp_all; done))); conv => whnf)
    | (refine Or.inr (And.intro rfl ?_); first | (refine congrArg intV ?_) | (refine congrArg boolV ?_) | (refine tupII ?_ ?_) | (refine tupIII ?_ ?_ ?_) | (refine tupU ?_ ?_ ?_ ?_ ?_) | exact rfl))
  · have hE : seE n m s x = 2 := by unfold seE; rw [if_pos (by omega)]
    have hK0 : K = 0 := hK1 (by rw [hE]; decide)
    clear hb
    refine sem_loop tab_ok gamE2_ok mixed (by kernel_rfl) (O := ordLd) (fun i : Nat => ⟨[(0, .c (.sl 1 n (cS s))), (1, .c (.sl 1 m (c1 x))), (7, .c (.sl 3 K (cEn s n x))), (8, intV (seE n m s x)), (9, intV 2), (10, intV 0), (11, intV 0)], []⟩) (fun i => i = 0) (fun i => 0) ⟨0, [], rfl, ?_⟩ fun i hi => ?_
    · refine Sub.of ?_ ?_ ?_
      repeat' (first | (refine And.intro ?_ ?_) | exact trivial | (exact congrArg intV (by assumption)) | (refine congrArg intV ((wr_id (by omega) (by omega)).trans (by omega))) | exact rfl | (simp only [Int.toNat_natCast, Int.toNat_zero, Nat.sub_zero, Nat.zero_add]; first | exact rfl | done) | exact all0 | exact fun h => Bool.noConfusion h | exact fun _ _ _ _ => rfl | omega)
    conv => whnf
    repeat' (first
      | (refine NilG.mk fun bn hbn => ?_; conv => whnf)
      | (refine Both.mk ?_ ?_ <;> conv => whnf)
      | exact trivial
      | (refine Br.mk (fun hb => ?_) (fun hb => ?_) <;> (first | (exfalso; revert hb; decide) | ((try simp only [BL] at hb) <;> (try simp only [DL] at hb) <;> conv => whnf)))
      | (refine And.intro ?_ ?_; (focus (first | exact id | exact rfl | exact trivial | (intro hg; first | exact hg | exact rfl | (simp; done) | (simp at hg ⊢; assumption)) | omega | decide | exact is2_c _ _ _ | exact is1_c _ _ | exact isS_c _ _ | exact isB_c _ _ | exact Nat.le_refl _ | assumption | exact mulLe (by decide) (by omega) | exact mulLe2 (by decide) (by omega) (by omega) | (intros; simp only [BL] at *; omega) | (intros; (try simp only [BL] at *); (try simp only [DL] at *); omega) | (intros; simp only [BL] at *; rw [wr_id (by omega) (by omega)]; omega) | (intros; simp_all; done))); conv => whnf)
      | (refine Or.inr (And.intro rfl ?_); first | (refine congrArg intV ?_) | (refine congrArg boolV ?_) | (refine tupII ?_ ?_) | (refine tupIII ?_ ?_ ?_) | (refine tupU ?_ ?_ ?_ ?_ ?_) | exact rfl))
    · exact absurd hb.2 (by decide)
    rw [hE, hK0]
    rfl
  · have hE : seE n m s x = 3 := by unfold seE; rw [if_neg (by omega), if_pos (by omega)]
    have hK0 : K = 0 := hK1 (by rw [hE]; decide)
    clear hb
    refine sem_loop tab_ok gamE2_ok mixed (by kernel_rfl) (O := ordLd) (fun i : Nat => ⟨[(0, .c (.sl 1 n (cS s))), (1, .c (.sl 1 m (c1 x))), (7, .c (.sl 3 K (cEn s n x))), (8, intV (seE n m s x)), (9, intV 3), (10, intV 0), (11, intV 0)], []⟩) (fun i => i = 0) (fun i => 0) ⟨0, [], rfl, ?_⟩ fun i hi => ?_
    · refine Sub.of ?_ ?_ ?_
      repeat' (first | (refine And.intro ?_ ?_) | exact trivial | (exact congrArg intV (by assumption)) | (refine congrArg intV ((wr_id (by omega) (by omega)).trans (by omega))) | exact rfl | (simp only [Int.toNat_natCast, Int.toNat_zero, Nat.sub_zero, Nat.zero_add]; first | exact rfl | done) | exact all0 | exact fun h => Bool.noConfusion h | exact fun _ _ _ _ => rfl | omega)
    conv => whnf
    repeat' (first
      | (refine NilG.mk fun bn hbn => ?_; conv => whnf)
      | (refine Both.mk ?_ ?_ <;> conv => whnf)
      | exact trivial
      | (refine Br.mk (fun hb => ?_) (fun hb => ?_) <;> (first | (exfalso; revert hb; decide) | ((try simp only [BL] at hb) <;> (try simp only [DL] at hb) <;> conv => whnf)))
      | (refine And.intro ?_ ?_; (focus (first | exact id | exact rfl | exact trivial | (intro hg; first | exact hg | exact rfl | (simp; done) | (simp at hg ⊢; assumption)) | omega | decide | exact is2_c _ _ _ | exact is1_c _ _ | exact isS_c _ _ | exact isB_c _ _ | exact Nat.le_refl _ | assumption | exact mulLe (by decide) (by omega) | exact mulLe2 (by decide) (by omega) (by omega) | (intros; simp only [BL] at *; omega) | (intros; (try simp only [BL] at *); (try simp only [DL] at *); omega) | (intros; simp only [BL] at *; rw [wr_id (by omega) (by omega)]; omega) | (intros; simp_all; done))); conv => whnf)
      | (refine Or.inr (And.intro rfl ?_); first | (refine congrArg intV ?_) | (refine congrArg boolV ?_) | (refine tupII ?_ ?_) | (refine tupIII ?_ ?_ ?_) | (refine tupU ?_ ?_ ?_ ?_ ?_) | exact rfl))
    · exact absurd hb.2 (by decide)
    rw [hE, hK0]
    rfl
  have hn64 : n ≤ 64 := by omega
  obtain rfl : m = n := by omega
  have hE : seE m m s x = if fst (lgE s x) m ≠ 0 then fst (lgE s x) m else if S x m ≠ 0 then 14 else 0 := by unfold seE; rw [if_neg (by omega), if_neg (fun h => h rfl)]
  clear hb
  refine sem_loop tab_ok gamE2_ok mixed (by kernel_rfl) (O := ordLd) (fun i : Nat => ⟨[(0, .c (.sl 1 m (cS s))), (1, .c (.sl 1 m (c1 x))), (7, .c (.sl 3 K (cEn s m x))), (8, intV (seE m m s x)), (9, intV (fst (lgE s x) i)), (10, intV (aB s x i)), (11, intV i)], []⟩) (fun i => i ≤ m) (fun i => m - i) ⟨0, [], Nat.zero_le _, ?_⟩ fun i hi => ?_
  · refine Sub.of ?_ ?_ ?_
    repeat' (first | (refine And.intro ?_ ?_) | exact trivial | (exact congrArg intV (by assumption)) | (refine congrArg intV ((wr_id (by omega) (by omega)).trans (by omega))) | exact rfl | (simp only [Int.toNat_natCast, Int.toNat_zero, Nat.sub_zero, Nat.zero_add]; first | exact rfl | done) | exact all0 | exact fun h => Bool.noConfusion h | exact fun _ _ _ _ => rfl | omega)
  have hz : fst (lgE s x) i = 0 → fst (lgE s x) (i + 1) = lgE s x i := fun h => if_neg (fun hh => hh h)
  conv => whnf
  repeat' (first
    | (refine NilG.mk fun bn hbn => ?_; conv => whnf)
    | (refine Both.mk ?_ ?_ <;> conv => whnf)
    | exact trivial
    | (refine Br.mk (fun hb => ?_) (fun hb => ?_) <;> (first | (exfalso; revert hb; decide) | ((try simp only [BL] at hb) <;> (try simp only [DL] at hb) <;> conv => whnf)))
    | (refine And.intro ?_ ?_; (focus (first | exact id | exact rfl | exact trivial | (intro hg; first | exact hg | exact rfl | (simp; done) | (simp at hg ⊢; assumption)) | omega | decide | exact is2_c _ _ _ | exact is1_c _ _ | exact isS_c _ _ | exact isB_c _ _ | exact Nat.le_refl _ | assumption | exact mulLe (by decide) (by omega) | exact mulLe2 (by decide) (by omega) (by omega) | (intros; simp only [BL] at *; omega) | (intros; (try simp only [BL] at *); (try simp only [DL] at *); omega) | (intros; simp only [BL] at *; rw [wr_id (by omega) (by omega)]; omega) | (intros; simp_all; done))); conv => whnf)
    | (refine Or.inr (And.intro rfl ?_); first | (refine congrArg intV ?_) | (refine congrArg boolV ?_) | (refine tupII ?_ ?_) | (refine tupIII ?_ ?_ ?_) | (refine tupU ?_ ?_ ?_ ?_ ?_) | exact rfl))
  · have hin : i < m := hb.1 |> fun h => by omega
    have hf0 : fst (lgE s x) i = 0 := hb.2
    have hs1 := hs i hin
    clear hb
    refine sem_loop tab_ok gamE2_ok mixed (by kernel_rfl) (O := ordLd) (fun k : Nat => ⟨[(0, .c (.sl 1 m (cS s))), (1, .c (.sl 1 m (c1 x))), (7, .c (.sl 3 K (cEn s m x))), (8, intV (seE m m s x)), (9, intV (fst (lgE s x) i)), (10, intV (aB s x i)), (11, intV i), (12, boolV (agB s (s i) k)), (61, .c (.sl 1 i (cS s))), (62, intV i), (63, intV k)], []⟩) (fun k => k ≤ i) (fun k => i - k) ⟨0, [], Nat.zero_le _, ?_⟩ fun k hk => ?_
    · refine Sub.of ?_ ?_ ?_
      repeat' (first | (refine And.intro ?_ ?_) | exact trivial | (exact congrArg intV (by assumption)) | (refine congrArg intV ((wr_id (by omega) (by omega)).trans (by omega))) | exact rfl | (simp only [Int.toNat_natCast, Int.toNat_zero, Nat.sub_zero, Nat.zero_add]; first | exact rfl | done) | exact all0 | exact fun h => Bool.noConfusion h | exact fun _ _ _ _ => rfl | omega)
    conv => whnf
    repeat' (first
      | (refine NilG.mk fun bn hbn => ?_; conv => whnf)
      | (refine Both.mk ?_ ?_ <;> conv => whnf)
      | exact trivial
      | (refine Br.mk (fun hb => ?_) (fun hb => ?_) <;> (first | (exfalso; revert hb; decide) | ((try simp only [BL] at hb) <;> (try simp only [DL] at hb) <;> conv => whnf)))
      | (refine And.intro ?_ ?_; (focus (first | exact id | exact rfl | exact trivial | (intro hg; first | exact hg | exact rfl | (simp; done) | (simp at hg ⊢; assumption)) | omega | decide | exact is2_c _ _ _ | exact is1_c _ _ | exact isS_c _ _ | exact isB_c _ _ | exact Nat.le_refl _ | assumption | exact mulLe (by decide) (by omega) | exact mulLe2 (by decide) (by omega) (by omega) | (intros; simp only [BL] at *; omega) | (intros; (try simp only [BL] at *); (try simp only [DL] at *); omega) | (intros; simp only [BL] at *; rw [wr_id (by omega) (by omega)]; omega) | (intros; simp_all; done))); conv => whnf)
      | (refine Or.inr (And.intro rfl ?_); first | (refine congrArg intV ?_) | (refine congrArg boolV ?_) | (refine tupII ?_ ?_) | (refine tupIII ?_ ?_ ?_) | (refine tupU ?_ ?_ ?_ ?_ ?_) | exact rfl))
    · refine ⟨k + 1, [], by omega, by omega, ?_⟩
      refine Sub.of ?_ ?_ ?_
      repeat' (first | (refine And.intro ?_ ?_) | exact trivial | (exact congrArg intV (by assumption)) | (refine congrArg intV ((wr_id (by omega) (by omega)).trans (by omega))) | exact rfl | (simp only [Int.toNat_natCast, Int.toNat_zero, Nat.sub_zero, Nat.zero_add]; first | exact rfl | done) | exact all0 | exact fun h => Bool.noConfusion h | exact fun _ _ _ _ => rfl | omega)
    · have hki : k = i := by omega
      have h1 : lgE s x i = 6 := by unfold lgE; rw [if_pos hb]
      have e9 : (6 : Int) = fst (lgE s x) (i + 1) := by rw [hz hf0, h1]
      have e10 : aB s x i = aB s x (i + 1) := (if_neg (by rw [← e9]; decide)).symm
      refine ⟨i + 1, [], by omega, by omega, ?_⟩
      refine Sub.of ?_ ?_ ?_
      repeat' (first | (refine And.intro ?_ ?_) | exact trivial | (exact congrArg intV (by assumption)) | (refine congrArg intV ((wr_id (by omega) (by omega)).trans (by omega))) | exact rfl | (simp only [Int.toNat_natCast, Int.toNat_zero, Nat.sub_zero, Nat.zero_add]; first | exact rfl | done) | exact all0 | exact fun h => Bool.noConfusion h | exact fun _ _ _ _ => rfl | omega)
    · rename_i hnm
      have hki : k = i := by omega
      have h1 : lgE s x i = 7 := by unfold lgE; rw [if_neg (by rw [hnm]; decide), ← agB_dup, if_pos (by rw [hki] at hb; exact hb)]
      have e9 : (7 : Int) = fst (lgE s x) (i + 1) := by rw [hz hf0, h1]
      have e10 : aB s x i = aB s x (i + 1) := (if_neg (by rw [← e9]; decide)).symm
      refine ⟨i + 1, [], by omega, by omega, ?_⟩
      refine Sub.of ?_ ?_ ?_
      repeat' (first | (refine And.intro ?_ ?_) | exact trivial | (exact congrArg intV (by assumption)) | (refine congrArg intV ((wr_id (by omega) (by omega)).trans (by omega))) | exact rfl | (simp only [Int.toNat_natCast, Int.toNat_zero, Nat.sub_zero, Nat.zero_add]; first | exact rfl | done) | exact all0 | exact fun h => Bool.noConfusion h | exact fun _ _ _ _ => rfl | omega)
    · rename_i hnm hag
      have hki : k = i := by omega
      have h1 : lgE s x i = 4 := by unfold lgE; rw [if_neg (by rw [hnm]; decide), ← agB_dup, if_neg (by rw [hki] at hag; simp [hag]), if_pos (by omega)]
      have e9 : (4 : Int) = fst (lgE s x) (i + 1) := by rw [hz hf0, h1]
      have e10 : aB s x i = aB s x (i + 1) := (if_neg (by rw [← e9]; decide)).symm
      refine ⟨i + 1, [], by omega, by omega, ?_⟩
      refine Sub.of ?_ ?_ ?_
      repeat' (first | (refine And.intro ?_ ?_) | exact trivial | (exact congrArg intV (by assumption)) | (refine congrArg intV ((wr_id (by omega) (by omega)).trans (by omega))) | exact rfl | (simp only [Int.toNat_natCast, Int.toNat_zero, Nat.sub_zero, Nat.zero_add]; first | exact rfl | done) | exact all0 | exact fun h => Bool.noConfusion h | exact fun _ _ _ _ => rfl | omega)
    · rename_i hnm hag
      have hki : k = i := by omega
      have h1 : lgE s x i = 0 := by unfold lgE; rw [if_neg (by rw [hnm]; decide), ← agB_dup, if_neg (by rw [hki] at hag; simp [hag]), if_neg (by omega)]
      have e9 : fst (lgE s x) i = fst (lgE s x) (i + 1) := by rw [hz hf0, h1, hf0]
      have hSi := S_le (p := x) (a := -1000000000000) (b := 1000000000000) (k := i) fun k hk => lgE_zero (fst_zero hf0 k hk)
      have hai := aB_S hf0
      have e10 : IntKind.i64.wrap (aB s x i + x i) = aB s x (i + 1) := by
        rw [show aB s x (i + 1) = aB s x i + x i from if_pos (by rw [hz hf0, h1])]
        exact wr_id (by omega) (by omega)
      refine ⟨i + 1, [], by omega, by omega, ?_⟩
      refine Sub.of ?_ ?_ ?_
      repeat' (first | (refine And.intro ?_ ?_) | exact trivial | (exact congrArg intV (by assumption)) | (refine congrArg intV ((wr_id (by omega) (by omega)).trans (by omega))) | exact rfl | (simp only [Int.toNat_natCast, Int.toNat_zero, Nat.sub_zero, Nat.zero_add]; first | exact rfl | done) | exact all0 | exact fun h => Bool.noConfusion h | exact fun _ _ _ _ => rfl | omega)
  · have him : i = m := by omega
    have hf : fst (lgE s x) m = 0 := by rw [← him]; omega
    have hS1 : S x m ≠ 0 := by rw [← aB_S hf, ← him]; omega
    have hE' : seE m m s x = 14 := by rw [hE, hf]; exact (if_neg (fun h => h rfl)).trans (if_pos hS1)
    rw [hE', hK1 (by rw [hE']; decide)]
    rfl
  · have hne : fst (lgE s x) i ≠ 0 := hb
    have hfm : fst (lgE s x) m = fst (lgE s x) i := fst_stay hne m hi
    have hE' : seE m m s x = fst (lgE s x) i := by rw [hE, hfm, if_pos hne]
    rw [hE', hK1 (by rw [hE']; exact hne)]
    simp
  have hf0 : fst (lgE s x) i = 0 := hb
  have him : i = m := by omega
  have hf : fst (lgE s x) m = 0 := by rw [← him]; exact hf0
  have hS0 : S x m = 0 := by rw [← aB_S hf, ← him]; omega
  have hE' : seE m m s x = 0 := by rw [hE, hf]; exact (if_neg (fun h => h rfl)).trans (if_neg (fun h => h hS0))
  obtain ⟨hJ, hstop⟩ := hK2 hE'
  have hx := fun k hk => lgE_zero (fst_zero hf k hk)
  have hfew := bal_few hx hJ
  clear hb
  refine sem_loop tab_ok gamE2_ok mixed (by kernel_rfl) (O := ordLd) (fun j : Nat => ⟨[(0, .c (.sl 1 m (cS s))), (7, .c (.sl 3 K (cEn s m x))), (8, intV 0), (15, .own 0), (118, .c (.sl 3 K (cEn s m x))), (119, intV K), (120, intV j)], [.row 3 1 m false (c1 (bal m x j))]⟩) (fun j => j ≤ K) (fun j => K - j) ⟨0, [?_], Nat.zero_le _, ?_⟩ fun j hj => ?_
  rotate_left 1
  · refine Sub.of ?_ ?_ ?_
    repeat' (first | (refine And.intro ?_ ?_) | exact trivial | (exact congrArg intV (by assumption)) | (refine congrArg intV ((wr_id (by omega) (by omega)).trans (by omega))) | exact rfl | (simp only [Int.toNat_natCast, Int.toNat_zero, Nat.sub_zero, Nat.zero_add]; first | exact rfl | done) | exact all0 | exact fun h => Bool.noConfusion h | exact fun _ _ _ _ => rfl | omega)
  conv => whnf
  repeat' (first
    | (refine NilG.mk fun bn hbn => ?_; conv => whnf)
    | (refine Both.mk ?_ ?_ <;> conv => whnf)
    | exact trivial
    | (refine Br.mk (fun hb => ?_) (fun hb => ?_) <;> (first | (exfalso; revert hb; decide) | ((try simp only [BL] at hb) <;> (try simp only [DL] at hb) <;> conv => whnf)))
    | (refine And.intro ?_ ?_; (focus (first | exact id | exact rfl | exact trivial | (intro hg; first | exact hg | exact rfl | (simp; done) | (simp at hg ⊢; assumption)) | omega | decide | exact is2_c _ _ _ | exact is1_c _ _ | exact isS_c _ _ | exact isB_c _ _ | exact Nat.le_refl _ | assumption | exact mulLe (by decide) (by omega) | exact mulLe2 (by decide) (by omega) (by omega) | (intros; simp only [BL] at *; omega) | (intros; (try simp only [BL] at *); (try simp only [DL] at *); omega) | (intros; simp only [BL] at *; rw [wr_id (by omega) (by omega)]; omega) | (intros; simp_all; done))); conv => whnf)
    | (refine Or.inr (And.intro rfl ?_); first | (refine congrArg intV ?_) | (refine congrArg boolV ?_) | (refine tupII ?_ ?_) | (refine tupIII ?_ ?_ ?_) | (refine tupU ?_ ?_ ?_ ?_ ?_) | exact rfl))
  · have hjK : j < K := by omega
    have hg := hJ j hjK
    obtain ⟨g1, g2, g3, g4, g5, g6, g7, _, _⟩ := goes_in hg
    obtain ⟨hbd, _, _⟩ := bal_in hx hJ j hj
    have b1 := hbd _ g1
    have b2 := hbd _ g2
    have hle := stp_le hg hbd
    have hd : min (IntKind.i64.wrap (0 - bal m x j (loI m (bal m x j)))) (bal m x j (hiI m (bal m x j))) = dE m (bal m x j) := by
      rw [wr_id (x := 0 - bal m x j (loI m (bal m x j))) (by omega) (by omega), Int.zero_sub]
      rfl
    have q1 : IntKind.i64.wrap (bal m x j (hiI m (bal m x j)) - dE m (bal m x j)) = stp m (bal m x j) (hiI m (bal m x j)) := by
      have := hle _ g2
      rw [stp_hi] at *
      exact wr_id (by omega) (by omega)
    have q2 : IntKind.i64.wrap (bal m x j (loI m (bal m x j)) + dE m (bal m x j)) = stp m (bal m x j) (loI m (bal m x j)) := by
      have := hle _ g1
      rw [stp_lo hg] at *
      exact wr_id (by omega) (by omega)
    clear hb
    refine sem_loop tab_ok gamE2_ok mixed (by kernel_rfl) (O := ordLd) (fun k : Nat => ⟨[(0, .c (.sl 1 m (cS s))), (7, .c (.sl 3 K (cEn s m x))), (8, intV 0), (15, .own 0), (17, .lp 1 0), (18, intV k), (19, intV 0), (118, .c (.sl 3 K (cEn s m x))), (119, intV K), (120, intV j)], [.row 3 1 m false (c1 (bal m x j)), .box [strV (s (loI m (bal m x j))), strV (s (hiI m (bal m x j))), intV (dE m (bal m x j))]]⟩) (fun k => k ≤ loI m (bal m x j)) (fun k => loI m (bal m x j) - k) ⟨0, [?_, ?_], Nat.zero_le _, ?_⟩ fun k hk => ?_
    rotate_left 2
    · refine Sub.of ?_ ?_ ?_
      repeat' (first | (refine And.intro ?_ ?_) | exact trivial | (exact congrArg intV (by assumption)) | (refine congrArg intV ((wr_id (by omega) (by omega)).trans (by omega))) | exact rfl | (simp only [Int.toNat_natCast, Int.toNat_zero, Nat.sub_zero, Nat.zero_add]; first | exact rfl | done) | exact all0 | exact fun h => Bool.noConfusion h | exact fun _ _ _ _ => rfl | omega)
    conv => whnf
    repeat' (first
      | (refine NilG.mk fun bn hbn => ?_; conv => whnf)
      | (refine Both.mk ?_ ?_ <;> conv => whnf)
      | exact trivial
      | (refine Br.mk (fun hb => ?_) (fun hb => ?_) <;> (first | (exfalso; revert hb; decide) | ((try simp only [BL] at hb) <;> (try simp only [DL] at hb) <;> conv => whnf)))
      | (refine And.intro ?_ ?_; (focus (first | exact id | exact rfl | exact trivial | (intro hg; first | exact hg | exact rfl | (simp; done) | (simp at hg ⊢; assumption)) | omega | decide | exact is2_c _ _ _ | exact is1_c _ _ | exact isS_c _ _ | exact isB_c _ _ | exact Nat.le_refl _ | assumption | exact mulLe (by decide) (by omega) | exact mulLe2 (by decide) (by omega) (by omega) | (intros; simp only [BL] at *; omega) | (intros; (try simp only [BL] at *); (try simp only [DL] at *); omega) | (intros; simp only [BL] at *; rw [wr_id (by omega) (by omega)]; omega) | (intros; simp_all; done))); conv => whnf)
      | (refine Or.inr (And.intro rfl ?_); first | (refine congrArg intV ?_) | (refine congrArg boolV ?_) | (refine tupII ?_ ?_) | (refine tupIII ?_ ?_ ?_) | (refine tupU ?_ ?_ ?_ ?_ ?_) | exact rfl))
    · have hne : k ≠ loI m (bal m x j) := fun e => by rw [e] at hb; omega
      refine ⟨k + 1, [?_, ?_], by omega, by omega, ?_⟩
      rotate_left 2
      refine Sub.of ?_ ?_ ?_
      repeat' (first | (refine And.intro ?_ ?_) | exact trivial | (exact congrArg intV (by assumption)) | (refine congrArg intV ((wr_id (by omega) (by omega)).trans (by omega))) | exact rfl | (simp only [Int.toNat_natCast, Int.toNat_zero, Nat.sub_zero, Nat.zero_add]; first | exact rfl | done) | exact all0 | exact fun h => Bool.noConfusion h | exact fun _ _ _ _ => rfl | omega)
    have hkl : k = loI m (bal m x j) := by
      rcases Nat.lt_or_ge k (loI m (bal m x j)) with h | h
      · have := g6 k h
        omega
      · omega
    have e18 : (k : Int) = (loI m (bal m x j) : Int) := by omega
    clear hb
    refine sem_loop tab_ok gamE2_ok mixed (by kernel_rfl) (O := ordLd) (fun k2 : Nat => ⟨[(0, .c (.sl 1 m (cS s))), (7, .c (.sl 3 K (cEn s m x))), (8, intV 0), (15, .own 0), (17, .lp 1 0), (18, intV (loI m (bal m x j) : Nat)), (19, intV k2), (118, .c (.sl 3 K (cEn s m x))), (119, intV K), (120, intV j)], [.row 3 1 m false (c1 (bal m x j)), .box [strV (s (loI m (bal m x j))), strV (s (hiI m (bal m x j))), intV (dE m (bal m x j))]]⟩) (fun k2 => k2 ≤ hiI m (bal m x j)) (fun k2 => hiI m (bal m x j) - k2) ⟨0, [?_, ?_], Nat.zero_le _, ?_⟩ fun k2 hk2 => ?_
    rotate_left 2
    · refine Sub.of ?_ ?_ ?_
      repeat' (first | (refine And.intro ?_ ?_) | exact trivial | (exact congrArg intV (by assumption)) | (refine congrArg intV ((wr_id (by omega) (by omega)).trans (by omega))) | exact rfl | (simp only [Int.toNat_natCast, Int.toNat_zero, Nat.sub_zero, Nat.zero_add]; first | exact rfl | done) | exact all0 | exact fun h => Bool.noConfusion h | exact fun _ _ _ _ => rfl | omega)
    conv => whnf
    repeat' (first
      | (refine NilG.mk fun bn hbn => ?_; conv => whnf)
      | (refine Both.mk ?_ ?_ <;> conv => whnf)
      | exact trivial
      | (refine Br.mk (fun hb => ?_) (fun hb => ?_) <;> (first | (exfalso; revert hb; decide) | ((try simp only [BL] at hb) <;> (try simp only [DL] at hb) <;> conv => whnf)))
      | (refine And.intro ?_ ?_; (focus (first | exact id | exact rfl | exact trivial | (intro hg; first | exact hg | exact rfl | (simp; done) | (simp at hg ⊢; assumption)) | omega | decide | exact is2_c _ _ _ | exact is1_c _ _ | exact isS_c _ _ | exact isB_c _ _ | exact Nat.le_refl _ | assumption | exact mulLe (by decide) (by omega) | exact mulLe2 (by decide) (by omega) (by omega) | (intros; simp only [BL] at *; omega) | (intros; (try simp only [BL] at *); (try simp only [DL] at *); omega) | (intros; simp only [BL] at *; rw [wr_id (by omega) (by omega)]; omega) | (intros; simp_all; done))); conv => whnf)
      | (refine Or.inr (And.intro rfl ?_); first | (refine congrArg intV ?_) | (refine congrArg boolV ?_) | (refine tupII ?_ ?_) | (refine tupIII ?_ ?_ ?_) | (refine tupU ?_ ?_ ?_ ?_ ?_) | exact rfl))
    · have hne : k2 ≠ hiI m (bal m x j) := fun e => by rw [e] at hb; omega
      refine ⟨k2 + 1, [?_, ?_], by omega, by omega, ?_⟩
      rotate_left 2
      refine Sub.of ?_ ?_ ?_
      repeat' (first | (refine And.intro ?_ ?_) | exact trivial | (exact congrArg intV (by assumption)) | (refine congrArg intV ((wr_id (by omega) (by omega)).trans (by omega))) | exact rfl | (simp only [Int.toNat_natCast, Int.toNat_zero, Nat.sub_zero, Nat.zero_add]; first | exact rfl | done) | exact all0 | exact fun h => Bool.noConfusion h | exact fun _ _ _ _ => rfl | omega)
    · rename_i hq
      have hkh : k2 = hiI m (bal m x j) := by
        rcases Nat.lt_or_ge k2 (hiI m (bal m x j)) with h | h
        · have := g7 k2 h
          omega
        · omega
      exfalso
      rw [hkh, hd] at hb
      rcases hb with (h | h) | h | h | h | h
      · omega
      · omega
      · simp at h
      · simp at h
      · exact h rfl
      · cases h
    iterate 2
      · rename_i hq
        have hkh : k2 = hiI m (bal m x j) := by
          rcases Nat.lt_or_ge k2 (hiI m (bal m x j)) with h | h
          · have := g7 k2 h
            omega
          · omega
  
        subst hkh
        clear hb
        refine ⟨j + 1, [?_], by omega, by omega, ?_⟩
        rotate_left 1
        refine Sub.of ?_ ?_ ?_
        repeat' (first | (refine And.intro ?_ ?_) | exact trivial | (exact congrArg intV (by assumption)) | (refine congrArg intV ((wr_id (by omega) (by omega)).trans (by omega))) | exact rfl | (simp only [Int.toNat_natCast, Int.toNat_zero, Nat.sub_zero, Nat.zero_add]; first | exact rfl | done) | exact all0 | exact fun h => Bool.noConfusion h | exact fun _ _ _ _ => rfl | omega)
        · intro a ha b hbq
          obtain rfl : b = 0 := by omega
          by_cases e1 : a = hiI m (bal m x j)
          · refine (if_pos e1).trans ((if_pos ⟨Nat.le_refl _, Nat.zero_lt_one⟩).trans ?_)
            rw [e1]
            exact congrArg (fun z => L.v (.int .i64 z)) q1
          · by_cases e2 : a = loI m (bal m x j)
            · refine (if_neg e1).trans ((if_pos e2).trans ((if_pos ⟨Nat.le_refl _, Nat.zero_lt_one⟩).trans ?_))
              rw [e2]
              exact congrArg (fun z => L.v (.int .i64 z)) q2
            · refine (if_neg e1).trans ((if_neg e2).trans ?_)
              exact congrArg (fun z => L.v (.int .i64 z)) (stp_else e2 e1).symm
  have hjK : j = K := by omega
  obtain ⟨hbd, _, hSj⟩ := bal_in hx hJ j hj
  have hzero := bal_end hbd (hSj.trans hS0) (by rw [hjK]; exact hstop)
  clear hb
  refine sem_loop tab_ok gamE2_ok mixed (by kernel_rfl) (O := ordLd) (fun a : Nat => ⟨[(0, .c (.sl 1 m (cS s))), (7, .c (.sl 3 K (cEn s m x))), (8, intV 0), (204, .own 0), (205, intV m), (206, intV a)], [.row 3 1 m false (c1 (bal m x j))]⟩) (fun a => a ≤ m) (fun a => m - a) ⟨0, [?_], Nat.zero_le _, ?_⟩ fun a ha => ?_
  rotate_left 1
  · refine Sub.of ?_ ?_ ?_
    repeat' (first | (refine And.intro ?_ ?_) | exact trivial | (exact congrArg intV (by assumption)) | (refine congrArg intV ((wr_id (by omega) (by omega)).trans (by omega))) | exact rfl | (simp only [Int.toNat_natCast, Int.toNat_zero, Nat.sub_zero, Nat.zero_add]; first | exact rfl | done) | exact all0 | exact fun h => Bool.noConfusion h | exact fun _ _ _ _ => rfl | omega)
  conv => whnf
  repeat' (first
    | (refine NilG.mk fun bn hbn => ?_; conv => whnf)
    | (refine Both.mk ?_ ?_ <;> conv => whnf)
    | exact trivial
    | (refine Br.mk (fun hb => ?_) (fun hb => ?_) <;> (first | (exfalso; revert hb; decide) | ((try simp only [BL] at hb) <;> (try simp only [DL] at hb) <;> conv => whnf)))
    | (refine And.intro ?_ ?_; (focus (first | exact id | exact rfl | exact trivial | (intro hg; first | exact hg | exact rfl | (simp; done) | (simp at hg ⊢; assumption)) | omega | decide | exact is2_c _ _ _ | exact is1_c _ _ | exact isS_c _ _ | exact isB_c _ _ | exact Nat.le_refl _ | assumption | exact mulLe (by decide) (by omega) | exact mulLe2 (by decide) (by omega) (by omega) | (intros; simp only [BL] at *; omega) | (intros; (try simp only [BL] at *); (try simp only [DL] at *); omega) | (intros; simp only [BL] at *; rw [wr_id (by omega) (by omega)]; omega) | (intros; simp_all; done))); conv => whnf)
    | (refine Or.inr (And.intro rfl ?_); first | (refine congrArg intV ?_) | (refine congrArg boolV ?_) | (refine tupII ?_ ?_) | (refine tupIII ?_ ?_ ?_) | (refine tupU ?_ ?_ ?_ ?_ ?_) | exact rfl))
  · exact absurd (hzero a (by omega)) hb
  · refine ⟨a + 1, [?_], by omega, by omega, ?_⟩
    rotate_left 1
    refine Sub.of ?_ ?_ ?_
    repeat' (first | (refine And.intro ?_ ?_) | exact trivial | (exact congrArg intV (by assumption)) | (refine congrArg intV ((wr_id (by omega) (by omega)).trans (by omega))) | exact rfl | (simp only [Int.toNat_natCast, Int.toNat_zero, Nat.sub_zero, Nat.zero_add]; first | exact rfl | done) | exact all0 | exact fun h => Bool.noConfusion h | exact fun _ _ _ _ => rfl | omega)
  · rcases hfew with h | h
    · rw [h]; rfl
    · simp; omega

theorem ledgerSettles_own : ownKnob Try.prog.godebug = none := by kernel_rfl
theorem ledgerSettles_laid : laidOutB Try.prog = true := by kernel_rfl

set_option maxRecDepth 100000 in
theorem ledgerSettles_lifted (os : Os) (started : os.Started) (H : Type) (enc : TypeId × Value → H) :
    ReturnsInHanded {} Try.checked os 7 .any (Rows.ledgerSettlesSpec.pre6 enc Try.prog Try.f7 Rows.ledgerSettlesRow.domain false) (Rows.ledgerSettlesSpec.post enc Try.prog Try.f7 false true false false) := by
  refine returnsInHanded_of_change (C := Try.checked) ledgerSettles_own started (by kernel_rfl) Try.func7
    (ChangeSpec.witness6 (enc := enc) (C := Try.checked) false ⟨#[], #[.slice none 0 0, .slice none 0 0], []⟩ 8 (by kernel_rfl) (by kernel_rfl) (by kernel_rfl) (by kernel_rfl)) ?_
  intro W base args ds gs before hval0 hW hcnd _
  have hval : ∀ (j : Nat) t v, Try.f7.params[j]? = some t → args[j]? = some v → Value.okWide Try.prog W .any base t v := hval0
  have hW' : DataW.Whole enc Try.prog Try.f7.params.toList Rows.ledgerSettlesSpec.vars false W args.toList ds gs before := hW
  exact law_post (P := Try.prog) [.sl .s, .sl (.i .i64)] (by kernel_rfl) ledgerSettles_laid (by kernel_rfl) rfl (tb := 4) rfl (by kernel_rfl) (fun ds h => by
    match ds, h with
    | [d1, d2], _ => rfl) (fun x hx => ledLaw x.1.1 x.2.1.1 x.1.2 x.2.1.2 (fun k hk => hx.1.2 k hk) hx.1.1 hx.2.1.1) W args ds gs before hval hW'

theorem ledgerSettles_holds : Rows.LedgerSettlesSaid :=
  OpenClaim.holds_of_wide 7 Try.f7 rfl rfl rfl rfl rfl rfl rfl ⟨rfl, rfl, rfl, rfl, rfl⟩ rfl rfl rfl rfl rfl (by kernel_rfl) Try.func7 (by kernel_rfl)
    (of_decide_eq_true (by kernel_rfl)) (by unfold Func.isWrapper; rw [if_neg (by decide +kernel)]; exact ⟨rfl, rfl⟩)
    (fun os started H enc _ => ledgerSettles_lifted os started H enc)
end Go.Proofs.Ytogibhkbckfgbaa
