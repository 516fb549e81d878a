/-
  OfferSupplies holds: offer's Supply and Profit return the best powers at a price, whatever the input.
-/
import Derived.Test.YtogibhkbckfgbaaOff2
namespace Go.Proofs.Ytogibhkbckfgbaa
open Go.RowKit Go.ChangeShapes Go.WideShapes

/-- what the first k steps earn -/
def W (p q : Nat → Int) (t : Int) : Nat → Int := S fun i => p i * (t - q i)

theorem S_congr {f g : Nat → Int} : ∀ {n : Nat}, (∀ k, k < n → f k = g k) → S f n = S g n
  | 0, _ => rfl
  | n + 1, h => by simp only [S]; rw [S_congr fun k hk => h k (by omega), h n (by omega)]

/-- the cost of a power at a step's end -/
theorem C_at {n : Nat} {p q : Nat → Int} (h : okOff n p q) {k : Nat} (hk : k ≤ n) (t : Int) : t * S p k - S (ct p q (S p k)) n = W p q t k := by
  have hp := fun i (hi : i < n) => h.2.1 i hi
  have mono : ∀ i j, i ≤ j → j ≤ n → S p i ≤ S p j := fun i j hij hj => S_mono (fun m hm => by have := hp m (by omega); omega) hij
  have key : ∀ m, m ≤ n → S (ct p q (S p k)) m = S (fun i => if i < k then p i * q i else 0) m := fun m hm => S_congr fun i hi => by
    have h1 : S p (i + 1) = S p i + p i := rfl
    have h2 := hp i (by omega)
    unfold ct
    by_cases hik : i < k
    · rw [if_pos hik]
      have := mono (i + 1) k (by omega) hk
      rw [show min (max (S p k - S p i) 0) (p i) = p i by omega]
    · rw [if_neg hik]
      have := mono k i (by omega) (by omega)
      rw [show min (max (S p k - S p i) 0) (p i) = 0 by omega, Int.zero_mul]
  rw [key n (Nat.le_refl n)]
  have cut : ∀ m, k ≤ m → S (fun i => if i < k then p i * q i else 0) m = S (fun i => p i * q i) k := by
    intro m hm
    induction m with
    | zero => obtain rfl : k = 0 := by omega
              rfl
    | succ m ih =>
      rcases Nat.eq_or_lt_of_le hm with rfl | hlt
      · exact S_congr fun i hi => if_pos hi
      · simp only [S]
        rw [ih (by omega), if_neg (by omega), Int.add_zero]
  rw [cut n hk]
  clear key cut
  unfold W
  induction k with
  | zero => simp [S]
  | succ k ih =>
    simp only [S]
    rw [← ih (by omega), Int.mul_add, Int.mul_sub, Int.mul_comm (p k) t]
    omega

/-- where the steps below a price end -/
theorem cutAt {n : Nat} {q : Nat → Int} (P : Int → Prop) [DecidablePred P] (hs : ∀ k, k + 1 < n → P (q (k + 1)) → P (q k)) : ∃ a, a ≤ n ∧ (∀ k, k < a → P (q k)) ∧ ∀ k, a ≤ k → k < n → ¬ P (q k) := by
  induction n with
  | zero => exact ⟨0, Nat.le_refl 0, fun k hk => absurd hk (Nat.not_lt_zero _), fun k _ hk => absurd hk (Nat.not_lt_zero _)⟩
  | succ n ih =>
    obtain ⟨a, h1, h2, h3⟩ := ih fun k hk => hs k (by omega)
    by_cases ha : a = n
    · subst ha
      by_cases hP : P (q a)
      · exact ⟨a + 1, Nat.le_refl _, fun k hk => by
          rcases Nat.lt_succ_iff_lt_or_eq.1 hk with h | rfl
          · exact h2 k h
          · exact hP, fun k hk hk' => by omega⟩
      · exact ⟨a, by omega, h2, fun k hk hk' => (show a = k by omega) ▸ hP⟩
    · refine ⟨a, by omega, h2, fun k hk hk' => ?_⟩
      rcases Nat.lt_succ_iff_lt_or_eq.1 hk' with h | rfl
      · exact h3 k hk h
      · intro hP
        have : k - 1 + 1 = k := by omega
        exact h3 (k - 1) (by omega) (by omega) (hs (k - 1) (by omega) (by rw [this]; exact hP))

theorem SP_cut {n a : Nat} {p q : Nat → Int} (P : Int → Prop) [DecidablePred P] (ha : a ≤ n) (h2 : ∀ k, k < a → P (q k)) (h3 : ∀ k, a ≤ k → k < n → ¬ P (q k)) : S (fun k => if P (q k) then p k else 0) n = S p a := by
  have key : ∀ m, a ≤ m → m ≤ n → S (fun k => if P (q k) then p k else 0) m = S p a := by
    intro m
    induction m with
    | zero => intro h _
              obtain rfl : a = 0 := by omega
              rfl
    | succ m ih =>
      intro hm hn
      rcases Nat.eq_or_lt_of_le hm with rfl | hlt
      · exact S_congr fun i hi => if_pos (h2 i hi)
      · simp only [S]
        rw [ih (by omega) (by omega), if_neg (h3 m (by omega) (by omega)), Int.add_zero]
  exact key n ha (Nat.le_refl n)

def gamS : Gam := fun f => match f with
  | 22 => some (sOi (fun s n _ _ _ => s.size ≤ maxLen ∧ n ≤ maxLen) fun s n p q t => .tup [intV (if offPE s n p q t = 0 then S (SP1 p q t) n else 0), intV (if offPE s n p q t = 0 then S (SP2 p q t) n else 0), intV (offPE s n p q t)])
  | 24 => some (sOi (fun s n _ _ _ => s.size ≤ maxLen ∧ n ≤ maxLen) fun s n p q t => .tup [intV (if offPE s n p q t = 0 then prf n p q t else 0), intV (offPE s n p q t)])
  | 25 => some (sO (fun s n _ _ => s.size ≤ maxLen ∧ n ≤ maxLen) fun s n p q => intV (offE s n p q))
  | 21 => some (s3 inB)
  | 26 => some (sBf S)
  | 27 => some (sOi (fun _ n p q x => okOff n p q ∧ 0 ≤ x ∧ x ≤ 2000000) fun _ n p q x => intV (S (ct p q x) n))
  | _ => none
theorem gamS_ok : GOk Try.prog gamS := fun f g h => by
  unfold gamS at h
  split at h
  · injection h with h; subst h; exact sOi_ok fun s n p q x hp => offSupply s n p q x hp.1 hp.2
  · injection h with h; subst h; exact sOi_ok fun s n p q x hp => offProfit s n p q x hp.1 hp.2
  · injection h with h; subst h; exact sO_ok fun s n p q hp => offError s n p q hp.1 hp.2
  · injection h with h; subst h; exact s3_ok in3
  · injection h with h; subst h; exact before_ok
  · injection h with h; subst h; exact sOi_ok offCost3
  · cases h

/-- two: an offer that is given by the test -/
def twoP : Nat → Int := fun _ => 10
def twoQ : Nat → Int := fun k => if k = 0 then 5 else 8
def twoF (s : ByteArray) (obs : List OB) (r : AV) : Prop := obs = [] ∧ ∃ f, r = .agg [strV s, .c (.sl 2 2 f)] ∧ Sh 2 2 f (c2 twoP twoQ)
theorem two0 (s : ByteArray) : Fn Try.prog 23 [strV s] (twoF s) := by
  refine fn_of_wpx (O := lex) tab_ok gamO1_ok mixed Try.func23 (by kernel_rfl) rfl rfl rfl (by simp [Try.ntmps23]) (by kernel_rfl) ?_
  conv => whnf
  repeat' (first
    | (refine Br.mk (fun hb => ?_) (fun hb => ?_) <;> (first | (exfalso; revert hb; decide) | ((try simp only [BL] at hb) <;> (try simp only [DL] at hb) <;> conv => whnf)))
    | (refine And.intro ?_ ?_; (focus (first | exact id | exact rfl | exact trivial | (intro hg; first | exact hg | exact rfl | (simpa using hg)) | omega | decide | exact is2_c _ _ _ | exact is1_c _ _ | exact isS_c _ _ | exact isB_c _ _ | exact Nat.le_refl _ | assumption | (intros; simp only [BL] at *; omega) | (intros; (try simp only [BL] at *); (try simp only [DL] at *); omega) | (intros; simp only [BL] at *; rw [wr_id (by omega) (by omega)]; omega))); conv => whnf)
    | (refine Or.inr (And.intro rfl ?_); first | (refine congrArg intV ?_) | (refine congrArg boolV ?_) | (refine tupII ?_ ?_) | (refine tupIII ?_ ?_ ?_)))
  refine .inr ⟨rfl, _, rfl, fun k hk j hj => ?_⟩
  match k, j, hk, hj with
  | 0, 0, _, _ => rfl
  | 0, 1, _, _ => rfl
  | 1, 0, _, _ => rfl
  | 1, 1, _, _ => rfl
theorem two (s : ByteArray) : Fn1 Try.prog 23 [strV s] (offV s 2 twoP twoQ) :=
  (two0 s).res fun obs r ⟨h1, f, h2, h3⟩ => ⟨_, ⟨h1, rfl⟩, h2 ▸ Le1.agg (Le.cons (Le1.refl _) (Le.cons (Le1.sl h3) Le.nil))⟩

theorem supLaw (s : ByteArray) (n : Nat) (p q : Nat → Int) (t : Int) (hs : s.size ≤ maxLen) (hn : n ≤ maxLen) : Fn1 Try.prog 5 [offV s n p q, intV t] (boolV true) := by
  refine fn_of_wpx (O := lex) tab_ok gamS_ok mixed Try.func5 (by kernel_rfl) rfl rfl rfl (by simp [Try.ntmps5]) (by kernel_rfl) ?_
  conv => whnf
  repeat' (first
    | (refine Br.mk (fun hb => ?_) (fun hb => ?_) <;> (first | (exfalso; revert hb; decide) | ((try simp only [BL] at hb) <;> (try simp only [DL] at hb) <;> conv => whnf)))
    | (refine And.intro ?_ ?_; (focus (first | exact id | exact rfl | exact trivial | (intro hg; first | exact hg | exact rfl | (simpa using hg)) | omega | decide | exact is2_c _ _ _ | exact is1_c _ _ | exact isS_c _ _ | exact isB_c _ _ | exact Nat.le_refl _ | assumption | (intros; simp only [BL] at *; omega) | (intros; (try simp only [BL] at *); (try simp only [DL] at *); omega) | (intros; simp only [BL] at *; rw [wr_id (by omega) (by omega)]; omega) | first | exact ⟨is2_c _ _ _, hs, hn⟩)); conv => whnf)
    | (refine Or.inr (And.intro rfl ?_); first | (refine congrArg intV ?_) | (refine congrArg boolV ?_) | (refine tupII ?_ ?_) | (refine tupIII ?_ ?_ ?_)))
  refine CallG.mk (Fn.mono (two _) ?_)
  rintro obs r ⟨rfl, rfl⟩
  conv => whnf
  repeat' (first
    | (refine Br.mk (fun hb => ?_) (fun hb => ?_) <;> (first | (exfalso; revert hb; decide) | ((try simp only [BL] at hb) <;> (try simp only [DL] at hb) <;> conv => whnf)))
    | (refine And.intro ?_ ?_; (focus (first | exact id | exact rfl | exact trivial | (intro hg; first | exact hg | exact rfl | (simpa using hg)) | omega | decide | exact is2_c _ _ _ | exact is1_c _ _ | exact isS_c _ _ | exact isB_c _ _ | exact Nat.le_refl _ | assumption | (intros; simp only [BL] at *; omega) | (intros; (try simp only [BL] at *); (try simp only [DL] at *); omega) | (intros; simp only [BL] at *; rw [wr_id (by omega) (by omega)]; omega) | first | exact ⟨is2_c _ _ _, hs, hn⟩ | exact ⟨is2_c _ _ _, by decide, by decide⟩)); conv => whnf)
    | (refine Or.inr (And.intro rfl ?_); first | (refine congrArg intV ?_) | (refine congrArg boolV ?_) | (refine tupII ?_ ?_) | (refine tupIII ?_ ?_ ?_)))
  · rename_i h1 h2
    have hE : offPE s n p q t = 4 := by
      unfold offPE
      rw [if_neg (by simp [h2.1]), if_pos (by omega)]
    simp only [DL]
    simp [hE]
  · have hE : offPE s n p q t = offE s n p q := by
      unfold offPE
      rw [if_pos hb]
    simp only [DL]
    simp [hE, hb]
  rename_i h1 h2
  have ht : -2000000 ≤ t ∧ t ≤ 2000000 := by
    rcases h2 with h2 | h2
    · exact absurd hb h2
    · omega
  have h := (offE_zero hb).2
  have hE : offPE s n p q t = 0 := by
    unfold offPE
    rw [if_neg (by simp [hb]), if_neg (by omega)]
  clear h1 h2
  have hn12 := h.1
  obtain ⟨a, ha, ha1, ha2⟩ := cutAt (n := n) (q := q) (· < t) fun k hk hlt => by have := h.2.2.1 k hk; omega
  obtain ⟨b, hbn, hb1, hb2⟩ := cutAt (n := n) (q := q) (· ≤ t) fun k hk hlt => by have := h.2.2.1 k hk; omega
  have hab : a ≤ b := by
    rcases Nat.lt_or_ge b a with hlt | hge
    · have h1 := ha1 b hlt
      have h2 := hb2 b (Nat.le_refl b) (by omega)
      omega
    · exact hge
  have eA : S (SP1 p q t) n = S p a := SP_cut (q := q) (p := p) (· < t) ha ha1 ha2
  have eB : S (SP2 p q t) n = S p b := SP_cut (q := q) (p := p) (· ≤ t) hbn hb1 hb2
  have eW : prf n p q t = W p q t a := by
    unfold prf
    rw [eA]
    exact C_at h ha t
  have s8 : (if offPE s n p q t = 0 then S (SP1 p q t) n else 0) = S p a := by rw [if_pos hE, eA]
  have s9 : (if offPE s n p q t = 0 then S (SP2 p q t) n else 0) = S p b := by rw [if_pos hE, eB]
  have s11 : (if offPE s n p q t = 0 then prf n p q t else 0) = W p q t a := by rw [if_pos hE, eW]
  have step : ∀ k, k < n → W p q t (k + 1) = W p q t k + p k * (t - q k) := fun k _ => rfl
  have up : ∀ k, k < a → W p q t k < W p q t (k + 1) := fun k hk => by
    have h1 := h.2.1 k (by omega)
    have h2 := ha1 k hk
    have := Int.mul_pos (a := p k) (b := t - q k) (by omega) (by omega)
    rw [step k (by omega)]
    omega
  have flat : ∀ k, a ≤ k → k < b → W p q t (k + 1) = W p q t k := fun k hk hkb => by
    have h2 := ha2 k hk (by omega)
    have h3 := hb1 k hkb
    rw [step k (by omega), show t - q k = 0 by omega]
    simp
  have down : ∀ k, b ≤ k → k < n → W p q t (k + 1) < W p q t k := fun k hk hkn => by
    have h1 := h.2.1 k (by omega)
    have h2 := hb2 k hk hkn
    have := Int.mul_pos (a := p k) (b := q k - t) (by omega) (by omega)
    have e : p k * (t - q k) = -(p k * (q k - t)) := by rw [← Int.mul_neg]; congr 1; omega
    rw [step k (by omega), e]
    omega
  have flat' : ∀ k, a ≤ k → k ≤ b → W p q t k = W p q t a := by
    intro k
    induction k with
    | zero => intro h0 _; rw [show a = 0 by omega]
    | succ k ih =>
      intro h0 h1
      rcases Nat.eq_or_lt_of_le h0 with he | hlt
      · rw [he]
      · rw [flat k (by omega) (by omega), ih (by omega) (by omega)]
  have down' : ∀ k, b < k → k ≤ n → W p q t k < W p q t a := by
    intro k
    induction k with
    | zero => intro h0 _; omega
    | succ k ih =>
      intro h0 h1
      have hd := down k (by omega) (by omega)
      rcases Nat.lt_or_ge b k with hlt | hge
      · have := ih hlt (by omega); omega
      · rw [← flat' b hab (Nat.le_refl b), show b = k by omega]; exact hd
  have Wle : ∀ k, k ≤ n → -3600000000000 ≤ W p q t k ∧ W p q t k ≤ 3600000000000 := fun k hk => by
    have := S_le (p := fun i => p i * (t - q i)) (a := -300000000000) (b := 300000000000) (k := k) fun j hj => by
      have h1 := h.2.1 j (by omega)
      exact mulB (a := p j) (b := t - q j) (A := 100000) (B := 3000000) (by omega) (by omega) (by omega) (by omega) (by omega)
    unfold W
    omega
  refine sem_loop tab_ok gamS_ok mixed (by kernel_rfl) (O := lex) (fun j : Nat => ⟨[(17, intV (j + 1 : Nat)), (14, intV (W p q t (min j a))), (15, intV (S p (min j a))), (16, intV (S p (min j b))), (8, intV (S p a)), (9, intV (S p b)), (10, intV 0), (11, intV (W p q t a)), (12, intV 0), (1, intV t), (2, .lp 0 0)], [.box [strV s, .c (.sl 2 n (c2 p q))]]⟩) (fun j => j ≤ n) (fun j => n - j) ⟨0, [0], Nat.zero_le _, ?_⟩ fun j hj => ?_
  · have m0 : (0 : Int) = W p q t (min 0 a) := by rw [Nat.zero_min]; rfl
    have m1 : (0 : Int) = S p (min 0 a) := by rw [Nat.zero_min]; rfl
    have m2 : (0 : Int) = S p (min 0 b) := by rw [Nat.zero_min]; rfl
    have m3 : (1 : Int) = ((0 + 1 : Nat) : Int) := rfl
    repeat' (first | (refine And.intro ?_ ?_) | exact trivial | (exact congrArg intV (by assumption)) | (refine congrArg intV ((wr_id (by omega) (by omega)).trans (by omega))) | exact rfl | (simp only [Int.toNat_natCast, Int.toNat_zero, Nat.sub_zero, Nat.zero_add]; first | exact rfl | done))
  have hS1 : j + 1 ≤ n → 0 ≤ S p (j + 1) ∧ S p (j + 1) ≤ 100000 := fun hj => by have := h.S0 hj; omega
  have hS2 : j + 1 ≤ n → 0 ≤ S p (j + 1) ∧ S p (j + 1) ≤ 2000000 := fun hj => by have := h.S0 hj; omega
  have eX : j + 1 ≤ n → IntKind.i64.wrap (IntKind.i64.wrap (t * S p (j + 1)) - S (ct p q (S p (j + 1))) n) = W p q t (j + 1) := fun hj => by
    have h1 := hS1 hj
    have hm := mulB (a := S p (j + 1)) (b := t) (A := 100000) (B := 2000000) h1.1 h1.2 (by omega) ht.2 (by omega)
    rw [Int.mul_comm (S p (j + 1)) t] at hm
    have hw := Wle (j + 1) hj
    have hc := C_at h hj t
    rw [wr_id (x := t * S p (j + 1)) (by omega) (by omega), hc]
    exact wr_id (by omega) (by omega)
  have hj2 : IntKind.i64.wrap (((j + 1 : Nat) : Int) + 1) = ((j + 1 + 1 : Nat) : Int) := by rw [wr_id (by omega) (by omega)]; omega
  conv => whnf
  repeat' (first
    | (refine Br.mk (fun hb => ?_) (fun hb => ?_) <;> (first | (exfalso; revert hb; decide) | ((try simp only [BL] at hb) <;> (try simp only [DL] at hb) <;> conv => whnf)))
    | (refine And.intro ?_ ?_; (focus (first | exact id | exact rfl | exact trivial | (intro hg; first | exact hg | exact rfl | (simpa using hg)) | omega | decide | exact is2_c _ _ _ | exact is1_c _ _ | exact isS_c _ _ | exact isB_c _ _ | exact Nat.le_refl _ | assumption | (intros; simp only [BL] at *; omega) | (intros; (try simp only [BL] at *); (try simp only [DL] at *); omega) | (intros; simp only [BL] at *; rw [wr_id (by omega) (by omega)]; omega) | first | exact bef_ok h (by omega) | exact ⟨is2_c _ _ _, h, hS2 (by omega)⟩)); conv => whnf)
    | (refine Or.inr (And.intro rfl ?_); first | (refine congrArg intV ?_) | (refine congrArg boolV ?_) | (refine tupII ?_ ?_) | (refine tupIII ?_ ?_ ?_)))
  · have hj1 : j + 1 ≤ n := by omega
    have hX := eX hj1
    have hb' : W p q t (j + 1) > W p q t (min j a) := by rw [← hX]; exact hb
    have hja : j < a := by
      rcases Nat.lt_or_ge j a with h1 | h1
      · exact h1
      · exfalso
        rw [show min j a = a by omega] at hb'
        rcases Nat.lt_or_ge b (j + 1) with h2 | h2
        · have := down' (j + 1) h2 hj1; omega
        · have := flat' (j + 1) (by omega) h2; omega
    have m14 := hX.trans (congrArg (W p q t) (show j + 1 = min (j + 1) a by omega))
    have m15 := congrArg (S p) (show j + 1 = min (j + 1) a by omega)
    have m16 := congrArg (S p) (show j + 1 = min (j + 1) b by omega)
    refine ⟨j + 1, [0], hj1, by omega, ?_⟩
    repeat' (first | (refine And.intro ?_ ?_) | exact trivial | (exact congrArg intV (by assumption)) | (refine congrArg intV ((wr_id (by omega) (by omega)).trans (by omega))) | exact rfl | (simp only [Int.toNat_natCast, Int.toNat_zero, Nat.sub_zero, Nat.zero_add]; first | exact rfl | done))
  · have hj1 : j + 1 ≤ n := by omega
    have hX := eX hj1
    have hb' : W p q t (j + 1) = W p q t (min j a) := by rw [← hX]; exact hb
    have hja : a ≤ j := by
      rcases Nat.lt_or_ge j a with h1 | h1
      · have := up j h1
        rw [show min j a = j by omega] at hb'
        omega
      · exact h1
    have hjb : j + 1 ≤ b := by
      rcases Nat.lt_or_ge b (j + 1) with h2 | h2
      · have := down' (j + 1) h2 hj1
        rw [show min j a = a by omega] at hb'
        omega
      · exact h2
    have m14 := congrArg (W p q t) (show min j a = min (j + 1) a by omega)
    have m15 := congrArg (S p) (show min j a = min (j + 1) a by omega)
    have m16 := congrArg (S p) (show j + 1 = min (j + 1) b by omega)
    refine ⟨j + 1, [0], hj1, by omega, ?_⟩
    repeat' (first | (refine And.intro ?_ ?_) | exact trivial | (exact congrArg intV (by assumption)) | (refine congrArg intV ((wr_id (by omega) (by omega)).trans (by omega))) | exact rfl | (simp only [Int.toNat_natCast, Int.toNat_zero, Nat.sub_zero, Nat.zero_add]; first | exact rfl | done))
  · rename_i hb0
    have hj1 : j + 1 ≤ n := by omega
    have hX := eX hj1
    have hb1' : ¬ W p q t (j + 1) > W p q t (min j a) := by rw [← hX]; exact hb0
    have hb2' : ¬ W p q t (j + 1) = W p q t (min j a) := by rw [← hX]; exact hb
    have hja : a ≤ j := by
      rcases Nat.lt_or_ge j a with h1 | h1
      · have := up j h1
        rw [show min j a = j by omega] at hb1'
        omega
      · exact h1
    have hjb : b < j + 1 := by
      rcases Nat.lt_or_ge b (j + 1) with h2 | h2
      · exact h2
      · have := flat' (j + 1) (by omega) h2
        rw [show min j a = a by omega] at hb2'
        omega
    have m14 := congrArg (W p q t) (show min j a = min (j + 1) a by omega)
    have m15 := congrArg (S p) (show min j a = min (j + 1) a by omega)
    have m16 := congrArg (S p) (show min j b = min (j + 1) b by omega)
    refine ⟨j + 1, [0], hj1, by omega, ?_⟩
    repeat' (first | (refine And.intro ?_ ?_) | exact trivial | (exact congrArg intV (by assumption)) | (refine congrArg intV ((wr_id (by omega) (by omega)).trans (by omega))) | exact rfl | (simp only [Int.toNat_natCast, Int.toNat_zero, Nat.sub_zero, Nat.zero_add]; first | exact rfl | done))
  · obtain rfl : j = n := by omega
    rw [show min j a = a by omega, show min j b = b by omega]
    simp

def tyOff : Ty := .st (.cons .s (.cons (.sl (.st (.cons (.i .i64) (.cons (.i .i64) .nil)))) .nil))

theorem own : ownKnob Try.prog.godebug = none := by kernel_rfl
theorem laid : laidOutB Try.prog = true := by kernel_rfl

set_option maxRecDepth 100000 in
theorem offerSupplies_lifted (os : Os) (started : os.Started) (H : Type) (enc : TypeId × Value → H) :
    ReturnsInHanded {} Try.checked os 5 .any (Rows.offerSuppliesSpec.pre6 enc Try.prog Try.f5 Rows.offerSuppliesRow.domain false) (Rows.offerSuppliesSpec.post enc Try.prog Try.f5 false true false false) := by
  refine returnsInHanded_of_change (C := Try.checked) own started (by kernel_rfl) Try.func5
    (ChangeSpec.witness6 (enc := enc) (C := Try.checked) false ⟨#[], #[.agg #[.string ByteArray.empty, .slice none 0 0], .int .i64 0], []⟩ 8 (by kernel_rfl) (by kernel_rfl) (by kernel_rfl) (by kernel_rfl)) ?_
  intro W base args ds gs before hval0 hW hcnd _
  have hval : ∀ (j : Nat) t v, Try.f5.params[j]? = some t → args[j]? = some v → Value.okWide Try.prog W .any base t v := hval0
  have hW' : DataW.Whole enc Try.prog Try.f5.params.toList Rows.offerSuppliesSpec.vars false W args.toList ds gs before := hW
  exact law_post (P := Try.prog) [tyOff, .i .i64] (by kernel_rfl) laid (by kernel_rfl) rfl (tb := 4) rfl (by kernel_rfl) (fun ds h => by
    match ds, h with
    | [d1, d2], _ => rfl) (fun x hx => supLaw x.1.1 x.1.2.1.1 (fun k => (x.1.2.1.2 k).1) (fun k => (x.1.2.1.2 k).2.1) x.2.1 hx.1.1 hx.1.2.1.1) W args ds gs before hval hW'

theorem offerSupplies_holds : Rows.OfferSuppliesSaid :=
  OpenClaim.holds_of_wide 5 Try.f5 rfl rfl rfl rfl rfl rfl rfl ⟨rfl, rfl, rfl, rfl, rfl⟩ rfl rfl rfl rfl rfl (by kernel_rfl) Try.func5 (by kernel_rfl)
    (of_decide_eq_true (by kernel_rfl)) (by unfold Func.isWrapper; rw [if_neg (by decide +kernel)]; exact ⟨rfl, rfl⟩)
    (fun os started H enc _ => offerSupplies_lifted os started H enc)

end Go.Proofs.Ytogibhkbckfgbaa
