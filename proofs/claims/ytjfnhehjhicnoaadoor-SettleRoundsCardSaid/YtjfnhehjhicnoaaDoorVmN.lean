/-
  Slices with a known shape; contracts looked at through other arguments.
-/
import Derived.Test.YtjfnhehjhicnoaaDoorVmM
namespace Go.Proofs.YtjfnhehjhicnoaaDoor
open Go.RowKit

abbrev iL (n : Int) : L := .v (.int .i64 n)
abbrev bL (n : Bool) : L := .v (.bool n)
abbrev sL (s : ByteArray) : L := .v (.string s)
def L.toI : L → Int
  | .v (.int _ n) => n
  | _ => 0
def L.toS : L → ByteArray
  | .v (.string s) => s
  | _ => ByteArray.empty
def L.toB : L → Bool
  | .v (.bool s) => s
  | _ => false

/-- slices of numbers, of pairs of numbers, of texts -/
def c1 (p : Nat → Int) : Nat → Nat → L := fun k j => [iL (p k)].getD j .un
def c2 (p q : Nat → Int) : Nat → Nat → L := fun k j => [iL (p k), iL (q k)].getD j .un
def cS (p : Nat → ByteArray) : Nat → Nat → L := fun k j => [sL (p k)].getD j .un
def cB (p : Nat → Bool) : Nat → Nat → L := fun k j => [bL (p k)].getD j .un
def d0 (f : Nat → Nat → L) : Nat → Int := fun k => (f k 0).toI
def d1 (f : Nat → Nat → L) : Nat → Int := fun k => (f k 1).toI
def dS (f : Nat → Nat → L) : Nat → ByteArray := fun k => (f k 0).toS
def dB (f : Nat → Nat → L) : Nat → Bool := fun k => (f k 0).toB

theorem d0_c1 (p : Nat → Int) : d0 (c1 p) = p := rfl
theorem d0_c2 (p q : Nat → Int) : d0 (c2 p q) = p := rfl
theorem d1_c2 (p q : Nat → Int) : d1 (c2 p q) = q := rfl
theorem dS_cS (p : Nat → ByteArray) : dS (cS p) = p := rfl
theorem dB_cB (p : Nat → Bool) : dB (cB p) = p := rfl

/-- f is of the shape g as far as it goes -/
def Sh (n sz : Nat) (f g : Nat → Nat → L) : Prop := ∀ k, k < n → ∀ j, j < sz → f k j = g k j
def is1 (n : Nat) (f : Nat → Nat → L) : Prop := Sh n 1 f (c1 (d0 f))
def is2 (n : Nat) (f : Nat → Nat → L) : Prop := Sh n 2 f (c2 (d0 f) (d1 f))
def isS (n : Nat) (f : Nat → Nat → L) : Prop := Sh n 1 f (cS (dS f))
def isB (n : Nat) (f : Nat → Nat → L) : Prop := Sh n 1 f (cB (dB f))
theorem is1_c (n : Nat) (p : Nat → Int) : is1 n (c1 p) := fun _ _ _ _ => rfl
theorem is2_c (n : Nat) (p q : Nat → Int) : is2 n (c2 p q) := fun _ _ _ _ => rfl
theorem isS_c (n : Nat) (p : Nat → ByteArray) : isS n (cS p) := fun _ _ _ _ => rfl
theorem isB_c (n : Nat) (p : Nat → Bool) : isB n (cB p) := fun _ _ _ _ => rfl
theorem is1_nil {f : Nat → Nat → L} : is1 0 f := fun _ h => absurd h (Nat.not_lt_zero _)
theorem is2_nil {f : Nat → Nat → L} : is2 0 f := fun _ h => absurd h (Nat.not_lt_zero _)
theorem isS_nil {f : Nat → Nat → L} : isS 0 f := fun _ h => absurd h (Nat.not_lt_zero _)

theorem rd_sh {w : World} {I : Nat → Prop} {sz n : Nat} {f g : Nat → Nat → L} {u : Value} (h : Sh n sz f g) (hr : (L.sl sz n f).rd w I u) : (L.sl sz n g).rd w I u := by
  simp only [L.rd] at hr ⊢
  obtain ⟨A, cap, e, h1, h2, h3⟩ := hr
  refine ⟨A, cap, e, h1, h2, fun hn => ?_⟩
  obtain ⟨a, e1, hb, hc⟩ := h3 hn
  exact ⟨a, e1, hb, fun k hk j hj => by rw [← h k hk j hj]; exact hc k hk j hj⟩

/-- as' says no less than as -/
def Le (as' as : List AV) : Prop := ∀ (σ : Asg) (I : Nat → Prop) (w : World) (vs : List Value), DenL σ I w as' vs → DenL σ I w as vs
def Le1 (a' a : AV) : Prop := ∀ (σ : Asg) (I : Nat → Prop) (w : World) (v : Value), Den σ I w a' v → Den σ I w a v
theorem Le1.refl (a : AV) : Le1 a a := fun _ _ _ _ h => h
theorem Le.nil : Le [] [] := fun _ _ _ _ h => h
theorem Le.cons {a' a : AV} {as' as : List AV} (h : Le1 a' a) (k : Le as' as) : Le (a' :: as') (a :: as) := fun σ I w vs hd => by
  simp only [DenL] at hd ⊢
  obtain ⟨u, us, e, h1, h2⟩ := hd
  exact ⟨u, us, e, h _ _ _ _ h1, k _ _ _ _ h2⟩
theorem Le1.sl {sz n : Nat} {f g : Nat → Nat → L} (h : Sh n sz f g) : Le1 (.c (.sl sz n f)) (.c (.sl sz n g)) := fun _ _ _ _ hd => by
  simp only [Den] at hd ⊢
  exact rd_sh h hd
theorem Le1.agg {as' as : List AV} (h : Le as' as) : Le1 (.agg as') (.agg as) := fun σ I w v hd => by
  simp only [Den] at hd ⊢
  obtain ⟨us, e, h1, h2⟩ := hd
  exact ⟨us, e, h _ _ _ _ h1, h2⟩
theorem Fn.le {P : Program} {f : FuncId} {as' as : List AV} {K : List OB → AV → Prop} (h : Fn P f as K) (hl : Le as' as) : Fn P f as' K :=
  ⟨h.1, fun w I vs hI hd => h.2 w I vs hI (hl _ _ _ _ hd)⟩
theorem Fn1.le {P : Program} {f : FuncId} {as' as : List AV} {r : AV} (h : Fn1 P f as r) (hl : Le as' as) : Fn1 P f as' r := Fn.le h hl

theorem Fn.res {P : Program} {f : FuncId} {as : List AV} {K K' : List OB → AV → Prop} (h : Fn P f as K) (hk : ∀ obs r, K obs r → ∃ r', K' obs r' ∧ Le1 r r') : Fn P f as K' :=
  ⟨h.1, fun w I vs hI hd => (h.2 w I vs hI hd).mono fun _ _ ⟨u, σ, I', obs, r, h1, h2, h3, h4, h5, h6, h7⟩ => by
    obtain ⟨r', k1, k2⟩ := hk _ _ h2
    exact ⟨u, σ, I', obs, r', h1, k1, h3, h4, h5, h6, k2 _ _ _ _ h7⟩⟩

/-- what l says, l' says -/
def LLe (l l' : L) : Prop := ∀ (w : World) (I : Nat → Prop) (u : Value), l.rd w I u → l'.rd w I u
theorem LLe.refl (l : L) : LLe l l := fun _ _ _ h => h
theorem LLe.of_eq {l l' : L} (h : l = l') : LLe l l' := h ▸ LLe.refl l
def ShL (n sz : Nat) (f g : Nat → Nat → L) : Prop := ∀ k, k < n → ∀ j, j < sz → LLe (f k j) (g k j)
theorem Sh.shL {n sz : Nat} {f g : Nat → Nat → L} (h : Sh n sz f g) : ShL n sz f g := fun k hk j hj => LLe.of_eq (h k hk j hj)
theorem LLe.sl {sz n : Nat} {f g : Nat → Nat → L} (h : ShL n sz f g) : LLe (.sl sz n f) (.sl sz n g) := fun w I u hr => by
  simp only [L.rd] at hr ⊢
  obtain ⟨A, cap, e, h1, h2, h3⟩ := hr
  refine ⟨A, cap, e, h1, h2, fun hn => ?_⟩
  obtain ⟨a, e1, hb, hc⟩ := h3 hn
  refine ⟨a, e1, hb, fun k hk j hj => ?_⟩
  obtain ⟨c, k1, k2⟩ := hc k hk j hj
  exact ⟨c, k1, h k hk j hj _ _ _ k2⟩
theorem Le1.l {l l' : L} (h : LLe l l') : Le1 (.c l) (.c l') := fun _ _ _ _ hd => by
  simp only [Den] at hd ⊢
  exact h _ _ _ hd
theorem Le1.xp {n : Nat} {f g : Nat → L} (h : ∀ j, j < n → LLe (f j) (g j)) : Le1 (.xp n f) (.xp n g) := fun _ _ _ _ hd => by
  simp only [Den] at hd ⊢
  obtain ⟨a, e, hb, hc⟩ := hd
  refine ⟨a, e, hb, fun j hj => ?_⟩
  obtain ⟨c, k1, k2⟩ := hc j hj
  exact ⟨c, k1, h j hj _ _ _ k2⟩
theorem Le1.fn {f : FuncId} {as' as : List AV} (h : Le as' as) : Le1 (.fn f as') (.fn f as) := fun σ I w v hd => by
  simp only [Den] at hd ⊢
  obtain ⟨us, e, h1⟩ := hd
  exact ⟨us, e, h _ _ _ _ h1⟩

theorem tupIII {a b c a' b' c' : Int} (h : a = a') (k : b = b') (l : c = c') : AV.tup [intV a, intV b, intV c] = AV.tup [intV a', intV b', intV c'] := by rw [h, k, l]

/-- how a table's entry is proved -/
theorem GOk.of {P : Program} {f : FuncId} {g : List AV → Sd × AV} (h : ∀ args, (g args).1.ok → Fn1 P f args (g args).2) : ∀ args, (g args).1.ok → (g args).2.exact.isSome = true → Fn1 P f args (g args).2 := fun args hs _ => h args hs
def inB (n low high : Int) : Bool := decide (n ≥ low) && decide (n ≤ high)
def s3 (f : Int → Int → Int → Bool) : List AV → Sd × AV
  | [.c (.v (.int .i64 a)), .c (.v (.int .i64 b)), .c (.v (.int .i64 c))] => (.t, boolV (f a b c))
  | _ => (.p False, .top)
theorem s3_ok {P : Program} {f : FuncId} {g : Int → Int → Int → Bool} (h : ∀ a b c, Fn1 P f [intV a, intV b, intV c] (boolV (g a b c))) : ∀ args, (s3 g args).1.ok → (s3 g args).2.exact.isSome = true → Fn1 P f args (s3 g args).2 := fun args hs _ => by
  unfold s3 at hs ⊢
  split at hs
  · exact h _ _ _
  · exact hs.elim

/-- what turns tests into facts -/
theorem BL : (∀ n low high : Int, inB n low high = (decide (n ≥ low) && decide (n ≤ high))) ∧ (∀ (p : Prop) [Decidable p], (decide p = true) = p) ∧ (∀ (p : Prop) [Decidable p], (decide p = false) = ¬p) ∧
    (∀ a b : Bool, ((a && b) = true) = (a = true ∧ b = true)) ∧ (∀ a b : Bool, ((a || b) = true) = (a = true ∨ b = true)) ∧ (∀ a b : Bool, ((a && b) = false) = (a = false ∨ b = false)) ∧ (∀ a b : Bool, ((a || b) = false) = (a = false ∧ b = false)) ∧
    (∀ a : Bool, ((!a) = true) = (a = false)) ∧ (∀ a : Bool, ((!a) = false) = (a = true)) ∧
    (∀ a b : Int, ((a != b) = true) = ¬(a = b)) ∧ (∀ a b : Int, ((a == b) = true) = (a = b)) ∧ (∀ a b : Int, ((a == b) = false) = ¬(a = b)) ∧ (∀ a b : Int, ((a != b) = false) = (a = b)) ∧
    (∀ a b : Bool, ((a != b) = true) = ¬(a = b)) ∧ (∀ a b : Bool, ((a == b) = true) = (a = b)) ∧ (∀ a b : Bool, ((a == b) = false) = ¬(a = b)) ∧ (∀ a b : Bool, ((a != b) = false) = (a = b)) ∧
    (∀ a : Bool, (!!a) = a) ∧ (∀ n : Nat, (n : Int).toNat = n) ∧ (∀ a b : Int, (a ≠ b) = ¬(a = b)) := by
  refine ⟨fun _ _ _ => rfl, fun p _ => by simp, fun p _ => by simp, ?_, ?_, fun a b => by cases a <;> cases b <;> simp, ?_, ?_, ?_, ?_, ?_, ?_, ?_, ?_, ?_, ?_, ?_, ?_, fun n => Int.toNat_natCast n, fun _ _ => rfl⟩ <;> intros <;> simp
theorem DL : (∀ p : Nat → Int, d0 (c1 p) = p) ∧ (∀ p q : Nat → Int, d0 (c2 p q) = p) ∧ (∀ p q : Nat → Int, d1 (c2 p q) = q) ∧ (∀ p : Nat → ByteArray, dS (cS p) = p) ∧ (∀ p : Nat → Bool, dB (cB p) = p) :=
  ⟨fun _ => rfl, fun _ _ => rfl, fun _ _ => rfl, fun _ => rfl, fun _ => rfl⟩

/-- four small facts under one name (a linter tells each unused name of a 'simp' apart) -/
theorem NLc : (∀ n : Nat, ((n : Int)).toNat = n) ∧ ((0 : Int).toNat = 0) ∧ (∀ n : Nat, n - 0 = n) ∧ (∀ n : Nat, 0 + n = n) := ⟨fun _ => rfl, rfl, fun _ => rfl, Nat.zero_add⟩
/-- a nil slice in a slot is looked at as an own row without elements -/
def nilUp (S : AS) (t e sz : Nat) : AS := ⟨(t, .own S.obs.length) :: S.fr, S.obs ++ [.row e sz 0 true fun _ _ => .v undef]⟩
def nilUpC (S : AS) (i off e sz : Nat) : AS := ⟨S.fr, (match S.obs[i]? with
  | some (.box cs) => S.obs.set i (.box (cs.set off (.own S.obs.length)))
  | _ => S.obs) ++ [.row e sz 0 true fun _ _ => .v undef]⟩
section
variable {w0 : Env} {w : World} {I0 I : Nat → Prop} {S : AS} {σ : Asg} {tm : Array Value}
theorem Rel.nilUp (h : Rel w0 I0 S σ I tm w) {t : Nat} (e sz : Nat) (ht : fget S.fr t = .c (.v (.slice none 0 0))) : Rel w0 I0 (nilUp S t e sz) (σ.ext none (.slice none 0 0)) I tm w := by
  have hs := h.snoc (Same.refl w) (b := none) (v := .slice none 0 0) (o := .row e sz 0 true fun _ _ => .v undef) (fun x e => by cases e) ⟨.inl ⟨rfl, ⟨none, by simp [Asg.ext]⟩, by simp [Asg.ext]⟩, fun _ _ _ => rfl⟩
  have hc := h.st.cnt
  refine ⟨hs.same0, hs.st, fun t' => ?_, hs.i1, hs.i2, hs.sz⟩
  have hf := h.fr t
  simp only [Go.Proofs.YtjfnhehjhicnoaaDoor.nilUp, fget]
  by_cases hh : t = t'
  · subst hh
    rw [if_pos rfl]
    rw [ht] at hf
    simp only [Den, L.rd] at hf ⊢
    rw [hf.1]
    exact ⟨by simp [Asg.ext, hc], by simp [Asg.ext, hc], rfl⟩
  · rw [if_neg hh]; exact hs.fr t'
theorem Rel.nilUpC (h : Rel w0 I0 S σ I tm w) {i off : Nat} (e sz : Nat) {cs : List AV} (ho : S.obs[i]? = some (.box cs)) (ht : cs[off]? = some (.c (.v (.slice none 0 0)))) : Rel w0 I0 (nilUpC S i off e sz) (σ.ext none (.slice none 0 0)) I tm w := by
  have hs := h.snoc (Same.refl w) (b := none) (v := .slice none 0 0) (o := .row e sz 0 true fun _ _ => .v undef) (fun x e => by cases e) ⟨.inl ⟨rfl, ⟨none, by simp [Asg.ext]⟩, by simp [Asg.ext]⟩, fun _ _ _ => rfl⟩
  have hc := h.st.cnt
  have hil : i < S.obs.length := (List.getElem?_eq_some_iff.1 ho).1
  have ho' : (S.obs ++ [OB.row e sz 0 true fun _ _ => .v undef])[i]? = some (.box cs) := by rw [List.getElem?_append_left hil]; exact ho
  obtain ⟨b, us, ty, h1, h2, h3, h4⟩ := hs.st.obj i _ ho'
  have hu := hs.upd (S := { S with obs := S.obs ++ [.row e sz 0 true fun _ _ => .v undef] }) (b := b) ho' rfl h1 rfl rfl rfl (Nat.le_refl _) (fun _ _ _ => rfl) (o' := .box (cs.set off (.own S.obs.length))) (by
    obtain ⟨u, q1, q2⟩ := h3.get off _ ht
    simp only [Den, L.rd] at q2
    have : us.set off u = us := by
      apply List.ext_getElem?
      intro m
      by_cases hm : off = m
      · subst hm; rw [List.getElem?_set_self (List.getElem?_eq_some_iff.1 q1).1, q1]
      · rw [List.getElem?_set_ne hm]
    refine ⟨b, us, ty, h1, h2, ?_, h4⟩
    rw [← this]
    refine h3.set off ?_
    simp only [Den]
    rw [q2.1]
    exact ⟨by simp [Asg.ext, hc], by simp [Asg.ext, hc], rfl⟩)
  have e1 : Go.Proofs.YtjfnhehjhicnoaaDoor.nilUpC S i off e sz = { S with obs := (S.obs ++ [OB.row e sz 0 true fun _ _ => .v undef]).set i (.box (cs.set off (.own S.obs.length))) } := by
    simp only [Go.Proofs.YtjfnhehjhicnoaaDoor.nilUpC, ho]
    rw [List.set_append_left _ _ hil]
  rw [e1]
  exact hu
end
theorem LoopG.nil {P : Program} {N : Nat} {c : Code} {S : AS} {K : Ex → AS → Prop} (t e sz : Nat) (ht : fget S.fr t = .c (.v (.slice none 0 0))) (h : LoopG P N c (nilUp S t e sz) K) : LoopG P N c S K :=
  ⟨fun w0 I0 σ I a w hd hN hr => h.sem w0 I0 _ I a w hd hN (hr.nilUp e sz ht)⟩
theorem LoopG.nilC {P : Program} {N : Nat} {c : Code} {S : AS} {K : Ex → AS → Prop} (i off e sz : Nat) {cs : List AV} (ho : S.obs[i]? = some (.box cs)) (ht : cs[off]? = some (.c (.v (.slice none 0 0)))) (h : LoopG P N c (nilUpC S i off e sz) K) : LoopG P N c S K :=
  ⟨fun w0 I0 σ I a w hd hN hr => h.sem w0 I0 _ I a w hd hN (hr.nilUpC e sz ho ht)⟩
theorem LoopG.frz {P : Program} {N : Nat} {c : Code} {S : AS} {K : Ex → AS → Prop} (ids : List Nat) (h : LoopG P N c (frzS S ids) K) : LoopG P N c S K :=
  ⟨fun w0 I0 σ I a w hd hN hr => h.sem w0 I0 _ _ a w hd hN (hr.frz ids)⟩
theorem mulLe {n b : Nat} (hb : b ≤ 4096) (hn : n ≤ 34359738368) : n * b ≤ 140737488355328 := by
  have := Nat.mul_le_mul hn hb
  omega
theorem mulLe2 {n : Int} {b : Nat} (hb : b ≤ 4096) (h0 : 0 ≤ n) (hn : n ≤ 34359738368) : (b : Int) * n ≤ 281474976710656 := by
  have h1 : (b : Int) * n ≤ 4096 * n := Int.mul_le_mul_of_nonneg_right (by omega) h0
  omega
end Go.Proofs.YtjfnhehjhicnoaaDoor
