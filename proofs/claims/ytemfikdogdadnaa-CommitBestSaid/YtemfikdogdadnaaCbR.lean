/-
  commit: the ways in terms of single generators.
-/
import Derived.Test.YtemfikdogdadnaaCbU
import Derived.Test.YtemfikdogdadnaaDsgW
namespace Go.Proofs.Ytemfikdogdadnaa
open Go.RowKit

theorem Fn.nilR {P : Program} {f : FuncId} {args : List AV} {K K' : List OB → AV → Prop} (e0 sz : Nat) (h : Fn P f args K)
    (hk : ∀ obs r, K obs r → K' obs r ∨ (r = .c (.v (.slice none 0 0)) ∧ ∃ g, K' (obs ++ [.row e0 sz 0 false g]) (.own obs.length))) : Fn P f args K' :=
  ⟨h.1, fun w I vs hI hd => (h.2 w I vs hI hd).mono fun e w' ⟨u, σ, I', obs, r, h1, h2, h3, h4, h5, h6, h7⟩ => by
    rcases hk obs r h2 with h8 | ⟨rfl, g, h8⟩
    · exact ⟨u, σ, I', obs, r, h1, h8, h3, h4, h5, h6, h7⟩
    · have hrel : Rel ⟨w, fun b => w.heap.size ≤ b, fun _ => undef, fun _ h => h⟩ I ⟨[], obs⟩ σ I' #[] w' := ⟨⟨h3.os, h3.tape, h3.output, h3.size, fun b hb _ => h3.block b hb⟩, h6, fun t => by simp only [fget, Den], h4, h5, Nat.zero_le _⟩
      have hs := hrel.snoc (Same.refl w') (b := none) (v := .slice none 0 0) (o := .row e0 sz 0 false g) (fun x e => by cases e) ⟨.inl ⟨rfl, ⟨none, by simp [Asg.ext]⟩, by simp [Asg.ext]⟩, fun h => Bool.noConfusion h⟩
      have hc := h6.cnt
      simp only [Den, L.rd] at h7
      exact ⟨u, _, I', _, _, h1, h8, h3, h4, h5, hs.st, by simp only [Den]; rw [h7.1]; exact ⟨by simp [Asg.ext, hc], by simp [Asg.ext, hc], rfl⟩⟩⟩
/-- the states of all generators -/
structure Plc where
  on : Nat → Bool
  si : Nat → Int
/-- the way to a place: its cost, the powers of the periods -/
structure Way where
  q : Plc
  c : Int
  m : Nat
  p : Nat → Nat → Int
  f : Nat → Nat → L
/-- a row of powers is put behind -/
def apF (n m : Nat) (f : Nat → Nat → L) (g : Nat → Int) : Nat → Nat → L := fun k j => if k < m then f k j else ([L.sl 1 n (c1 g)][(k - m) * 1 + j]?).getD (.v undef)
abbrev plA (q : Plc) : List AV := [boolV (q.on 0), intV (q.si 0), boolV (q.on 1), intV (q.si 1), boolV (q.on 2), intV (q.si 2)]
abbrev wyC (w : Way) : List AV := [boolV (w.q.on 0), intV (w.q.si 0), boolV (w.q.on 1), intV (w.q.si 1), boolV (w.q.on 2), intV (w.q.si 2), intV w.c, .c (.sl 1 w.m w.f)]
def wyL (w : Way) : List L := [bL (w.q.on 0), iL (w.q.si 0), bL (w.q.on 1), iL (w.q.si 1), bL (w.q.on 2), iL (w.q.si 2), iL w.c, .sl 1 w.m w.f]
def way0 : Way := ⟨⟨fun _ => false, fun _ => 0⟩, 0, 0, fun _ _ => 0, fun _ _ => .v (.slice none 0 0)⟩
def cWy (ws : List Way) : Nat → Nat → L := fun k j => (wyL (ws.getD k way0)).getD j .un
abbrev rWy (ws : List Way) : OB := .row 127 8 ws.length false (cWy ws)
/-- the place after a period, the first i generators -/
def nxt (o : Nat → Bool) (q : Plc) (i : Nat) : Plc := ⟨fun k => if k < i then o k else q.on k, fun k => if k < i then (if o k = q.on k then min (q.si k + 1) 200000 else 1) else q.si k⟩
def okU (u : CuR) (o b : Bool) (s : Int) : Bool := o == b || decide (s ≥ if b then u.r.mi else u.r.mf)
def okW (u : Nat → CuR) (o : Nat → Bool) (q : Plc) : Nat → Bool
  | 0 => true
  | i + 1 => okW u o q i && okU (u i) (o i) (q.on i) (q.si i)
def stU (u : CuR) (o b : Bool) : Int := if o && !b then u.r.st else 0
def stW (u : Nat → CuR) (o : Nat → Bool) (q : Plc) (i : Nat) : Int := S (fun k => stU (u k) (o k) (q.on k)) i
def nxW (G : Cgx) (w : Way) (o : Nat → Bool) (d : Int) : Way := ⟨nxt o w.q G.n, w.c + stW G.u o w.q G.n + G.sC o d, w.m + 1, fun t => if t < w.m then w.p t else G.sP o d, apF G.n w.m w.f (G.sP o d)⟩
def fol (G : Cgx) (w : Way) (d : Int) : Nat → List Way
  | 0 => []
  | b + 1 => if (okW G.u (fun k => b.testBit k) w.q G.n && G.can (fun k => b.testBit k) d) = true then fol G w d b ++ [nxW G w (fun k => b.testBit k) d] else fol G w d b
theorem fol_len (G : Cgx) (w : Way) (d : Int) : ∀ b, (fol G w d b).length ≤ b
  | 0 => Nat.le_refl _
  | b + 1 => by
    have := fol_len G w d b
    unfold fol
    split <;> simp <;> omega
structure Way.ok (w : Way) : Prop where
  m : w.m ≤ 8
  c : -100000000000000 ≤ w.c ∧ w.c ≤ 100000000000000
  s : ∀ k, 0 ≤ w.q.si k ∧ w.q.si k ≤ 200000
theorem bitC : ∀ i : Nat, i < 3 → ∀ a : Nat, a < 8 → (andI .i64 (shrI .i64 (a : Int) (i : Int)) 1 == 1) = a.testBit i := by decide +kernel
abbrev rRw (m : Nat) (f : Nat → Nat → L) : OB := .row 51 1 m false f
theorem cbCl0 (m : Nat) (f : Nat → Nat → L) (hm : m ≤ 1000) : Fn Try.prog 86 [.c (.sl 1 m f)] (fun obs r => (obs = [rRw m f] ∧ r = .own 0) ∨ (m = 0 ∧ obs = [] ∧ r = .c (.v (.slice none 0 0)))) := by
  refine fn_of_wpx (O := lex) tab_ok (Γ := fun _ => none) (fun _ _ h => by cases h) mixed Try.func86 (by kernel_rfl) rfl rfl rfl (by simp [Try.ntmps86]) (by kernel_rfl) ?_
  conv => whnf
  repeat' (first
    | (refine NilG.mk fun bn hbn hbx => ?_; conv => whnf)
    | (refine Both.mk ?_ ?_ <;> conv => whnf)
    | ((first | (refine MkG.box 1 rfl rfl rfl (by decide) ?_) | (refine MkG.box 2 rfl rfl rfl (by decide) ?_) | (refine MkG.box 3 rfl rfl rfl (by decide) ?_) | (refine MkG.row ?_)); conv => whnf)
    | exact trivial
    | (refine Br.mk (fun hb => ?_) (fun hb => ?_) <;> (first | (exfalso; revert hb; decide) | ((try simp only [BL] at hb) <;> (try simp only [DL] at hb) <;> conv => whnf)))
    | (refine And.intro ?_ ?_; (focus (first | exact id | exact rfl | exact trivial | (intro hg; first | exact hg | exact rfl | (simp; done) | (simp at hg ⊢; assumption)) | omega | decide | exact is2_c _ _ _ | exact is1_c _ _ | exact isS_c _ _ | exact isB_c _ _ | exact Nat.le_refl _ | assumption | exact mulLe (by decide) (by omega) | exact mulLe2 (by decide) (by omega) (by omega) | (intros; simp only [BL] at *; omega) | (intros; (try simp only [BL] at *); (try simp only [DL] at *); omega) | (intros; simp only [BL] at *; rw [wr_id (by omega) (by omega)]; omega) | (intro h1 h2; exact Bool.and_eq_true_iff.2 ⟨h1, h2⟩) | (intros; simp_all; done))); conv => whnf)
    | (refine Or.inr (And.intro rfl ?_); first | (refine congrArg intV ?_) | (refine congrArg boolV ?_) | (refine tupII ?_ ?_) | (refine tupIII ?_ ?_ ?_) | (refine tupU ?_ ?_ ?_ ?_ ?_) | exact rfl))
  · exact .inr (.inr ⟨hbn (by simpa using hb), rfl, rfl⟩)
  · refine .inl ⟨[1], [rRw m f], .own 0, rfl, ?_, rfl, rfl, .inl ⟨rfl, rfl⟩⟩
    repeat' (first | (refine And.intro ?_ ?_) | exact trivial | exact rfl | exact (Nat.zero_add _).symm | exact fun h => Bool.noConfusion h | exact fun _ _ _ _ => rfl | omega)
theorem cbCl (m : Nat) (f : Nat → Nat → L) (hm : m ≤ 1000) : Fn Try.prog 86 [.c (.sl 1 m f)] (fun obs r => obs = [rRw m f] ∧ r = .own 0) :=
  (cbCl0 m f hm).nilR 51 1 fun obs r h => by
    rcases h with ⟨rfl, rfl⟩ | ⟨rfl, rfl, rfl⟩
    · exact .inl ⟨rfl, rfl⟩
    · exact .inr ⟨rfl, f, rfl, rfl⟩
end Go.Proofs.Ytemfikdogdadnaa

namespace Go.Proofs.Ytemfikdogdadnaa
open Go.RowKit

/-- the same place -/
def eqQ (a b : Plc) : Bool := decide (a.on 0 = b.on 0 ∧ a.si 0 = b.si 0 ∧ a.on 1 = b.on 1 ∧ a.si 1 = b.si 1 ∧ a.on 2 = b.on 2 ∧ a.si 2 = b.si 2)
theorem eqQ_iff {a b : Plc} : eqQ a b = true ↔ (a.on 0 = b.on 0 ∧ a.si 0 = b.si 0 ∧ a.on 1 = b.on 1 ∧ a.si 1 = b.si 1 ∧ a.on 2 = b.on 2 ∧ a.si 2 = b.si 2) := decide_eq_true_iff
theorem eqQ_at {a b : Plc} (h : eqQ a b = true) {k : Nat} (hk : k < 3) : a.on k = b.on k ∧ a.si k = b.si k := by
  obtain ⟨h1, h2, h3, h4, h5, h6⟩ := eqQ_iff.1 h
  match k, hk with
  | 0, _ => exact ⟨h1, h2⟩
  | 1, _ => exact ⟨h3, h4⟩
  | 2, _ => exact ⟨h5, h6⟩
theorem eqQ_of {a b : Plc} (h : ∀ k, k < 3 → a.on k = b.on k ∧ a.si k = b.si k) : eqQ a b = true := eqQ_iff.2 ⟨(h 0 (by decide)).1, (h 0 (by decide)).2, (h 1 (by decide)).1, (h 1 (by decide)).2, (h 2 (by decide)).1, (h 2 (by decide)).2⟩
theorem eqQ_refl (a : Plc) : eqQ a a = true := eqQ_of fun _ _ => ⟨rfl, rfl⟩
theorem eqQ_symm {a b : Plc} (h : eqQ a b = true) : eqQ b a = true := eqQ_of fun k hk => ⟨(eqQ_at h hk).1.symm, (eqQ_at h hk).2.symm⟩
theorem eqQ_trans {a b c : Plc} (h : eqQ a b = true) (g : eqQ b c = true) : eqQ a c = true := eqQ_of fun k hk => ⟨(eqQ_at h hk).1.trans (eqQ_at g hk).1, (eqQ_at h hk).2.trans (eqQ_at g hk).2⟩
/-- a way is put in: at its place's place if it is cheaper, or behind -/
def insW (ws : List Way) (x : Way) : List Way := match ws.findIdx? (fun w => eqQ w.q x.q) with
  | none => ws ++ [x]
  | some i => if x.c < (ws.getD i way0).c then ws.set i x else ws
def insL (ws xs : List Way) : List Way := xs.foldl insW ws
def stpW (G : Cgx) (d : Int) (ws : List Way) : List Way := ws.foldl (fun acc w => insL acc (fol G w d (2 ^ G.n))) []
def dpW (G : Cgx) (D : Nat → Int) (w0 : Way) : Nat → List Way
  | 0 => [w0]
  | t + 1 => stpW G (D t) (dpW G D w0 t)
theorem insW_len (ws : List Way) (x : Way) : (insW ws x).length ≤ ws.length + 1 := by
  unfold insW
  split
  · simp
  · split <;> simp
theorem insL_len : ∀ (xs ws : List Way), (insL ws xs).length ≤ ws.length + xs.length
  | [], ws => by simp [insL]
  | x :: xs, ws => by
    have h1 := insL_len xs (insW ws x)
    have h2 := insW_len ws x
    show (insL (insW ws x) xs).length ≤ _
    simp only [List.length_cons]
    omega
theorem stp_foldlen (G : Cgx) (d : Int) (hn : 2 ^ G.n ≤ 8) : ∀ (ws acc : List Way), (ws.foldl (fun acc w => insL acc (fol G w d (2 ^ G.n))) acc).length ≤ acc.length + 8 * ws.length
  | [], acc => by simp
  | w :: ws, acc => by
    have h1 := stp_foldlen G d hn ws (insL acc (fol G w d (2 ^ G.n)))
    have h2 := insL_len (fol G w d (2 ^ G.n)) acc
    have h3 := fol_len G w d (2 ^ G.n)
    simp only [List.foldl_cons, List.length_cons]
    omega
theorem dpW_len (G : Cgx) (D : Nat → Int) (w0 : Way) (hn : 2 ^ G.n ≤ 8) : ∀ t, (dpW G D w0 t).length ≤ 8 ^ t
  | 0 => by simp [dpW]
  | t + 1 => by
    have h1 := dpW_len G D w0 hn t
    have h2 := stp_foldlen G (D t) hn (dpW G D w0 t) []
    show (stpW G (D t) (dpW G D w0 t)).length ≤ _
    unfold stpW
    simp only [List.length_nil] at h2
    have : 8 ^ (t + 1) = 8 * 8 ^ t := Nat.pow_succ'
    omega
theorem insW_mem {ws : List Way} {x w : Way} (h : w ∈ insW ws x) : w ∈ ws ∨ w = x := by
  unfold insW at h
  split at h
  · rcases List.mem_append.1 h with h | h
    · exact .inl h
    · exact .inr (List.mem_singleton.1 h)
  · split at h
    · rcases List.mem_or_eq_of_mem_set h with h | h
      · exact .inl h
      · exact .inr h
    · exact .inl h
theorem insL_mem : ∀ {xs ws : List Way} {w : Way}, w ∈ insL ws xs → w ∈ ws ∨ w ∈ xs
  | [], _, _, h => .inl h
  | x :: xs, ws, w, h => by
    rcases insL_mem (xs := xs) h with h | h
    · rcases insW_mem h with h | rfl
      · exact .inl h
      · exact .inr (List.mem_cons_self ..)
    · exact .inr (List.mem_cons_of_mem _ h)
theorem stpW_mem {G : Cgx} {d : Int} : ∀ {ws acc : List Way} {x : Way}, x ∈ ws.foldl (fun acc w => insL acc (fol G w d (2 ^ G.n))) acc → x ∈ acc ∨ ∃ w ∈ ws, x ∈ fol G w d (2 ^ G.n)
  | [], _, _, h => .inl h
  | w :: ws, acc, x, h => by
    rcases stpW_mem (ws := ws) h with h | ⟨w', h1, h2⟩
    · rcases insL_mem h with h | h
      · exact .inl h
      · exact .inr ⟨w, List.mem_cons_self .., h⟩
    · exact .inr ⟨w', List.mem_cons_of_mem _ h1, h2⟩
theorem fol_mem {G : Cgx} {w : Way} {d : Int} {x : Way} : ∀ {b : Nat}, x ∈ fol G w d b → ∃ a, a < b ∧ okW G.u (fun k => a.testBit k) w.q G.n = true ∧ G.can (fun k => a.testBit k) d = true ∧ x = nxW G w (fun k => a.testBit k) d
  | 0, h => by cases h
  | b + 1, h => by
    unfold fol at h
    split at h
    · rename_i hc
      rw [Bool.and_eq_true] at hc
      rcases List.mem_append.1 h with h | h
      · obtain ⟨a, h1, h2⟩ := fol_mem h
        exact ⟨a, by omega, h2⟩
      · exact ⟨b, Nat.lt_succ_self b, hc.1, hc.2, List.mem_singleton.1 h⟩
    · obtain ⟨a, h1, h2⟩ := fol_mem h
      exact ⟨a, by omega, h2⟩
theorem mem_fol {G : Cgx} {w : Way} {d : Int} {a : Nat} (h1 : okW G.u (fun k => a.testBit k) w.q G.n = true) (h2 : G.can (fun k => a.testBit k) d = true) : ∀ {b : Nat}, a < b → nxW G w (fun k => a.testBit k) d ∈ fol G w d b
  | 0, h => absurd h (Nat.not_lt_zero a)
  | b + 1, h => by
    unfold fol
    rcases Nat.lt_succ_iff_lt_or_eq.1 h with h | rfl
    · have := mem_fol h1 h2 h
      split
      · exact List.mem_append_left _ this
      · exact this
    · rw [h1, h2]
      exact List.mem_append_right _ (List.mem_singleton.2 rfl)
/-- some way in the list is at this place and costs no more -/
def domW (ws : List Way) (q : Plc) (c : Int) : Prop := ∃ w ∈ ws, eqQ w.q q = true ∧ w.c ≤ c
theorem dom_ins {ws : List Way} {x : Way} {q : Plc} {c : Int} (h : domW ws q c) : domW (insW ws x) q c := by
  obtain ⟨w, h1, h2, h3⟩ := h
  unfold insW
  split
  · exact ⟨w, List.mem_append_left _ h1, h2, h3⟩
  · rename_i i hi
    split
    · rename_i hlt
      obtain ⟨hil, hpi, -⟩ := List.findIdx?_eq_some_iff_getElem.1 hi
      obtain ⟨j, hj, rfl⟩ := List.mem_iff_getElem.1 h1
      by_cases e : j = i
      · subst e
        refine ⟨x, List.mem_iff_getElem.2 ⟨j, by simpa using hj, by simp⟩, eqQ_trans (eqQ_symm hpi) h2, ?_⟩
        rw [List.getD_eq_getElem?_getD, List.getElem?_eq_getElem hj] at hlt
        have hlt : x.c < (ws[j]).c := hlt
        omega
      · exact ⟨ws[j], List.mem_iff_getElem.2 ⟨j, by simpa using hj, by rw [List.getElem_set_ne (fun h => e h.symm)]⟩, h2, h3⟩
    · exact ⟨w, h1, h2, h3⟩
theorem dom_self (ws : List Way) (x : Way) : domW (insW ws x) x.q x.c := by
  unfold insW
  split
  · exact ⟨x, List.mem_append_right _ (List.mem_singleton.2 rfl), eqQ_refl _, Int.le_refl _⟩
  · rename_i i hi
    obtain ⟨hil, hpi, -⟩ := List.findIdx?_eq_some_iff_getElem.1 hi
    split
    · exact ⟨x, List.mem_iff_getElem.2 ⟨i, by simpa using hil, by simp⟩, eqQ_refl _, Int.le_refl _⟩
    · rename_i hlt
      rw [List.getD_eq_getElem?_getD, List.getElem?_eq_getElem hil] at hlt
      have hlt : ¬ x.c < (ws[i]).c := hlt
      exact ⟨ws[i], List.getElem_mem hil, hpi, by omega⟩
theorem dom_insL : ∀ {xs ws : List Way} {q : Plc} {c : Int}, domW ws q c → domW (insL ws xs) q c
  | [], _, _, _, h => h
  | x :: xs, ws, q, c, h => dom_insL (xs := xs) (dom_ins h)
theorem dom_insL_mem : ∀ {xs ws : List Way} {x : Way}, x ∈ xs → domW (insL ws xs) x.q x.c
  | y :: xs, ws, x, h => by
    show domW (insL (insW ws y) xs) _ _
    rcases List.mem_cons.1 h with rfl | h
    · exact dom_insL (dom_self ws x)
    · exact dom_insL_mem h
theorem dom_stp {G : Cgx} {d : Int} : ∀ {ws acc : List Way} {q : Plc} {c : Int}, domW acc q c → domW (ws.foldl (fun acc w => insL acc (fol G w d (2 ^ G.n))) acc) q c
  | [], _, _, _, h => h
  | w :: ws, acc, q, c, h => dom_stp (ws := ws) (dom_insL h)
theorem dom_stp_mem {G : Cgx} {d : Int} : ∀ {ws acc : List Way} {w x : Way}, w ∈ ws → x ∈ fol G w d (2 ^ G.n) → domW (ws.foldl (fun acc w => insL acc (fol G w d (2 ^ G.n))) acc) x.q x.c
  | v :: ws, acc, w, x, h, hx => by
    simp only [List.foldl_cons]
    rcases List.mem_cons.1 h with rfl | h
    · exact dom_stp (dom_insL_mem hx)
    · exact dom_stp_mem h hx
/-- the way of a list of patterns, the last one first -/
def wyB (G : Cgx) (D : Nat → Int) (w0 : Way) : List Nat → Way
  | [] => w0
  | b :: B => nxW G (wyB G D w0 B) (fun k => b.testBit k) (D B.length)
def feB (G : Cgx) (D : Nat → Int) (w0 : Way) : List Nat → Prop
  | [] => True
  | b :: B => feB G D w0 B ∧ b < 2 ^ G.n ∧ okW G.u (fun k => b.testBit k) (wyB G D w0 B).q G.n = true ∧ G.can (fun k => b.testBit k) (D B.length) = true
theorem dpW_at {G : Cgx} {D : Nat → Int} {w0 : Way} : ∀ {t : Nat} {w : Way}, w ∈ dpW G D w0 t → ∃ B, B.length = t ∧ feB G D w0 B ∧ w = wyB G D w0 B
  | 0, w, h => ⟨[], rfl, trivial, List.mem_singleton.1 h⟩
  | t + 1, w, h => by
    rcases stpW_mem (ws := dpW G D w0 t) h with h | ⟨v, h1, h2⟩
    · cases h
    · obtain ⟨B, b1, b2, rfl⟩ := dpW_at h1
      obtain ⟨a, a1, a2, a3, rfl⟩ := fol_mem h2
      subst b1
      exact ⟨a :: B, rfl, ⟨b2, a1, a2, a3⟩, rfl⟩
theorem okW_congr {u : Nat → CuR} {o : Nat → Bool} {q q' : Plc} : ∀ {i : Nat}, (∀ k, k < i → q.on k = q'.on k ∧ q.si k = q'.si k) → okW u o q i = okW u o q' i
  | 0, _ => rfl
  | i + 1, h => by
    show (okW u o q i && okU _ _ _ _) = (okW u o q' i && okU _ _ _ _)
    rw [okW_congr fun k hk => h k (by omega), (h i (Nat.lt_succ_self i)).1, (h i (Nat.lt_succ_self i)).2]
theorem stW_congr {u : Nat → CuR} {o : Nat → Bool} {q q' : Plc} {i : Nat} (h : ∀ k, k < i → q.on k = q'.on k ∧ q.si k = q'.si k) : stW u o q i = stW u o q' i := S_congr fun k hk => by rw [(h k hk).1]
theorem nxt_congr {o : Nat → Bool} {q q' : Plc} {i : Nat} (h : eqQ q q' = true) : eqQ (nxt o q i) (nxt o q' i) = true := eqQ_of fun k hk => by
  obtain ⟨h1, h2⟩ := eqQ_at h hk
  unfold nxt
  dsimp only
  rw [h1, h2]
  exact ⟨rfl, rfl⟩
theorem dpW_dom {G : Cgx} (hn : G.n ≤ 3) {D : Nat → Int} {w0 : Way} : ∀ {B : List Nat}, feB G D w0 B → domW (dpW G D w0 B.length) (wyB G D w0 B).q (wyB G D w0 B).c
  | [], _ => ⟨w0, List.mem_singleton.2 rfl, eqQ_refl _, Int.le_refl _⟩
  | b :: B, ⟨h1, h2, h3, h4⟩ => by
    obtain ⟨w, g1, g2, g3⟩ := dpW_dom hn h1
    have hk : ∀ k, k < G.n → w.q.on k = (wyB G D w0 B).q.on k ∧ w.q.si k = (wyB G D w0 B).q.si k := fun k hk => eqQ_at g2 (by omega)
    have h5 : nxW G w (fun k => b.testBit k) (D B.length) ∈ fol G w (D B.length) (2 ^ G.n) := mem_fol (by rw [okW_congr hk]; exact h3) h4 h2
    obtain ⟨x, x1, x2, x3⟩ := dom_stp_mem (acc := []) g1 h5
    refine ⟨x, x1, eqQ_trans x2 (nxt_congr g2), Int.le_trans x3 ?_⟩
    show w.c + stW G.u _ w.q G.n + _ ≤ (wyB G D w0 B).c + stW G.u _ (wyB G D w0 B).q G.n + _
    rw [stW_congr hk]
    omega
/-- the first of the cheapest ways among the first i -/
def lsW (ws : List Way) : Nat → Way
  | 0 => ws.getD 0 way0
  | i + 1 => if (ws.getD i way0).c < (lsW ws i).c then ws.getD i way0 else lsW ws i
theorem lsW_mem {ws : List Way} (h : 0 < ws.length) : ∀ {i}, i ≤ ws.length → lsW ws i ∈ ws
  | 0, _ => by
    show ws.getD 0 way0 ∈ ws
    rw [List.getD_eq_getElem?_getD, List.getElem?_eq_getElem h]
    exact List.getElem_mem h
  | i + 1, hi => by
    unfold lsW
    split
    · rw [List.getD_eq_getElem?_getD, List.getElem?_eq_getElem (by omega)]
      exact List.getElem_mem _
    · exact lsW_mem h (by omega)
theorem lsW_le {ws : List Way} : ∀ {i}, ∀ k, k < i → (lsW ws i).c ≤ (ws.getD k way0).c
  | 0, k, hk => absurd hk (Nat.not_lt_zero k)
  | i + 1, k, hk => by
    unfold lsW
    rcases Nat.lt_succ_iff_lt_or_eq.1 hk with hk | rfl
    · have := lsW_le k hk (ws := ws)
      split
      · omega
      · exact this
    · split
      · exact Int.le_refl _
      · omega
theorem stU_b {u : CuR} (h : cuE u = 0) (x y : Bool) : 0 ≤ stU u x y ∧ stU u x y ≤ 1000000 := by
  have := (cuE_zero h).2.1
  unfold okR at this
  unfold stU
  split <;> omega
theorem stW_b {G : Cgx} (h : G.ok) (o : Nat → Bool) (q : Plc) : ∀ i, i ≤ G.n → 0 ≤ stW G.u o q i ∧ stW G.u o q i ≤ 1000000 * i
  | 0, _ => by unfold stW; simp [S]
  | i + 1, hi => by
    have h1 := stW_b h o q i (by omega)
    have h2 := stU_b (h.v i (by omega)) (o i) (q.on i)
    have h3 : stW G.u o q (i + 1) = stW G.u o q i + stU (G.u i) (o i) (q.on i) := rfl
    omega
/-- the states at the beginning, of the first i generators -/
def ini (u : Nat → CuR) (i : Nat) : Plc := ⟨fun k => if k < i then (u k).on else false, fun k => if k < i then (u k).si else 0⟩
def wy0 (G : Cgx) : Way := ⟨ini G.u G.n, 0, 0, fun _ _ => 0, fun _ _ => .v (.slice none 0 0)⟩
theorem wyB_m {G : Cgx} {D : Nat → Int} : ∀ B, (wyB G D (wy0 G) B).m = B.length
  | [] => rfl
  | b :: B => congrArg (· + 1) (wyB_m B)
theorem wyB_c {G : Cgx} (h : G.ok) {D : Nat → Int} : ∀ B, -3700000000000 * (B.length : Int) ≤ (wyB G D (wy0 G) B).c ∧ (wyB G D (wy0 G) B).c ≤ 3700000000000 * (B.length : Int)
  | [] => ⟨Int.le_refl _, Int.le_refl _⟩
  | b :: B => by
    have h1 := wyB_c h (D := D) B
    have h2 := stW_b h (fun k => b.testBit k) (wyB G D (wy0 G) B).q G.n (Nat.le_refl _)
    have h3 := G.sC_b h (fun k => b.testBit k) (D B.length)
    have h4 := h.n3
    have e : (wyB G D (wy0 G) (b :: B)).c = (wyB G D (wy0 G) B).c + stW G.u (fun k => b.testBit k) (wyB G D (wy0 G) B).q G.n + G.sC (fun k => b.testBit k) (D B.length) := rfl
    rw [e]
    simp only [List.length_cons]
    omega
theorem wyB_s {G : Cgx} (h : G.ok) {D : Nat → Int} : ∀ B k, 0 ≤ (wyB G D (wy0 G) B).q.si k ∧ (wyB G D (wy0 G) B).q.si k ≤ 200000
  | [], k => by
    show 0 ≤ (if k < G.n then (G.u k).si else 0) ∧ (if k < G.n then (G.u k).si else 0) ≤ 200000
    by_cases hk : k < G.n
    · have := (cuE_zero (h.v k hk)).1
      rw [if_pos hk]
      unfold staE at this
      split at this
      · rename_i h1; exact absurd this h1
      · split at this
        · cases this
        · rename_i h2
          omega
    · rw [if_neg hk]; omega
  | b :: B, k => by
    have h1 := wyB_s h (D := D) B k
    show 0 ≤ (nxt (fun k => b.testBit k) (wyB G D (wy0 G) B).q G.n).si k ∧ (nxt (fun k => b.testBit k) (wyB G D (wy0 G) B).q G.n).si k ≤ 200000
    unfold nxt
    dsimp only
    split
    · split <;> omega
    · exact h1
theorem wyB_f {G : Cgx} {D : Nat → Int} : ∀ B k, k < B.length → (wyB G D (wy0 G) B).f k 0 = .sl 1 G.n (c1 ((wyB G D (wy0 G) B).p k))
  | [], k, hk => absurd hk (Nat.not_lt_zero k)
  | b :: B, k, hk => by
    have hm : (wyB G D (wy0 G) B).m = B.length := wyB_m B
    show apF G.n (wyB G D (wy0 G) B).m (wyB G D (wy0 G) B).f _ k 0 = .sl 1 G.n (c1 (if k < (wyB G D (wy0 G) B).m then _ else _))
    unfold apF
    rw [hm]
    by_cases h : k < B.length
    · rw [if_pos h, if_pos h]
      exact wyB_f B k h
    · have hk2 : k < B.length + 1 := hk
      obtain rfl : k = B.length := by omega
      rw [if_neg h, if_neg h, Nat.sub_self]
      rfl
theorem wyB_ok {G : Cgx} (h : G.ok) {D : Nat → Int} {B : List Nat} (hB : B.length ≤ 8) : (wyB G D (wy0 G) B).ok := by
  have h1 := wyB_c h (D := D) B
  exact ⟨by rw [wyB_m]; exact hB, by omega, wyB_s h B⟩
end Go.Proofs.Ytemfikdogdadnaa

namespace Go.Proofs.Ytemfikdogdadnaa
open Go.RowKit

abbrev plV (q : Plc) : Value := .agg #[.bool (q.on 0), .int .i64 (q.si 0), .bool (q.on 1), .int .i64 (q.si 1), .bool (q.on 2), .int .i64 (q.si 2)]
theorem plc_law : WideMaps.KeyLaw Try.prog 125 := deep_law (m := 5) (by decide) (by kernel_rfl) (by kernel_rfl) (by kernel_rfl)
theorem plc_map : Try.prog.underlying 129 = some (.map 125 3) := by kernel_rfl
theorem wf_i {n : Int} (h : 0 ≤ n ∧ n ≤ 200000) : (Lit.int .i64 n).wf = true := by
  have h1 : IntKind.i64.min = -9223372036854775808 := by decide
  have h2 : IntKind.i64.max = 9223372036854775807 := by decide
  simp only [Lit.wf, h1, h2, Bool.and_eq_true, decide_eq_true_eq]
  omega
theorem plc_u0 : Try.prog.underlying 125 = some (.array 3 123) := by kernel_rfl
def kN (n : Int) : Option (List Lit) := if IntKind.i64 = IntKind.i64 ∧ (Lit.int .i64 n).wf = true then some [Lit.int .i64 n] else none
def kP (b : Bool) (n : Int) : Option (List Lit) := ([some [Lit.bool b], kN n].mapM id).map List.flatten
theorem kP_ok {b : Bool} {n : Int} (h : (Lit.int .i64 n).wf = true) : kP b n = some [.bool b, .int .i64 n] := by
  unfold kP kN
  rw [if_pos ⟨rfl, h⟩]
  rfl
theorem plc_key {q : Plc} (h : ∀ k, 0 ≤ q.si k ∧ q.si k ≤ 200000) : ∃ l, keyOf Try.prog 125 (plV q) = some l := by
  have w0 := wf_i (h 0)
  have w1 := wf_i (h 1)
  have w2 := wf_i (h 2)
  have hk : (Try.prog.keyType 125) = true := by kernel_rfl
  have hf : (plV q).formed Try.prog 125 = true := by kernel_rfl
  have hl : ∃ l, Try.prog.keyLits (Try.prog.types.size + 1) 125 (plV q).cells.toList = some l := by
    refine ⟨[.bool (q.on 0), .int .i64 (q.si 0), .bool (q.on 1), .int .i64 (q.si 1), .bool (q.on 2), .int .i64 (q.si 2)], ?_⟩
    have e : Try.prog.keyLits (Try.prog.types.size + 1) 125 (plV q).cells.toList = ([kP (q.on 0) (q.si 0), kP (q.on 1) (q.si 1), kP (q.on 2) (q.si 2)].mapM id).map List.flatten := by kernel_rfl
    rw [e, kP_ok w0, kP_ok w1, kP_ok w2]
    rfl
  obtain ⟨l, hl⟩ := hl
  unfold keyOf
  rw [plc_u0]
  simp only [hk, hf, hl, Bool.and_self, if_true]
  exact ⟨_, rfl⟩
theorem plV_eq {a b : Plc} : plV a = plV b ↔ eqQ a b = true := by
  rw [eqQ_iff]
  constructor
  · intro h
    injection h with h
    have h := congrArg Array.toList h
    simp only [List.cons.injEq, Value.bool.injEq, Value.int.injEq, true_and, and_true] at h
    exact h
  · rintro ⟨h1, h2, h3, h4, h5, h6⟩
    show Value.agg _ = Value.agg _
    rw [h1, h2, h3, h4, h5, h6]
/-- the map's keys: each way's place, and where it stands -/
def kyL (ws : List Way) : List (Value × Value) := (List.range ws.length).map fun i => (plV (ws.getD i way0).q, .int .i64 (i : Int))
theorem kyL_mem {ws : List Way} {p : Value × Value} (h : p ∈ kyL ws) : ∃ i, i < ws.length ∧ p = (plV (ws.getD i way0).q, .int .i64 (i : Int)) := by
  obtain ⟨i, h1, rfl⟩ := List.mem_map.1 h
  exact ⟨i, List.mem_range.1 h1, rfl⟩
theorem getW {ws : List Way} {i : Nat} (h : i < ws.length) : ws.getD i way0 = ws[i] := by
  rw [List.getD_eq_getElem?_getD, List.getElem?_eq_getElem h]
  rfl
theorem kyL_app (ws : List Way) (x : Way) : kyL (ws ++ [x]) = kyL ws ++ [(plV x.q, .int .i64 (ws.length : Int))] := by
  unfold kyL
  rw [List.length_append, List.length_singleton, List.range_succ, List.map_append]
  congr 1
  · refine List.map_congr_left fun i hi => ?_
    have hi := List.mem_range.1 hi
    rw [getW (ws := ws ++ [x]) (by simp; omega), getW hi, List.getElem_append_left hi]
  · simp
theorem kyL_set {ws : List Way} {x : Way} {i : Nat} (hi : i < ws.length) (he : eqQ (ws.getD i way0).q x.q = true) : kyL (ws.set i x) = kyL ws := by
  unfold kyL
  rw [List.length_set]
  refine List.map_congr_left fun k hk => ?_
  have hk := List.mem_range.1 hk
  by_cases e : i = k
  · subst e
    rw [getW (ws := ws.set i x) (by simpa using hi), List.getElem_set_self, plV_eq.2 he]
  · rw [getW (ws := ws.set i x) (by simpa using hk), List.getElem_set_ne e, getW hk]
/-- no two ways are at one place -/
def difQ (ws : List Way) : Prop := ∀ i j, i < ws.length → j < ws.length → eqQ (ws.getD i way0).q (ws.getD j way0).q = true → i = j
theorem difQ_ins {ws : List Way} (h : difQ ws) (x : Way) : difQ (insW ws x) := by
  unfold insW
  cases hf : ws.findIdx? (fun w => eqQ w.q x.q) with
  | none =>
    have hn := List.findIdx?_eq_none_iff.1 hf
    intro i j hi hj he
    dsimp only at hi hj he
    rw [List.length_append, List.length_singleton] at hi hj
    by_cases h1 : i < ws.length
    · by_cases h2 : j < ws.length
      · rw [getW (ws := ws ++ [x]) (by simp; omega), getW (ws := ws ++ [x]) (by simp; omega), List.getElem_append_left h1, List.getElem_append_left h2, ← getW h1, ← getW h2] at he
        exact h i j h1 h2 he
      · obtain rfl : j = ws.length := by omega
        rw [getW (ws := ws ++ [x]) (by simp; omega), getW (ws := ws ++ [x]) (by simp), List.getElem_append_left h1] at he
        have := hn ws[i] (List.getElem_mem h1)
        simp at he
        rw [he] at this
        cases this
    · obtain rfl : i = ws.length := by omega
      by_cases h2 : j < ws.length
      · rw [getW (ws := ws ++ [x]) (by simp), getW (ws := ws ++ [x]) (by simp; omega), List.getElem_append_left h2] at he
        have := hn ws[j] (List.getElem_mem h2)
        simp at he
        rw [eqQ_symm he] at this
        cases this
      · omega
  | some k =>
    obtain ⟨hk, hp, -⟩ := List.findIdx?_eq_some_iff_getElem.1 hf
    dsimp only
    split
    · intro i j hi hj he
      rw [List.length_set] at hi hj
      have key : ∀ a, a < ws.length → eqQ ((ws.set k x).getD a way0).q (ws.getD a way0).q = true := fun a ha => by
        rw [getW (ws := ws.set k x) (by simpa using ha)]
        by_cases e : k = a
        · subst e
          rw [List.getElem_set_self, getW ha]
          exact eqQ_symm hp
        · rw [List.getElem_set_ne e, getW ha]
          exact eqQ_refl _
      exact h i j hi hj (eqQ_trans (eqQ_symm (key i hi)) (eqQ_trans he (key j hj)))
    · exact h
theorem difQ_insL : ∀ {xs ws : List Way}, difQ ws → difQ (insL ws xs)
  | [], _, h => h
  | x :: xs, ws, h => difQ_insL (xs := xs) (difQ_ins h x)
theorem difQ_nil : difQ [] := fun i _ hi => absurd hi (Nat.not_lt_zero i)
theorem difQ_stp {G : Cgx} {d : Int} : ∀ {ws acc : List Way}, difQ acc → difQ (ws.foldl (fun acc w => insL acc (fol G w d (2 ^ G.n))) acc)
  | [], _, h => h
  | w :: ws, acc, h => difQ_stp (ws := ws) (difQ_insL h)
theorem ky_look {ws : List Way} {x : Way} (hd : difQ ws) : match (ws.findIdx? (fun w => eqQ w.q x.q)).map (fun i : Nat => Value.int .i64 (i : Int)) with
    | none => ∀ p ∈ kyL ws, p.1 ≠ plV x.q
    | some v => (∃ p ∈ kyL ws, p.1 = plV x.q) ∧ ∀ p ∈ kyL ws, p.1 = plV x.q → p.2 = v := by
  cases hf : ws.findIdx? (fun w => eqQ w.q x.q) with
  | none =>
    intro p hp he
    obtain ⟨i, hi, rfl⟩ := kyL_mem hp
    have := List.findIdx?_eq_none_iff.1 hf ws[i] (List.getElem_mem hi)
    rw [← getW hi, plV_eq.1 he] at this
    cases this
  | some k =>
    obtain ⟨hk, hp, -⟩ := List.findIdx?_eq_some_iff_getElem.1 hf
    refine ⟨⟨_, List.mem_map.2 ⟨k, List.mem_range.2 hk, rfl⟩, plV_eq.2 (by rw [getW hk]; exact hp)⟩, fun p hpm he => ?_⟩
    obtain ⟨i, hi, rfl⟩ := kyL_mem hpm
    have : i = k := hd i k hi hk (eqQ_trans (plV_eq.1 he) (by rw [getW hk]; exact eqQ_symm hp))
    rw [this]
def stI (G : Cgx) (d : Int) (W : List Way) (i : Nat) : List Way := (W.take i).foldl (fun acc w => insL acc (fol G w d (2 ^ G.n))) []
theorem stI_s {G : Cgx} {d : Int} {W : List Way} {i : Nat} (hi : i < W.length) : stI G d W (i + 1) = insL (stI G d W i) (fol G (W.getD i way0) d (2 ^ G.n)) := by
  unfold stI
  rw [List.take_add_one, List.getElem?_eq_getElem hi, List.foldl_append, getW hi]
  rfl
theorem stI_all (G : Cgx) (d : Int) (W : List Way) : stI G d W W.length = stpW G d W := by
  unfold stI stpW
  rw [List.take_length]
theorem stI_len (G : Cgx) (d : Int) (W : List Way) (i : Nat) (hn : 2 ^ G.n ≤ 8) (hi : i ≤ W.length) : (stI G d W i).length ≤ 8 * i := by
  have h := stp_foldlen G d hn (W.take i) []
  rw [List.length_take, List.length_nil] at h
  unfold stI
  omega
theorem insI_s {ws xs : List Way} {j : Nat} (hj : j < xs.length) : insL ws (xs.take (j + 1)) = insW (insL ws (xs.take j)) (xs.getD j way0) := by
  unfold insL
  rw [List.take_add_one, List.getElem?_eq_getElem hj, List.foldl_append, getW hj]
  rfl
theorem stI_mem {G : Cgx} {d : Int} {W : List Way} {i : Nat} {x : Way} (h : x ∈ stI G d W i) : ∃ w ∈ W, x ∈ fol G w d (2 ^ G.n) := by
  rcases stpW_mem h with h | ⟨w, h1, h2⟩
  · cases h
  · exact ⟨w, List.mem_of_mem_take h1, h2⟩
theorem rowS {ws : List Way} {x : Way} {k : Nat} (hk : k < ws.length) : ∀ a, a < ws.length → ∀ b, b < 8 → (if a = (k : Int).toNat then (if 0 ≤ b ∧ b < 0 + (wyL x).length then ((wyL x)[b - 0]?).getD .un else cWy ws a b) else cWy ws a b) = cWy (ws.set k x) a b := fun a ha b hb => by
  show _ = (wyL ((ws.set k x).getD a way0)).getD b .un
  rw [getW (ws := ws.set k x) (by simpa using ha)]
  by_cases e : a = k
  · subst e
    rw [if_pos (show a = (a : Int).toNat from rfl), if_pos ⟨Nat.zero_le _, by show b < 0 + 8; omega⟩, List.getElem_set_self]
    rfl
  · rw [if_neg (show ¬ a = (k : Int).toNat from e), List.getElem_set_ne (fun h => e h.symm), ← getW ha]
    rfl
end Go.Proofs.Ytemfikdogdadnaa

namespace Go.Proofs.Ytemfikdogdadnaa
open Go.RowKit

/-- whether a generator is on and since when, ahead of period t -/
def uo (u : CuR) (o : Nat → Bool) : Nat → Bool × Int
  | 0 => (u.on, u.si)
  | t + 1 => (o t, if o t = (uo u o t).1 then min ((uo u o t).2 + 1) 200000 else 1)
def uk (u : CuR) (o : Nat → Bool) (t : Nat) : Bool := okU u (o t) (uo u o t).1 (uo u o t).2
def uc (u : CuR) (o : Nat → Bool) (t : Nat) : Int := stU u (o t) (uo u o t).1
theorem uo_congr {u : CuR} {o o' : Nat → Bool} : ∀ {t : Nat}, (∀ k, k < t → o k = o' k) → uo u o t = uo u o' t
  | 0, _ => rfl
  | t + 1, h => by
    show (o t, _) = (o' t, _)
    rw [uo_congr fun k hk => h k (by omega), h t (Nat.lt_succ_self t)]
theorem uk_congr {u : CuR} {o o' : Nat → Bool} {t : Nat} (h : ∀ k, k ≤ t → o k = o' k) : uk u o t = uk u o' t := by
  unfold uk
  rw [uo_congr fun k hk => h k (by omega), h t (Nat.le_refl t)]
theorem uc_congr {u : CuR} {o o' : Nat → Bool} {t : Nat} (h : ∀ k, k ≤ t → o k = o' k) : uc u o t = uc u o' t := by
  unfold uc
  rw [uo_congr fun k hk => h k (by omega), h t (Nat.le_refl t)]
theorem stt_congr {r : Rul} {u : US} {sc sc' : Nat → Int} : ∀ {t : Nat}, (∀ k, k < t → sc k = sc' k) → stt r u sc t = stt r u sc' t
  | 0, _ => rfl
  | t + 1, h => by
    simp only [stt]
    rw [stt_congr fun k hk => h k (by omega), h t (Nat.lt_succ_self t)]
/-- the powers fit to the pattern -/
def fitS (u : CuR) (o : Nat → Bool) (sc : Nat → Int) (t : Nat) : Prop := if o t = true then u.r.le ≤ sc t ∧ sc t ≤ u.r.mo else sc t = -1
section
variable {u : CuR} {o : Nat → Bool} {sc : Nat → Int}
theorem nOn_fit (h : cuE u = 0) {t : Nat} (hf : fitS u o sc t) {on : Bool} {si po : Int} (hp : on = true → u.r.le ≤ po ∧ po ≤ u.r.mo) : (nOn u.r on si po (sc t) = 0 ↔ okU u (o t) on si = true) ∧ (nOn u.r on si po (sc t) = 0 ∨ nOn u.r on si po (sc t) = 12) := by
  obtain ⟨_, hk, _, _, _, hup, hdn, _⟩ := cuE_all h
  unfold okR at hk
  unfold fitS at hf
  unfold nOn okU
  cases ho : o t with
  | true =>
    rw [ho, if_pos rfl] at hf
    have h1 : sc t ≠ -1 := by omega
    rw [if_neg (by omega)]
    cases hon : on with
    | true =>
      have := hp hon
      rw [if_neg (by simp [h1]), if_neg (by omega)]
      simp
    | false =>
      by_cases h2 : si < u.r.mf
      · rw [if_pos (by simp [h1, h2])]
        simp
        omega
      · rw [if_neg (by simp [h2]), if_neg (by simp)]
        simp
        omega
  | false =>
    rw [ho, if_neg (by decide)] at hf
    rw [hf, if_neg (by simp)]
    cases hon : on with
    | true =>
      by_cases h2 : si < u.r.mi
      · rw [if_pos (by simp [h2])]
        simp
        omega
      · rw [if_neg (by simp [h2]), if_neg (by simp)]
        simp
        omega
    | false =>
      rw [if_neg (by simp), if_neg (by simp)]
      simp
theorem fit_ne (h : cuE u = 0) {t : Nat} (hf : fitS u o sc t) : decide (sc t ≠ -1) = o t := by
  obtain ⟨_, hk, _⟩ := cuE_all h
  unfold okR at hk
  unfold fitS at hf
  cases ho : o t with
  | true =>
    rw [ho, if_pos rfl] at hf
    exact decide_eq_true (by omega)
  | false =>
    rw [ho, if_neg (by decide)] at hf
    exact decide_eq_false (by omega)
theorem stt_fit (h : cuE u = 0) : ∀ (t : Nat), (∀ k, k < t → fitS u o sc k ∧ uk u o k = true) → (stt u.r (cuS u) sc t).on = (uo u o t).1 ∧ (stt u.r (cuS u) sc t).si = (uo u o t).2 ∧ ((stt u.r (cuS u) sc t).on = true → u.r.le ≤ (stt u.r (cuS u) sc t).po ∧ (stt u.r (cuS u) sc t).po ≤ u.r.mo)
  | 0, _ => ⟨rfl, rfl, (cuE_all h).2.2.2.2.2.2.2⟩
  | t + 1, hs => by
    obtain ⟨i1, i2, i3⟩ := stt_fit h t fun k hk => hs k (by omega)
    obtain ⟨s1, s2⟩ := hs t (Nat.lt_succ_self t)
    have h0 : nOn u.r (stt u.r (cuS u) sc t).on (stt u.r (cuS u) sc t).si (stt u.r (cuS u) sc t).po (sc t) = 0 := (nOn_fit h s1 i3).1.2 (by rw [i1, i2]; exact s2)
    have hd := fit_ne h s1
    refine ⟨?_, ?_, ?_⟩
    · show nB _ _ _ _ _ = o t
      unfold nB
      rw [if_pos h0, hd]
    · show nS _ _ _ _ _ = _
      unfold nS
      rw [if_pos h0, hd, i1, i2]
      rfl
    · intro _
      show u.r.le ≤ nP _ _ _ _ _ ∧ nP _ _ _ _ _ ≤ _
      rename_i hon
      have hon : nB u.r (stt u.r (cuS u) sc t).on (stt u.r (cuS u) sc t).si (stt u.r (cuS u) sc t).po (sc t) = true := hon
      unfold nB at hon
      rw [if_pos h0, hd] at hon
      unfold fitS at s1
      rw [if_pos hon] at s1
      unfold nP
      rw [if_pos h0, if_pos (by rw [hon] at hd; exact of_decide_eq_true hd)]
      exact s1
theorem eAt_fit (h : cuE u = 0) {t : Nat} (hs : ∀ k, k < t → fitS u o sc k ∧ uk u o k = true) (hf : fitS u o sc t) : (eAt u.r (cuS u) sc t = 0 ↔ uk u o t = true) ∧ (uk u o t = true → cAt u.r (cuS u) sc t = uc u o t) := by
  obtain ⟨i1, i2, i3⟩ := stt_fit h t hs
  have hn := (nOn_fit h hf (si := (stt u.r (cuS u) sc t).si) i3).1
  rw [i2] at hn
  have hd := fit_ne h hf
  have e : uk u o t = okU u (o t) (stt u.r (cuS u) sc t).on (uo u o t).2 := by unfold uk; rw [i1]
  unfold eAt
  rw [i2]
  refine ⟨by rw [e]; exact hn, fun hk => ?_⟩
  rw [e] at hk
  unfold cAt nC uc stU
  rw [i2, if_pos (hn.2 hk), i1]
  have hx : sc t ≠ -1 ↔ o t = true := by rw [← hd, decide_eq_true_iff]
  by_cases ho : o t = true
  · rw [ho]
    cases (uo u o t).1 <;> simp [hx.2 ho]
  · have ho' : o t = false := by simpa using ho
    rw [ho']
    have : ¬ sc t ≠ -1 := fun hh => ho (hx.1 hh)
    simp [this]
/-- the whole run -/
theorem run_fit (h : cuE u = 0) {T : Nat} (hf : ∀ k, k < T → fitS u o sc k) : (fst (eAt u.r (cuS u) sc) T = 0 ↔ ∀ k, k < T → uk u o k = true) ∧ ((∀ k, k < T → uk u o k = true) → S (cAt u.r (cuS u) sc) T = S (uc u o) T) := by
  have key : ∀ t, t ≤ T → (∀ k, k < t → eAt u.r (cuS u) sc k = 0) → ∀ k, k < t → uk u o k = true := fun t => by
    induction t with
    | zero => exact fun _ _ k hk => absurd hk (Nat.not_lt_zero k)
    | succ t ih =>
      intro ht he k hk
      have h1 := ih (by omega) fun k hk => he k (by omega)
      rcases Nat.lt_succ_iff_lt_or_eq.1 hk with hk | rfl
      · exact h1 k hk
      · exact (eAt_fit h (fun j hj => ⟨hf j (by omega), h1 j hj⟩) (hf k (by omega))).1.1 (he k (Nat.lt_succ_self k))
  refine ⟨⟨fun h0 => key T (Nat.le_refl T) fun k hk => fst_zero h0 k hk, fun hk => fst_of fun t ht => ?_⟩, fun hk => S_congr fun t ht => ?_⟩
  · exact (eAt_fit h (fun j hj => ⟨hf j (by omega), hk j (by omega)⟩) (hf t ht)).1.2 (hk t ht)
  · exact (eAt_fit h (fun j hj => ⟨hf j (by omega), hk j (by omega)⟩) (hf t ht)).2 (hk t ht)
end
/-- the pattern of a period in a list of patterns (the last first) -/
def hsB : List Nat → Nat → Nat
  | [], _ => 0
  | b :: B, t => if t < B.length then hsB B t else b
abbrev bitsN (b : Nat) : Nat → Bool := fun k => b.testBit k
/-- a pattern for each period: permitted and can be served; what it costs -/
def feH (G : Cgx) (D : Nat → Int) (T : Nat) (h : Nat → Nat) : Prop := ∀ t, t < T → h t < 2 ^ G.n ∧ (∀ i, i < G.n → uk (G.u i) (fun τ => (h τ).testBit i) t = true) ∧ G.can (bitsN (h t)) (D t) = true
def csH (G : Cgx) (D : Nat → Int) (T : Nat) (h : Nat → Nat) : Int := S (fun t => S (fun i => uc (G.u i) (fun τ => (h τ).testBit i) t) G.n + G.sC (bitsN (h t)) (D t)) T
theorem okW_all {u : Nat → CuR} {o : Nat → Bool} {q : Plc} : ∀ {i : Nat}, okW u o q i = true ↔ ∀ k, k < i → okU (u k) (o k) (q.on k) (q.si k) = true
  | 0 => ⟨fun _ k hk => absurd hk (Nat.not_lt_zero k), fun _ => rfl⟩
  | i + 1 => by
    show (okW u o q i && okU _ _ _ _) = true ↔ _
    rw [Bool.and_eq_true, okW_all]
    exact ⟨fun ⟨h1, h2⟩ k hk => by
      rcases Nat.lt_succ_iff_lt_or_eq.1 hk with hk | rfl
      · exact h1 k hk
      · exact h2, fun h => ⟨fun k hk => h k (by omega), h i (Nat.lt_succ_self i)⟩⟩
section
variable {G : Cgx} {D : Nat → Int}
theorem hsB_lt {b : Nat} {B : List Nat} {t : Nat} (h : t < B.length) : hsB (b :: B) t = hsB B t := if_pos h
theorem hsB_at {b : Nat} {B : List Nat} : hsB (b :: B) B.length = b := if_neg (Nat.lt_irrefl _)
theorem wyB_q {i : Nat} (hi : i < G.n) : ∀ B, (wyB G D (wy0 G) B).q.on i = (uo (G.u i) (fun t => (hsB B t).testBit i) B.length).1 ∧ (wyB G D (wy0 G) B).q.si i = (uo (G.u i) (fun t => (hsB B t).testBit i) B.length).2
  | [] => by
    show (if i < G.n then (G.u i).on else false) = _ ∧ (if i < G.n then (G.u i).si else 0) = _
    rw [if_pos hi, if_pos hi]
    exact ⟨rfl, rfl⟩
  | b :: B => by
    obtain ⟨h1, h2⟩ := wyB_q hi B
    have e : uo (G.u i) (fun t => (hsB (b :: B) t).testBit i) B.length = uo (G.u i) (fun t => (hsB B t).testBit i) B.length := uo_congr fun k hk => by rw [hsB_lt hk]
    show (if i < G.n then b.testBit i else _) = (hsB (b :: B) B.length).testBit i ∧ (if i < G.n then (if b.testBit i = (wyB G D (wy0 G) B).q.on i then min ((wyB G D (wy0 G) B).q.si i + 1) 200000 else 1) else _) = (if (hsB (b :: B) B.length).testBit i = (uo (G.u i) (fun t => (hsB (b :: B) t).testBit i) B.length).1 then min ((uo (G.u i) (fun t => (hsB (b :: B) t).testBit i) B.length).2 + 1) 200000 else 1)
    rw [e, hsB_at, if_pos hi, if_pos hi, h1, h2]
    exact ⟨rfl, rfl⟩
theorem feB_iff : ∀ B, feB G D (wy0 G) B ↔ feH G D B.length (hsB B)
  | [] => ⟨fun _ t ht => absurd ht (Nat.not_lt_zero t), fun _ => trivial⟩
  | b :: B => by
    have ih := feB_iff B
    have cg : ∀ t, t < B.length → ∀ i, uk (G.u i) (fun τ => (hsB (b :: B) τ).testBit i) t = uk (G.u i) (fun τ => (hsB B τ).testBit i) t := fun t ht i => uk_congr fun k hk => by rw [hsB_lt (by omega)]
    have last : okW G.u (fun k => b.testBit k) (wyB G D (wy0 G) B).q G.n = true ↔ ∀ i, i < G.n → uk (G.u i) (fun τ => (hsB (b :: B) τ).testBit i) B.length = true := by
      rw [okW_all]
      refine forall_congr' fun i => forall_congr' fun hi => ?_
      obtain ⟨h1, h2⟩ := wyB_q (D := D) hi B
      rw [h1, h2]
      unfold uk
      rw [uo_congr (o := fun τ => (hsB (b :: B) τ).testBit i) (o' := fun t => (hsB B t).testBit i) fun k hk => by rw [hsB_lt hk]]
      show okU _ (b.testBit i) _ _ = true ↔ okU _ ((hsB (b :: B) B.length).testBit i) _ _ = true
      rw [hsB_at]
    show (feB G D (wy0 G) B ∧ _ ∧ _ ∧ _) ↔ _
    rw [ih, last]
    constructor
    · rintro ⟨h1, h2, h3, h4⟩ t ht
      rcases Nat.lt_succ_iff_lt_or_eq.1 ht with ht | rfl
      · obtain ⟨g1, g2, g3⟩ := h1 t ht
        rw [hsB_lt ht]
        exact ⟨g1, fun i hi => by rw [cg t ht i]; exact g2 i hi, g3⟩
      · rw [hsB_at]
        exact ⟨h2, h3, h4⟩
    · intro h
      have hl := h B.length (Nat.lt_succ_self _)
      rw [hsB_at] at hl
      refine ⟨fun t ht => ?_, hl.1, hl.2.1, hl.2.2⟩
      have := h t (Nat.lt_succ_of_lt ht)
      rw [hsB_lt ht] at this
      exact ⟨this.1, fun i hi => by rw [← cg t ht i]; exact this.2.1 i hi, this.2.2⟩
theorem wyB_cs : ∀ B, (wyB G D (wy0 G) B).c = csH G D B.length (hsB B)
  | [] => rfl
  | b :: B => by
    have ih := wyB_cs B
    have e : csH G D (b :: B).length (hsB (b :: B)) = csH G D B.length (hsB B) + (S (fun i => uc (G.u i) (fun τ => (hsB (b :: B) τ).testBit i) B.length) G.n + G.sC (bitsN b) (D B.length)) := by
      show csH G D B.length (hsB (b :: B)) + (S (fun i => uc (G.u i) (fun τ => (hsB (b :: B) τ).testBit i) B.length) G.n + G.sC (bitsN (hsB (b :: B) B.length)) (D B.length)) = _
      rw [hsB_at]
      congr 1
      refine S_congr fun t ht => ?_
      rw [hsB_lt ht]
      congr 1
      exact S_congr fun i _ => uc_congr fun k hk => by rw [hsB_lt (by omega)]
    rw [e, ← ih]
    show (wyB G D (wy0 G) B).c + stW G.u (fun k => b.testBit k) (wyB G D (wy0 G) B).q G.n + G.sC (bitsN b) (D B.length) = _
    rw [Int.add_assoc]
    congr 2
    refine S_congr fun i hi => ?_
    unfold uc
    rw [(wyB_q hi B).1, uo_congr (o := fun τ => (hsB (b :: B) τ).testBit i) (o' := fun t => (hsB B t).testBit i) fun k hk => by rw [hsB_lt hk]]
    show stU _ (b.testBit i) _ = stU _ ((hsB (b :: B) B.length).testBit i) _
    rw [hsB_at]
theorem wyB_p : ∀ B t, t < B.length → (wyB G D (wy0 G) B).p t = G.sP (bitsN (hsB B t)) (D t)
  | [], t, ht => absurd ht (Nat.not_lt_zero t)
  | b :: B, t, ht => by
    show (if t < (wyB G D (wy0 G) B).m then (wyB G D (wy0 G) B).p t else G.sP (bitsN b) (D B.length)) = _
    rw [wyB_m]
    by_cases h : t < B.length
    · rw [if_pos h, hsB_lt h]
      exact wyB_p B t h
    · have ht : t < B.length + 1 := ht
      obtain rfl : t = B.length := by omega
      rw [if_neg h, hsB_at]
/-- a list for patterns -/
def lsB (h : Nat → Nat) : Nat → List Nat
  | 0 => []
  | t + 1 => h t :: lsB h t
theorem lsB_len (h : Nat → Nat) : ∀ t, (lsB h t).length = t
  | 0 => rfl
  | t + 1 => congrArg (· + 1) (lsB_len h t)
theorem hsB_lsB (h : Nat → Nat) : ∀ T t, t < T → hsB (lsB h T) t = h t
  | 0, t, ht => absurd ht (Nat.not_lt_zero t)
  | T + 1, t, ht => by
    show (if t < (lsB h T).length then hsB (lsB h T) t else h T) = h t
    rw [lsB_len]
    by_cases hh : t < T
    · rw [if_pos hh]; exact hsB_lsB h T t hh
    · obtain rfl : t = T := by omega
      rw [if_neg hh]
theorem feH_congr {T : Nat} {h h' : Nat → Nat} (e : ∀ t, t < T → h t = h' t) (hf : feH G D T h) : feH G D T h' := fun t ht => by
  obtain ⟨h1, h2, h3⟩ := hf t ht
  rw [← e t ht]
  exact ⟨h1, fun i hi => by rw [← h2 i hi]; exact uk_congr fun k hk => by rw [e k (by omega)], h3⟩
theorem csH_congr {T : Nat} {h h' : Nat → Nat} (e : ∀ t, t < T → h t = h' t) : csH G D T h = csH G D T h' := S_congr fun t ht => by
  rw [e t ht]
  congr 1
  exact S_congr fun i _ => uc_congr fun k hk => by rw [e k (by omega)]
/-- what Best finds is a permitted pattern; no permitted pattern costs less -/
theorem best_at {T : Nat} (hp : 0 < (dpW G D (wy0 G) T).length) : ∃ h, feH G D T h ∧ (lsW (dpW G D (wy0 G) T) (dpW G D (wy0 G) T).length).c = csH G D T h ∧ ∀ t, t < T → (lsW (dpW G D (wy0 G) T) (dpW G D (wy0 G) T).length).p t = G.sP (bitsN (h t)) (D t) := by
  obtain ⟨B, b1, b2, e⟩ := dpW_at (lsW_mem hp (Nat.le_refl _))
  rw [e]
  refine ⟨hsB B, ?_, ?_, fun t ht => wyB_p B t (by omega)⟩
  · rw [← b1]; exact (feB_iff B).1 b2
  · rw [← b1]; exact wyB_cs B
theorem best_le (hn : G.n ≤ 3) {T : Nat} {h : Nat → Nat} (hf : feH G D T h) : 0 < (dpW G D (wy0 G) T).length ∧ (lsW (dpW G D (wy0 G) T) (dpW G D (wy0 G) T).length).c ≤ csH G D T h := by
  have hl := lsB_len h T
  have h1 : feB G D (wy0 G) (lsB h T) := (feB_iff _).2 (by rw [hl]; exact feH_congr (fun t ht => (hsB_lsB h T t ht).symm) hf)
  obtain ⟨w, w1, w2, w3⟩ := dpW_dom hn h1
  rw [hl] at w1
  obtain ⟨j, hj, rfl⟩ := List.mem_iff_getElem.1 w1
  have hle := lsW_le (ws := dpW G D (wy0 G) T) j hj
  refine ⟨by omega, ?_⟩
  rw [wyB_cs, hl, csH_congr (h' := h) (fun t ht => hsB_lsB h T t ht)] at w3
  have : (dpW G D (wy0 G) T).getD j way0 = (dpW G D (wy0 G) T)[j] := by rw [List.getD_eq_getElem?_getD, List.getElem?_eq_getElem hj]; rfl
  rw [this] at hle
  omega
end
end Go.Proofs.Ytemfikdogdadnaa
