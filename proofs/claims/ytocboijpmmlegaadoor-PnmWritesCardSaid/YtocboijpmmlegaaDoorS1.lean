/- Texts laid together. No condition. -/
import Derived.Test.YtocboijpmmlegaaDoorU
import Derived.Test.YtocboijpmmlegaaDoorE20
import Derived.WalkKit
import Derived.Test.YtocboijpmmlegaaDoorA
import Derived.Test.YtocboijpmmlegaaDoorE21
import Derived.Shelf.Strconv.Itoa0
import Derived.Shelf.Strconv.Itoa1
import Derived.Shelf.LaysM
import Derived.Shelf.Strconv.Itoa2
import Derived.Shelf.Strconv.Itoa3
import Derived.Shelf.Strings.Prefix
import Derived.Test.YtocboijpmmlegaaDoorProg
namespace Go.Proofs.YtocboijpmmlegaaDoor
theorem oT {p : Prop} [Decidable p] (h : decide p = true) : p := of_decide_eq_true h
theorem oF {p : Prop} [Decidable p] (h : decide p = false) : ¬ p := of_decide_eq_false h
theorem oA {p : Prop} [Decidable p] : (decide p = true) = p := decide_eq_true_eq
theorem oB {p : Prop} [Decidable p] : decide p = false ↔ ¬ p := decide_eq_false_iff_not
theorem xF {x : Bool} (h : x = true) (k : x = false) : False := Bool.noConfusion (Eq.trans (Eq.symm h) k)
theorem xI {x : Bool} {A B : Prop} (f : x = true → A) (g : x = false → B) : (x = true → A) ∧ (x = false → B) := ⟨f, g⟩
theorem xT {x : Bool} (h : x = false) (k : x = true) : False := Bool.noConfusion (Eq.trans (Eq.symm h) k)
end Go.Proofs.YtocboijpmmlegaaDoor
set_option maxRecDepth 100000
set_option linter.unusedVariables false
set_option linter.unusedSimpArgs false
namespace Go.Proofs.YtocboijpmmlegaaDoor
def valD : List Int → Int
  | [] => 0
  | d :: l => d + 32768 * valD l
structure Dg (d : Int) : Prop where
  lo : 0 ≤ d
  hi : d < 32768
def Dig (l : List Int) : Prop := ∀ d ∈ l, Dg d
theorem Dig.nil : Dig [] := fun d h => by cases h
theorem Dig.cons {d : Int} {l : List Int} (h : Dg d) (k : Dig l) : Dig (d :: l) := fun x hx => by
  rcases List.mem_cons.1 hx with rfl | hx
  · exact h
  · exact k x hx
theorem Dig.head {d : Int} {l : List Int} (h : Dig (d :: l)) : Dg d := h d List.mem_cons_self
theorem Dig.tail {d : Int} {l : List Int} (h : Dig (d :: l)) : Dig l := fun x hx => h x (List.mem_cons_of_mem _ hx)
theorem Dig.app {l m : List Int} (h : Dig l) (k : Dig m) : Dig (l ++ m) := fun x hx => (List.mem_append.1 hx).elim (h x) (k x)
theorem Dig.take {l : List Int} (h : Dig l) (n : Nat) : Dig (l.take n) := fun x hx => h x (List.mem_of_mem_take hx)
theorem Dig.drop {l : List Int} (h : Dig l) (n : Nat) : Dig (l.drop n) := fun x hx => h x (List.mem_of_mem_drop hx)
theorem valD_nn : ∀ {l : List Int}, Dig l → 0 ≤ valD l
  | [], _ => by unfold valD; omega
  | d :: l, h => by
    have h1 := h.head.lo
    have h2 := valD_nn h.tail
    unfold valD
    omega
def dgs (n : Nat) : List Int := if h : n = 0 then [] else ((n % 32768 : Nat) : Int) :: dgs (n / 32768)
termination_by n
decreasing_by omega
theorem dgs_0 : dgs 0 = [] := by unfold dgs; simp
theorem dgs_pos {n : Nat} (h : n ≠ 0) : dgs n = ((n % 32768 : Nat) : Int) :: dgs (n / 32768) := by rw [dgs, dif_neg h]
theorem valD_dgs (n : Nat) : valD (dgs n) = n := by
  induction n using Nat.strongRecOn with
  | ind n ih =>
    by_cases h : n = 0
    · subst h; rw [dgs_0]; rfl
    · rw [dgs_pos h, valD, ih (n / 32768) (by omega)]
      omega
theorem Dig_dgs (n : Nat) : Dig (dgs n) := by
  induction n using Nat.strongRecOn with
  | ind n ih =>
    by_cases h : n = 0
    · subst h; rw [dgs_0]; exact Dig.nil
    · rw [dgs_pos h]
      exact Dig.cons ⟨by omega, by omega⟩ (ih _ (by omega))
def trimL : List Int → List Int
  | [] => []
  | d :: l => match trimL l with
    | [] => if d = 0 then [] else [d]
    | x :: r => d :: x :: r
theorem trim_dgs : ∀ {l : List Int}, Dig l → trimL l = dgs (valD l).toNat
  | [], _ => by unfold trimL valD; rw [show (0 : Int).toNat = 0 from rfl, dgs_0]
  | d :: l, h => by
    have hd := h.head
    have hv := valD_nn h.tail
    have ih := trim_dgs h.tail
    have h1 := hd.lo
    have h2 := hd.hi
    obtain ⟨V, hV⟩ := Int.eq_ofNat_of_zero_le hv
    obtain ⟨D, hD⟩ := Int.eq_ofNat_of_zero_le h1
    have e : (valD (d :: l)).toNat = D + 32768 * V := by unfold valD; omega
    have eV : (valD l).toNat = V := by omega
    rw [e]
    rw [eV] at ih
    unfold trimL
    rw [ih]
    by_cases hz : V = 0
    · subst hz
      rw [dgs_0]
      by_cases hd0 : d = 0
      · have : D = 0 := by omega
        subst this
        rw [if_pos hd0, dgs_0]
      · rw [if_neg hd0, dgs_pos (by omega)]
        have e1 : (D + 32768 * 0) / 32768 = 0 := by omega
        have e2 : (D + 32768 * 0) % 32768 = D := by omega
        rw [e1, e2, dgs_0, hD]
    · have e1 : (D + 32768 * V) / 32768 = V := by omega
      have e2 : (D + 32768 * V) % 32768 = D := by omega
      rw [dgs_pos (n := D + 32768 * V) (by omega), e1, e2, ← hD]
      generalize hq : dgs V = q
      cases q with
      | nil => rw [dgs_pos hz] at hq; cases hq
      | cons x r => rfl
theorem trimL_snoc0 (l : List Int) : trimL (l ++ [0]) = trimL l := by
  induction l with
  | nil => rfl
  | cons d l ih => rw [List.cons_append, trimL, ih]; rfl
theorem trimL_snoc {l : List Int} {d : Int} (h : d ≠ 0) : trimL (l ++ [d]) = l ++ [d] := by
  induction l with
  | nil => simp [trimL, h]
  | cons x l ih =>
    rw [List.cons_append, trimL, ih]
    cases l <;> rfl
def hd0 (l : List Int) : Int := match l with | [] => 0 | d :: _ => d
def sumR : List Int → List Int → Int → List Int
  | [], [], c => [c]
  | [], y :: b, c => (y + c) % 32768 :: sumR [] b ((y + c) / 32768)
  | x :: a, [], c => (x + c) % 32768 :: sumR a [] ((x + c) / 32768)
  | x :: a, y :: b, c => (x + y + c) % 32768 :: sumR a b ((x + y + c) / 32768)
theorem sumR_val : ∀ (a b : List Int) (c : Int), valD (sumR a b c) = valD a + valD b + c
  | [], [], c => by simp [sumR, valD]
  | [], y :: b, c => by
    have := sumR_val [] b ((y + c) / 32768)
    simp only [sumR, valD] at *
    omega
  | x :: a, [], c => by
    have := sumR_val a [] ((x + c) / 32768)
    simp only [sumR, valD] at *
    omega
  | x :: a, y :: b, c => by
    have := sumR_val a b ((x + y + c) / 32768)
    simp only [sumR, valD] at *
    omega
theorem sumR_dig : ∀ {a b : List Int} {c : Int}, Dig a → Dig b → 0 ≤ c → c ≤ 1 → Dig (sumR a b c)
  | [], [], c, _, _, h0, h1 => by
    rw [sumR]
    exact Dig.cons ⟨h0, by omega⟩ Dig.nil
  | [], y :: b, c, _, hb, h0, h1 => by
    have h2 := hb.head.lo; have h3 := hb.head.hi
    rw [sumR]
    exact Dig.cons ⟨by omega, by omega⟩ (sumR_dig Dig.nil hb.tail (by omega) (by omega))
  | x :: a, [], c, ha, _, h0, h1 => by
    have h2 := ha.head.lo; have h3 := ha.head.hi
    rw [sumR]
    exact Dig.cons ⟨by omega, by omega⟩ (sumR_dig ha.tail Dig.nil (by omega) (by omega))
  | x :: a, y :: b, c, ha, hb, h0, h1 => by
    have h2 := ha.head.lo; have h3 := ha.head.hi; have h4 := hb.head.lo; have h5 := hb.head.hi
    rw [sumR]
    exact Dig.cons ⟨by omega, by omega⟩ (sumR_dig ha.tail hb.tail (by omega) (by omega))
def dgAt (l : List Int) (i : Int) : Int := if 0 ≤ i ∧ i < (l.length : Int) then l.getD i.toNat 0 else 0
theorem dgAt_in {l : List Int} {i : Nat} (h : i < l.length) : dgAt l i = l.getD i 0 := by unfold dgAt; rw [if_pos (by omega)]; rfl
theorem dgAt_out {l : List Int} {i : Nat} (h : l.length ≤ i) : dgAt l i = 0 := if_neg (by omega)
theorem dgAt_bd {l : List Int} (hl : Dig l) (i : Int) : 0 ≤ dgAt l i ∧ dgAt l i < 32768 := by
  unfold dgAt
  split
  · rename_i h
    have hlt : i.toNat < l.length := by omega
    simp only [List.getD, List.getElem?_eq_getElem hlt, Option.getD_some]
    have := hl _ (List.getElem_mem hlt)
    exact ⟨this.lo, this.hi⟩
  · omega
theorem drop_dg {l : List Int} {i : Nat} (h : i < l.length) : l.drop i = dgAt l i :: l.drop (i + 1) := by
  rw [dgAt_in h, List.drop_eq_getElem_cons h]
  simp [List.getD, List.getElem?_eq_getElem h]
theorem drop_out {l : List Int} {i : Nat} (h : l.length ≤ i) : l.drop i = [] := List.drop_of_length_le h
theorem sumR_step {a b : List Int} {i : Nat} {c : Int} (h : i < max a.length b.length) :
    sumR (a.drop i) (b.drop i) c = (dgAt a i + dgAt b i + c) % 32768 :: sumR (a.drop (i + 1)) (b.drop (i + 1)) ((dgAt a i + dgAt b i + c) / 32768) := by
  by_cases ha : i < a.length
  · by_cases hb : i < b.length
    · rw [drop_dg ha, drop_dg hb, sumR]
    · rw [drop_dg ha, drop_out (l := b) (by omega), drop_out (l := b) (i := i + 1) (by omega), dgAt_out (l := b) (by omega), Int.add_zero, sumR]
  · have hb : i < b.length := by omega
    rw [drop_dg hb, drop_out (l := a) (by omega), drop_out (l := a) (i := i + 1) (by omega), dgAt_out (l := a) (by omega), Int.zero_add, sumR]
theorem sumR_end {a b : List Int} {i : Nat} {c : Int} (h : ¬ i < max a.length b.length) : sumR (a.drop i) (b.drop i) c = [c] := by
  rw [drop_out (l := a) (by omega), drop_out (l := b) (by omega), sumR]
def restR : List Int → List Int → Int → List Int
  | [], _, _ => []
  | x :: a, b, c => (if x - hd0 b - c < 0 then x - hd0 b - c + 32768 else x - hd0 b - c) :: restR a b.tail (if x - hd0 b - c < 0 then 1 else 0)
theorem valD_hd (l : List Int) : valD l = hd0 l + 32768 * valD l.tail := by cases l <;> simp [valD, hd0]
theorem restR_dig : ∀ {a b : List Int} {c : Int}, Dig a → Dig b → 0 ≤ c → c ≤ 1 → Dig (restR a b c)
  | [], b, c, _, _, _, _ => Dig.nil
  | x :: a, b, c, ha, hb, h0, h1 => by
    have h2 := ha.head.lo; have h3 := ha.head.hi
    have h4 : 0 ≤ hd0 b ∧ hd0 b < 32768 := by cases b with | nil => simp [hd0] | cons y b => exact ⟨hb.head.lo, hb.head.hi⟩
    have hbt : Dig b.tail := by cases b with | nil => exact Dig.nil | cons y b => exact hb.tail
    unfold restR
    refine Dig.cons ?_ (restR_dig ha.tail hbt (by split <;> omega) (by split <;> omega))
    split
    · exact ⟨by omega, by omega⟩
    · exact ⟨by omega, by omega⟩
theorem hd0_bd {b : List Int} (h : Dig b) : 0 ≤ hd0 b ∧ hd0 b < 32768 ∧ Dig b.tail := by
  cases b with
  | nil => exact ⟨by decide, by decide, Dig.nil⟩
  | cons y b => exact ⟨h.head.lo, h.head.hi, h.tail⟩
theorem restR_val : ∀ {a b : List Int} {c : Int}, Dig a → Dig b → 0 ≤ c → c ≤ 1 → valD b + c ≤ valD a → valD (restR a b c) = valD a - valD b - c
  | [], b, c, ha, hb, h0, h1, h => by
    have := valD_nn hb
    simp only [restR, valD] at *
    omega
  | x :: a, b, c, ha, hb, h0, h1, h => by
    have h2 := ha.head.lo; have h3 := ha.head.hi
    obtain ⟨h4, h5, h6⟩ := hd0_bd hb
    have e := valD_hd b
    rw [restR, valD, valD]
    rw [valD] at h
    by_cases hs : x - hd0 b - c < 0
    · rw [if_pos hs, if_pos hs, restR_val ha.tail h6 (by omega) (by omega) (by omega)]
      omega
    · rw [if_neg hs, if_neg hs, restR_val ha.tail h6 (by omega) (by omega) (by omega)]
      omega
theorem hd0_drop (l : List Int) (i : Nat) : hd0 (l.drop i) = dgAt l i := by
  by_cases h : i < l.length
  · rw [drop_dg h]; rfl
  · rw [drop_out (by omega), dgAt_out (by omega)]; rfl
theorem tail_drop (l : List Int) (i : Nat) : (l.drop i).tail = l.drop (i + 1) := by rw [List.tail_drop]
theorem restR_step {a b : List Int} {i : Nat} {c : Int} (h : i < a.length) :
    restR (a.drop i) (b.drop i) c = (if dgAt a i - dgAt b i - c < 0 then dgAt a i - dgAt b i - c + 32768 else dgAt a i - dgAt b i - c) :: restR (a.drop (i + 1)) (b.drop (i + 1)) (if dgAt a i - dgAt b i - c < 0 then 1 else 0) := by
  rw [drop_dg h, restR, hd0_drop, tail_drop]
theorem valD_drop (l : List Int) (i : Nat) : valD (l.drop i) = dgAt l i + 32768 * valD (l.drop (i + 1)) := by
  rw [valD_hd, hd0_drop, tail_drop]
theorem lt_drop : ∀ {i : Nat} {a b : List Int}, Dig a → Dig b → valD (a.drop i) < valD (b.drop i) → valD a < valD b
  | 0, a, b, _, _, h => by rwa [List.drop_zero, List.drop_zero] at h
  | i + 1, a, b, ha, hb, h => by
    obtain ⟨h1, h2, h3⟩ := hd0_bd ha
    obtain ⟨h4, h5, h6⟩ := hd0_bd hb
    have e1 : a.drop (i + 1) = a.tail.drop i := by cases a <;> simp
    have e2 : b.drop (i + 1) = b.tail.drop i := by cases b <;> simp
    rw [e1, e2] at h
    have := lt_drop h3 h6 h
    rw [valD_hd a, valD_hd b]
    omega
def amR : List Int → Int → List Int → Int → List Int
  | [], _, _, _ => []
  | o :: os, x, [], c => (o + c) :: os
  | o :: os, x, y :: b, c => (o + x * y + c) % 32768 :: amR os x b ((o + x * y + c) / 32768)
theorem amR_val : ∀ (o : List Int) (x : Int) (b : List Int) (c : Int), b.length < o.length → valD (amR o x b c) = valD o + x * valD b + c
  | [], x, b, c, h => by simp at h
  | o :: os, x, [], c, h => by simp only [amR, valD, Int.mul_zero]; omega
  | o :: os, x, y :: b, c, h => by
    have ih := amR_val os x b ((o + x * y + c) / 32768) (by simpa using h)
    simp only [amR, valD]
    have e : x * (y + 32768 * valD b) = x * y + 32768 * (x * valD b) := by rw [Int.mul_add, Int.mul_left_comm]
    rw [ih, e]
    omega
theorem amR_len : ∀ (o : List Int) (x : Int) (b : List Int) (c : Int), (amR o x b c).length = o.length
  | [], _, _, _ => rfl
  | o :: os, x, [], c => rfl
  | o :: os, x, y :: b, c => by simp [amR, amR_len]
theorem amR_dig : ∀ {o : List Int} {x : Int} {b : List Int} {c : Int}, Dig o → Dg x → Dig b → 0 ≤ c → c < 32768 → (∀ i, b.length ≤ i → o.getD i 0 = 0) → Dig (amR o x b c)
  | [], _, _, _, _, _, _, _, _, _ => by rw [amR]; exact Dig.nil
  | o :: os, x, [], c, ho, hx, hb, h0, h1, hz => by
    have : o = 0 := hz 0 (Nat.zero_le _)
    rw [amR, this]
    exact Dig.cons ⟨by omega, by omega⟩ ho.tail
  | o :: os, x, y :: b, c, ho, hx, hb, h0, h1, hz => by
    have h2 := ho.head.lo; have h3 := ho.head.hi; have h4 := hb.head.lo; have h5 := hb.head.hi; have h6 := hx.lo; have h7 := hx.hi
    have p0 : 0 ≤ x * y := Int.mul_nonneg h6 h4
    have p1 : x * y ≤ 32767 * 32767 := Int.mul_le_mul (by omega) (by omega) h4 (by omega)
    rw [amR]
    refine Dig.cons ⟨by omega, by omega⟩ (amR_dig ho.tail hx hb.tail (by omega) (by omega) fun i hi => ?_)
    have := hz (i + 1) (by simp; omega)
    simpa using this
theorem amR_zero : ∀ (o : List Int) (x : Int) (b : List Int) (c : Int) (i : Nat), b.length < i → (amR o x b c).getD i 0 = o.getD i 0
  | [], _, _, _, _, _ => by rw [amR]
  | o :: os, x, [], c, i, h => by
    rw [amR]
    cases i with
    | zero => simp at h
    | succ i => simp
  | o :: os, x, y :: b, c, i, h => by
    rw [amR]
    cases i with
    | zero => simp at h
    | succ i =>
      have := amR_zero os x b ((o + x * y + c) / 32768) i (by simpa using h)
      simpa using this
def mulR : List Int → List Int → List Int → List Int
  | o, [], _ => o
  | o, x :: a, b => hd0 (amR o x b 0) :: mulR (amR o x b 0).tail a b
theorem mulR_val : ∀ (a o b : List Int), a.length + b.length < o.length → valD (mulR o a b) = valD o + valD a * valD b
  | [], o, b, h => by simp [mulR, valD]
  | x :: a, o, b, h => by
    have h1 := amR_val o x b 0 (by simp at h; omega)
    have h2 := amR_len o x b 0
    have e := valD_hd (amR o x b 0)
    have ih := mulR_val a (amR o x b 0).tail b (by rw [List.length_tail, h2]; simp at h; omega)
    rw [mulR, valD, valD, ih, Int.add_mul, Int.mul_assoc]
    omega
end Go.Proofs.YtocboijpmmlegaaDoor
namespace Go.Proofs.YtocboijpmmlegaaDoor
open Go Go.RowKit
set_option maxHeartbeats 4000000
abbrev sL1 (ob : List Int → List Prop) (f : List Int → AV) : PSpec := fun l => match l with | [.roi .i64 d] => some (ob d, f d) | _ => none
abbrev sL2 (ob : List Int → List Int → List Prop) (f : List Int → List Int → AV) : PSpec := fun l => match l with | [.roi .i64 a, .roi .i64 b] => some (ob a b, f a b) | _ => none
structure Sh (l : List Int) : Prop where
  le : l.length ≤ 1000000
structure ShT (l : List Int) : Prop where
  le : l.length ≤ 4000000
abbrev digitS : PSpec := fun l => match l with | [.roi .i64 d, .int .i64 i] => some ([], .int .i64 (dgAt d i)) | _ => none
theorem digit_s : SOK Tryd.prog 65 digitS := by
  refine sok_of (C := mkC 0 [] noG) (mkC_ok pok_nil noG_ok) rfl mixed ⟨Tryd.func65, by kernel_rfl, by kernel_rfl, by kernel_rfl⟩ fun l obs v h ho => ?_
  (unfold digitS at h; split at h; rotate_left; (focus (cases h)); rename_i d i; simp only [Option.some.injEq, Prod.mk.injEq] at h; obtain ⟨rfl, rfl⟩ := h; simp only [List.mem_cons, List.not_mem_nil, or_false, forall_eq_or_imp, forall_eq, false_implies, implies_true] at ho)
  refine ⟨Nat.le_of_ble_eq_true rfl, ?_⟩
  by_cases hi : 0 ≤ i ∧ i < (d.length : Int)
  · have e : dgAt d i = d.getD i.toNat 0 := if_pos hi
    obtain ⟨i0, i1⟩ := hi
    (repeat' (first | (refine xI (fun hfk => ?_) (fun hfk => ?_) <;> ((try (first | replace hfk := oT hfk | replace hfk := oF hfk | simp only [oA, oB, dh1, dh0, ne_eq, reduceCtorEq] at hfk)); (try (exfalso; first | omega | contradiction | exact xF hfk (by with_reducible assumption) | exact xT hfk (by with_reducible assumption))))) | (refine And.intro ?ob ?_; (case ob => (first | exact Chk.mk (by kernel_rfl) | exact True.intro | with_reducible assumption | exact rng64 (by omega) (by omega) | omega | (dsimp only; omega) | (show (_ : Nat) ≤ _; omega) | (simp only [ll1, ll2, ll0]; first | done | omega) | (dsimp only; simp only [ll1, ll2, ll0]; omega)))) | exact True.intro | (show _ = _; first | with_reducible rfl | with_reducible assumption | omega | (simp only [ll1, ll2, ll0]; omega) | (exact e.symm; done) | exact rfl) | with_reducible assumption | (apply And.intro) | omega | (intro j hj; exact rfl)))
  · have e : dgAt d i = 0 := if_neg hi
    by_cases h0 : 0 ≤ i
    · have h1 : ¬ i < (d.length : Int) := fun k => hi ⟨h0, k⟩
      (repeat' (first | (refine xI (fun hfk => ?_) (fun hfk => ?_) <;> ((try (first | replace hfk := oT hfk | replace hfk := oF hfk | simp only [oA, oB, dh1, dh0, ne_eq, reduceCtorEq] at hfk)); (try (exfalso; first | omega | contradiction | exact xF hfk (by with_reducible assumption) | exact xT hfk (by with_reducible assumption))))) | (refine And.intro ?ob ?_; (case ob => (first | exact Chk.mk (by kernel_rfl) | exact True.intro | with_reducible assumption | exact rng64 (by omega) (by omega) | omega | (dsimp only; omega) | (show (_ : Nat) ≤ _; omega) | (simp only [ll1, ll2, ll0]; first | done | omega) | (dsimp only; simp only [ll1, ll2, ll0]; omega)))) | exact True.intro | (show _ = _; first | with_reducible rfl | with_reducible assumption | omega | (simp only [ll1, ll2, ll0]; omega) | (exact e.symm; done) | exact rfl) | with_reducible assumption | (apply And.intro) | omega | (intro j hj; exact rfl)))
    · (repeat' (first | (refine xI (fun hfk => ?_) (fun hfk => ?_) <;> ((try (first | replace hfk := oT hfk | replace hfk := oF hfk | simp only [oA, oB, dh1, dh0, ne_eq, reduceCtorEq] at hfk)); (try (exfalso; first | omega | contradiction | exact xF hfk (by with_reducible assumption) | exact xT hfk (by with_reducible assumption))))) | (refine And.intro ?ob ?_; (case ob => (first | exact Chk.mk (by kernel_rfl) | exact True.intro | with_reducible assumption | exact rng64 (by omega) (by omega) | omega | (dsimp only; omega) | (show (_ : Nat) ≤ _; omega) | (simp only [ll1, ll2, ll0]; first | done | omega) | (dsimp only; simp only [ll1, ll2, ll0]; omega)))) | exact True.intro | (show _ = _; first | with_reducible rfl | with_reducible assumption | omega | (simp only [ll1, ll2, ll0]; omega) | (exact e.symm; done) | exact rfl) | with_reducible assumption | (apply And.intro) | omega | (intro j hj; exact rfl)))
abbrev trimS : PSpec := sL1 (fun d => [ShT d]) fun d => .roi .i64 (trimL d)
theorem trim_s : SOK Tryd.prog 66 trimS := by
  refine sok_of (C := mkC 0 [] noG) (mkC_ok pok_nil noG_ok) rfl mixed ⟨Tryd.func66, by kernel_rfl, by kernel_rfl, by kernel_rfl⟩ fun l obs v h ho => ?_
  unfold trimS at h
  (unfold sL1 at h; split at h; rotate_left; (focus (cases h)); rename_i d; simp only [Option.some.injEq, Prod.mk.injEq] at h; obtain ⟨rfl, rfl⟩ := h; simp only [List.mem_cons, List.not_mem_nil, or_false, forall_eq_or_imp, forall_eq, false_implies, implies_true] at ho)
  have hsh := ho.le
  refine ⟨Nat.le_of_ble_eq_true rfl, ?_⟩
  (repeat' (first | (refine xI (fun hfk => ?_) (fun hfk => ?_) <;> ((try (first | replace hfk := oT hfk | replace hfk := oF hfk | simp only [oA, oB, dh1, dh0, ne_eq, reduceCtorEq] at hfk)); (try (exfalso; first | omega | contradiction | exact xF hfk (by with_reducible assumption) | exact xT hfk (by with_reducible assumption))))) | (refine And.intro ?ob ?_; (case ob => (first | exact Chk.mk (by kernel_rfl) | exact True.intro | with_reducible assumption | exact rng64 (by omega) (by omega) | omega | (dsimp only; omega) | (show (_ : Nat) ≤ _; omega) | (simp only [ll1, ll2, ll0]; first | done | omega) | (dsimp only; simp only [ll1, ll2, ll0]; omega)))) | exact True.intro | (show _ = _; first | with_reducible rfl | with_reducible assumption | omega | (simp only [ll1, ll2, ll0]; omega) | (skip; done) | exact rfl) | with_reducible assumption | (apply And.intro) | omega | (intro j hj; exact rfl)))
  refine ⟨Nat, fun i => [(0, .roi .i64 d), (3, .int .i64 (i : Int))], fun i => ⟨0, []⟩, fun i => i ≤ d.length ∧ trimL (d.take i) = trimL d, fun i => i, ⟨d.length, [], ⟨Nat.le_refl _, by rw [List.take_length]⟩, ?_⟩, fun i hi => ?_⟩
  · (repeat' (first | (refine xI (fun hfk => ?_) (fun hfk => ?_) <;> ((try (first | replace hfk := oT hfk | replace hfk := oF hfk | simp only [oA, oB, dh1, dh0, ne_eq, reduceCtorEq] at hfk)); (try (exfalso; first | omega | contradiction | exact xF hfk (by with_reducible assumption) | exact xT hfk (by with_reducible assumption))))) | (refine And.intro ?ob ?_; (case ob => (first | exact Chk.mk (by kernel_rfl) | exact True.intro | with_reducible assumption | exact rng64 (by omega) (by omega) | omega | (dsimp only; omega) | (show (_ : Nat) ≤ _; omega) | (simp only [ll1, ll2, ll0]; first | done | omega) | (dsimp only; simp only [ll1, ll2, ll0]; omega)))) | exact True.intro | (show _ = _; first | with_reducible rfl | with_reducible assumption | omega | (simp only [ll1, ll2, ll0]; omega) | (skip; done) | exact rfl) | with_reducible assumption | (apply And.intro) | omega | (intro j hj; exact rfl)))
  obtain ⟨hi, ht⟩ := hi
  cases i with
  | zero =>
    have e : List.drop 0 (List.take ((0 : Nat) : Int).toNat d) = trimL d := by rw [← ht]; rfl
    (repeat' (first | (refine xI (fun hfk => ?_) (fun hfk => ?_) <;> ((try (first | replace hfk := oT hfk | replace hfk := oF hfk | simp only [oA, oB, dh1, dh0, ne_eq, reduceCtorEq] at hfk)); (try (exfalso; first | omega | contradiction | exact xF hfk (by with_reducible assumption) | exact xT hfk (by with_reducible assumption))))) | (refine And.intro ?ob ?_; (case ob => (first | exact Chk.mk (by kernel_rfl) | exact True.intro | with_reducible assumption | exact rng64 (by omega) (by omega) | omega | (dsimp only; omega) | (show (_ : Nat) ≤ _; omega) | (simp only [ll1, ll2, ll0]; first | done | omega) | (dsimp only; simp only [ll1, ll2, ll0]; omega)))) | exact True.intro | (show _ = _; first | with_reducible rfl | with_reducible assumption | omega | (simp only [ll1, ll2, ll0]; omega) | (exact e; done) | exact rfl) | with_reducible assumption | (apply And.intro) | omega | (intro j hj; exact rfl)))
  | succ j =>
    have hj : j < d.length := hi
    have et : d.take (j + 1) = d.take j ++ [d.getD j 0] := by
      rw [List.take_add_one]
      simp [List.getD, List.getElem?_eq_getElem hj]
    have ej : (((j + 1 : Nat) : Int) - 1).toNat = j := by omega
    have rj : rngI .i64 (((j + 1 : Nat) : Int) - 1) := rng64 (by omega) (by omega)
    by_cases hz : d.getD j 0 = 0
    · have hz' : d.getD (((j + 1 : Nat) : Int) - 1).toNat 0 = 0 := by rw [ej]; exact hz
      (repeat' (first | (refine xI (fun hfk => ?_) (fun hfk => ?_) <;> ((try (first | replace hfk := oT hfk | replace hfk := oF hfk | simp only [oA, oB, dh1, dh0, ne_eq, reduceCtorEq] at hfk)); (try (exfalso; first | omega | contradiction | exact xF hfk (by with_reducible assumption) | exact xT hfk (by with_reducible assumption))))) | (refine And.intro ?ob ?_; (case ob => (first | exact Chk.mk (by kernel_rfl) | exact True.intro | with_reducible assumption | exact rng64 (by omega) (by omega) | omega | (dsimp only; omega) | (show (_ : Nat) ≤ _; omega) | (simp only [ll1, ll2, ll0]; first | done | omega) | (dsimp only; simp only [ll1, ll2, ll0]; omega)))) | exact True.intro | (show _ = _; first | with_reducible rfl | with_reducible assumption | omega | (simp only [ll1, ll2, ll0]; omega) | (skip; done) | exact rfl) | with_reducible assumption | (apply And.intro) | omega | (intro j hj; exact rfl)))
      (refine ⟨j, [], ?_, ?mu, ?_⟩; (case mu => ((try dsimp only); omega)))
      · refine ⟨by omega, ?_⟩
        rw [← ht, et, hz, trimL_snoc0]
      (repeat' (first | (refine xI (fun hfk => ?_) (fun hfk => ?_) <;> ((try (first | replace hfk := oT hfk | replace hfk := oF hfk | simp only [oA, oB, dh1, dh0, ne_eq, reduceCtorEq] at hfk)); (try (exfalso; first | omega | contradiction | exact xF hfk (by with_reducible assumption) | exact xT hfk (by with_reducible assumption))))) | (refine And.intro ?ob ?_; (case ob => (first | exact Chk.mk (by kernel_rfl) | exact True.intro | with_reducible assumption | exact rng64 (by omega) (by omega) | omega | (dsimp only; omega) | (show (_ : Nat) ≤ _; omega) | (simp only [ll1, ll2, ll0]; first | done | omega) | (dsimp only; simp only [ll1, ll2, ll0]; omega)))) | exact True.intro | (show _ = _; first | with_reducible rfl | with_reducible assumption | omega | (simp only [ll1, ll2, ll0]; omega) | (skip; done) | exact rfl) | with_reducible assumption | (apply And.intro) | omega | (intro j hj; exact rfl)))
    · have hz' : ¬ d.getD (((j + 1 : Nat) : Int) - 1).toNat 0 = 0 := by rw [ej]; exact hz
      have e : List.drop 0 (List.take ((j + 1 : Nat) : Int).toNat d) = trimL d := by
        rw [List.drop_zero, Int.toNat_natCast, ← ht, et, trimL_snoc hz]
      (repeat' (first | (refine xI (fun hfk => ?_) (fun hfk => ?_) <;> ((try (first | replace hfk := oT hfk | replace hfk := oF hfk | simp only [oA, oB, dh1, dh0, ne_eq, reduceCtorEq] at hfk)); (try (exfalso; first | omega | contradiction | exact xF hfk (by with_reducible assumption) | exact xT hfk (by with_reducible assumption))))) | (refine And.intro ?ob ?_; (case ob => (first | exact Chk.mk (by kernel_rfl) | exact True.intro | with_reducible assumption | exact rng64 (by omega) (by omega) | omega | (dsimp only; omega) | (show (_ : Nat) ≤ _; omega) | (simp only [ll1, ll2, ll0]; first | done | omega) | (dsimp only; simp only [ll1, ll2, ll0]; omega)))) | exact True.intro | (show _ = _; first | with_reducible rfl | with_reducible assumption | omega | (simp only [ll1, ll2, ll0]; omega) | (exact e; done) | exact rfl) | with_reducible assumption | (apply And.intro) | omega | (intro j hj; exact rfl)))
abbrev madeS : PSpec := fun l => match l with | [.bool s, .roi .i64 d] => some ([], .agg [.bool (s && decide (0 < (d.length : Int))), .roi .i64 d]) | _ => none
theorem made_s : SOK Tryd.prog 69 madeS := by
  refine sok_of (C := mkC 0 [] noG) (mkC_ok pok_nil noG_ok) rfl mixed ⟨Tryd.func69, by kernel_rfl, by kernel_rfl, by kernel_rfl⟩ fun l obs v h ho => ?_
  (unfold madeS at h; split at h; rotate_left; (focus (cases h)); rename_i s d; simp only [Option.some.injEq, Prod.mk.injEq] at h; obtain ⟨rfl, rfl⟩ := h; simp only [List.mem_cons, List.not_mem_nil, or_false, forall_eq_or_imp, forall_eq, false_implies, implies_true] at ho)
  refine ⟨Nat.le_of_ble_eq_true rfl, ?_⟩
  cases s with
  | true =>
    (repeat' (first | (refine xI (fun hfk => ?_) (fun hfk => ?_) <;> ((try (first | replace hfk := oT hfk | replace hfk := oF hfk | simp only [oA, oB, dh1, dh0, ne_eq, reduceCtorEq] at hfk)); (try (exfalso; first | omega | contradiction | exact xF hfk (by with_reducible assumption) | exact xT hfk (by with_reducible assumption))))) | (refine And.intro ?ob ?_; (case ob => (first | exact Chk.mk (by kernel_rfl) | exact True.intro | with_reducible assumption | exact rng64 (by omega) (by omega) | omega | (dsimp only; omega) | (show (_ : Nat) ≤ _; omega) | (simp only [ll1, ll2, ll0]; first | done | omega) | (dsimp only; simp only [ll1, ll2, ll0]; omega)))) | exact True.intro | (show _ = _; first | with_reducible rfl | with_reducible assumption | omega | (simp only [ll1, ll2, ll0]; omega) | (rfl; done) | exact rfl) | with_reducible assumption | (apply And.intro) | omega | (intro j hj; exact rfl)))
  | false =>
    (repeat' (first | (refine xI (fun hfk => ?_) (fun hfk => ?_) <;> ((try (first | replace hfk := oT hfk | replace hfk := oF hfk | simp only [oA, oB, dh1, dh0, ne_eq, reduceCtorEq] at hfk)); (try (exfalso; first | omega | contradiction | exact xF hfk (by with_reducible assumption) | exact xT hfk (by with_reducible assumption))))) | (refine And.intro ?ob ?_; (case ob => (first | exact Chk.mk (by kernel_rfl) | exact True.intro | with_reducible assumption | exact rng64 (by omega) (by omega) | omega | (dsimp only; omega) | (show (_ : Nat) ≤ _; omega) | (simp only [ll1, ll2, ll0]; first | done | omega) | (dsimp only; simp only [ll1, ll2, ll0]; omega)))) | exact True.intro | (show _ = _; first | with_reducible rfl | with_reducible assumption | omega | (simp only [ll1, ll2, ll0]; omega) | (rfl; done) | exact rfl) | with_reducible assumption | (apply And.intro) | omega | (intro j hj; exact rfl)))
abbrev sumS : PSpec := sL2 (fun a b => [Sh a, Sh b, Dig a, Dig b]) fun a b => .roi .i64 (dgs (valD a + valD b).toNat)
theorem sum_s : SOK Tryd.prog 70 sumS := by
  refine sok_of (C := mkC 0 [(65, digitS)] (glook [(66, frzP trimS)])) (mkC_ok (pok_cons digit_s pok_nil) (gl_cons (gfrzP trim_s) gl_nil)) rfl mixed ⟨Tryd.func70, by kernel_rfl, by kernel_rfl, by kernel_rfl⟩ fun l obs v h ho => ?_
  unfold sumS at h
  (unfold sL2 at h; split at h; rotate_left; (focus (cases h)); rename_i a b; simp only [Option.some.injEq, Prod.mk.injEq] at h; obtain ⟨rfl, rfl⟩ := h; simp only [List.mem_cons, List.not_mem_nil, or_false, forall_eq_or_imp, forall_eq, false_implies, implies_true] at ho)
  obtain ⟨sa, sb, da, db⟩ := ho
  have la := sa.le
  have lb := sb.le
  refine ⟨Nat.le_of_ble_eq_true rfl, ?_⟩
  (repeat' (first | (refine xI (fun hfk => ?_) (fun hfk => ?_) <;> ((try (first | replace hfk := oT hfk | replace hfk := oF hfk | simp only [oA, oB, dh1, dh0, ne_eq, reduceCtorEq] at hfk)); (try (exfalso; first | omega | contradiction | exact xF hfk (by with_reducible assumption) | exact xT hfk (by with_reducible assumption))))) | (refine And.intro ?ob ?_; (case ob => (first | exact Chk.mk (by kernel_rfl) | exact True.intro | with_reducible assumption | exact rng64 (by omega) (by omega) | omega | (dsimp only; omega) | (show (_ : Nat) ≤ _; omega) | (simp only [ll1, ll2, ll0]; first | done | omega) | (dsimp only; simp only [ll1, ll2, ll0]; omega)))) | exact True.intro | (show _ = _; first | with_reducible rfl | with_reducible assumption | omega | (simp only [ll1, ll2, ll0]; omega) | (skip; done) | exact rfl) | with_reducible assumption | (apply And.intro) | omega | (intro j hj; exact rfl)))
  refine ⟨Nat × List Int × Int, fun g => [(0, .roi .i64 a), (1, .roi .i64 b), (5, .sl 0 1 0 g.1), (6, .int .i64 g.2.2), (7, .int .i64 (g.1 : Int))], fun g => ⟨1, [(0, some (.ints 3 .i64 g.2.1))]⟩,
    fun g => g.1 ≤ max a.length b.length ∧ g.2.1.length = g.1 ∧ 0 ≤ g.2.2 ∧ g.2.2 ≤ 1 ∧ g.2.1 ++ sumR (a.drop g.1) (b.drop g.1) g.2.2 = sumR a b 0, fun g => max a.length b.length - g.1, ⟨(0, [], 0), [none], ⟨Nat.zero_le _, rfl, by decide, by decide, rfl⟩, ?_⟩, fun g hg => ?_⟩
  · (repeat' (first | (refine And.intro ?_ ?_) | exact True.intro | (show _ = _; with_reducible rfl) | exact Chk.mk (by kernel_rfl)))
    all_goals rfl
  obtain ⟨i, out, c⟩ := g
  obtain ⟨g1, g2, g3, g4, g5⟩ := hg
  have g1 : i ≤ max a.length b.length := g1
  have g2 : out.length = i := g2
  have g3 : 0 ≤ c := g3
  have g4 : c ≤ 1 := g4
  have g5 : out ++ sumR (a.drop i) (b.drop i) c = sumR a b 0 := g5
  by_cases hlt : i < max a.length b.length
  · obtain ⟨a1, a2⟩ := dgAt_bd da (i : Int)
    obtain ⟨b1, b2⟩ := dgAt_bd db (i : Int)
    have hm : Int.tmod (dgAt a i + dgAt b i + c) 32768 = (dgAt a i + dgAt b i + c) % 32768 := Int.tmod_eq_emod_of_nonneg (by omega)
    have hd : Int.tdiv (dgAt a i + dgAt b i + c) 32768 = (dgAt a i + dgAt b i + c) / 32768 := Int.tdiv_eq_ediv_of_nonneg (by omega)
    have rd : rngI .i64 (Int.tdiv (dgAt a i + dgAt b i + c) 32768) := by rw [hd]; exact rng64 (by omega) (by omega)
    have r1 : rngI .i64 (dgAt a i + dgAt b i) := rng64 (by omega) (by omega)
    have r2 : rngI .i64 (dgAt a i + dgAt b i + c) := rng64 (by omega) (by omega)
    (repeat' (first | (refine xI (fun hfk => ?_) (fun hfk => ?_) <;> ((try (first | replace hfk := oT hfk | replace hfk := oF hfk | simp only [oA, oB, dh1, dh0, ne_eq, reduceCtorEq] at hfk)); (try (exfalso; first | omega | contradiction | exact xF hfk (by with_reducible assumption) | exact xT hfk (by with_reducible assumption))))) | (refine And.intro ?ob ?_; (case ob => (first | exact Chk.mk (by kernel_rfl) | exact True.intro | with_reducible assumption | exact rng64 (by omega) (by omega) | omega | (dsimp only; omega) | (show (_ : Nat) ≤ _; omega) | (simp only [ll1, ll2, ll0]; first | done | omega) | (dsimp only; simp only [ll1, ll2, ll0]; omega)))) | exact True.intro | (show _ = _; first | with_reducible rfl | with_reducible assumption | omega | (simp only [ll1, ll2, ll0]; omega) | (skip; done) | exact rfl) | with_reducible assumption | (apply And.intro) | omega | (intro j hj; exact rfl)))
    all_goals
      refine ⟨(i + 1, out ++ [(dgAt a i + dgAt b i + c) % 32768], (dgAt a i + dgAt b i + c) / 32768), [some 2], ?_, ?mu, ?_⟩
      case mu => (show max a.length b.length - (i + 1) < max a.length b.length - i; omega)
      · refine ⟨hlt, by simp [g2], by show 0 ≤ (dgAt a i + dgAt b i + c) / 32768; omega, by show (dgAt a i + dgAt b i + c) / 32768 ≤ 1; omega, ?_⟩
        show (out ++ [_]) ++ sumR (a.drop (i + 1)) (b.drop (i + 1)) _ = _
        rw [← g5, sumR_step hlt, List.append_assoc]; rfl
      have qa : out ++ List.take 1 (List.drop 0 [Int.tmod (dgAt a i + dgAt b i + c) 32768]) = out ++ [(dgAt a i + dgAt b i + c) % 32768] := by rw [hm]; rfl
      (repeat' (first | (refine And.intro ?_ ?_) | exact True.intro | (show _ = _; with_reducible rfl) | exact Chk.mk (by kernel_rfl)))
      all_goals first | exact hd | exact qa | (show (_ : Int) = _; omega) | (show out.length + 1 = i + 1; omega)
  · have ge := sumR_end (c := c) hlt
    rw [ge] at g5
    have gd : Dig (out ++ [c]) := by rw [g5]; exact sumR_dig da db (by decide) (by decide)
    have gv : trimL (out ++ [c]) = dgs (valD a + valD b).toNat := by
      rw [trim_dgs gd, g5, sumR_val, Int.add_zero]
    have qv : List.take (out.length + (List.take 1 (List.drop 0 [c])).length) (List.drop 0 (out ++ List.take 1 (List.drop 0 [c]))) = out ++ [c] := by
      show List.take (out.length + 1) (out ++ [c]) = _
      rw [List.take_of_length_le (by simp)]
    have qs : ShT (List.take (out.length + (List.take 1 (List.drop 0 [c])).length) (List.drop 0 (out ++ List.take 1 (List.drop 0 [c])))) := by
      rw [qv]
      exact ⟨by rw [List.length_append, List.length_singleton]; omega⟩
    have qt : trimL (List.take (out.length + (List.take 1 (List.drop 0 [c])).length) (List.drop 0 (out ++ List.take 1 (List.drop 0 [c])))) = dgs (valD a + valD b).toNat := by rw [qv]; exact gv
    (repeat' (first | (refine xI (fun hfk => ?_) (fun hfk => ?_) <;> ((try (first | replace hfk := oT hfk | replace hfk := oF hfk | simp only [oA, oB, dh1, dh0, ne_eq, reduceCtorEq] at hfk)); (try (exfalso; first | omega | contradiction | exact xF hfk (by with_reducible assumption) | exact xT hfk (by with_reducible assumption))))) | (refine And.intro ?ob ?_; (case ob => (first | exact Chk.mk (by kernel_rfl) | exact True.intro | with_reducible assumption | exact rng64 (by omega) (by omega) | omega | (dsimp only; omega) | (show (_ : Nat) ≤ _; omega) | (simp only [ll1, ll2, ll0]; first | done | omega) | (dsimp only; simp only [ll1, ll2, ll0]; omega)))) | exact True.intro | (show _ = _; first | with_reducible rfl | with_reducible assumption | omega | (simp only [ll1, ll2, ll0]; omega) | (exact qt; done) | exact rfl) | with_reducible assumption | (apply And.intro) | omega | (intro j hj; exact rfl)))
end Go.Proofs.YtocboijpmmlegaaDoor
namespace Go.Proofs.YtocboijpmmlegaaDoor
open Go Go.RowKit
set_option maxHeartbeats 4000000
def cmpV (a b : Int) : Int := if a < b then -1 else if b < a then 1 else 0
abbrev lessS : PSpec := sL2 (fun a b => [Sh a, Sh b, Dig a, Dig b]) fun a b => .int .i64 (cmpV (valD a) (valD b))
theorem less_s : SOK Tryd.prog 67 lessS := by
  refine sok_of (C := mkC 0 [(65, digitS)] noG) (mkC_ok (pok_cons digit_s pok_nil) noG_ok) rfl mixed ⟨Tryd.func67, by kernel_rfl, by kernel_rfl, by kernel_rfl⟩ fun l obs v h ho => ?_
  unfold lessS at h
  (unfold sL2 at h; split at h; rotate_left; (focus (cases h)); rename_i a b; simp only [Option.some.injEq, Prod.mk.injEq] at h; obtain ⟨rfl, rfl⟩ := h; simp only [List.mem_cons, List.not_mem_nil, or_false, forall_eq_or_imp, forall_eq, false_implies, implies_true] at ho)
  obtain ⟨sa, sb, da, db⟩ := ho
  have la := sa.le
  have lb := sb.le
  obtain ⟨M, hM⟩ : ∃ M, max a.length b.length = M := ⟨_, rfl⟩
  have hMi : max (a.length : Int) (b.length : Int) = (M : Int) := by omega
  have r0 : rngI .i64 (max (a.length : Int) (b.length : Int) - 1) := rng64 (by omega) (by omega)
  refine ⟨Nat.le_of_ble_eq_true rfl, ?_⟩
  (repeat' (first | (refine xI (fun hfk => ?_) (fun hfk => ?_) <;> ((try (first | replace hfk := oT hfk | replace hfk := oF hfk | simp only [oA, oB, dh1, dh0, ne_eq, reduceCtorEq] at hfk)); (try (exfalso; first | omega | contradiction | exact xF hfk (by with_reducible assumption) | exact xT hfk (by with_reducible assumption))))) | (refine And.intro ?ob ?_; (case ob => (first | exact Chk.mk (by kernel_rfl) | exact True.intro | with_reducible assumption | exact rng64 (by omega) (by omega) | omega | (dsimp only; omega) | (show (_ : Nat) ≤ _; omega) | (simp only [ll1, ll2, ll0]; first | done | omega) | (dsimp only; simp only [ll1, ll2, ll0]; omega)))) | exact True.intro | (show _ = _; first | with_reducible rfl | with_reducible assumption | omega | (simp only [ll1, ll2, ll0]; omega) | (skip; done) | exact rfl) | with_reducible assumption | (apply And.intro) | omega | (intro j hj; exact rfl)))
  refine ⟨Nat, fun k => [(0, .roi .i64 a), (1, .roi .i64 b), (5, .int .i64 ((k : Int) - 1))], fun k => ⟨0, []⟩, fun k => k ≤ M ∧ valD (a.drop k) = valD (b.drop k), fun k => k, ⟨M, [], ⟨Nat.le_refl _, ?_⟩, ?_⟩, fun k hk => ?_⟩
  · rw [drop_out (l := a) (by omega), drop_out (l := b) (by omega)]
  · (repeat' (first | (refine And.intro ?_ ?_) | exact True.intro | (show _ = _; with_reducible rfl) | exact Chk.mk (by kernel_rfl)))
    show max (a.length : Int) (b.length : Int) - 1 = (M : Int) - 1
    omega
  obtain ⟨hk, he⟩ := hk
  cases k with
  | zero =>
    rw [List.drop_zero, List.drop_zero] at he
    have e : (0 : Int) = cmpV (valD a) (valD b) := by unfold cmpV; rw [if_neg (by omega), if_neg (by omega)]
    (repeat' (first | (refine xI (fun hfk => ?_) (fun hfk => ?_) <;> ((try (first | replace hfk := oT hfk | replace hfk := oF hfk | simp only [oA, oB, dh1, dh0, ne_eq, reduceCtorEq] at hfk)); (try (exfalso; first | omega | contradiction | exact xF hfk (by with_reducible assumption) | exact xT hfk (by with_reducible assumption))))) | (refine And.intro ?ob ?_; (case ob => (first | exact Chk.mk (by kernel_rfl) | exact True.intro | with_reducible assumption | exact rng64 (by omega) (by omega) | omega | (dsimp only; omega) | (show (_ : Nat) ≤ _; omega) | (simp only [ll1, ll2, ll0]; first | done | omega) | (dsimp only; simp only [ll1, ll2, ll0]; omega)))) | exact True.intro | (show _ = _; first | with_reducible rfl | with_reducible assumption | omega | (simp only [ll1, ll2, ll0]; omega) | (exact e; done) | exact rfl) | with_reducible assumption | (apply And.intro) | omega | (intro j hj; exact rfl)))
  | succ j =>
    have ej : (((j + 1 : Nat) : Int) - 1) = (j : Int) := by omega
    have va := valD_drop a j
    have vb := valD_drop b j
    rcases Int.lt_trichotomy (dgAt a j) (dgAt b j) with hc | hc | hc
    · have hl := lt_drop (i := j) da db (by omega)
      have hc' : dgAt a (((j + 1 : Nat) : Int) - 1) < dgAt b (((j + 1 : Nat) : Int) - 1) := by rw [ej]; exact hc
      have e : (-1 : Int) = cmpV (valD a) (valD b) := by unfold cmpV; rw [if_pos hl]
      (repeat' (first | (refine xI (fun hfk => ?_) (fun hfk => ?_) <;> ((try (first | replace hfk := oT hfk | replace hfk := oF hfk | simp only [oA, oB, dh1, dh0, ne_eq, reduceCtorEq] at hfk)); (try (exfalso; first | omega | contradiction | exact xF hfk (by with_reducible assumption) | exact xT hfk (by with_reducible assumption))))) | (refine And.intro ?ob ?_; (case ob => (first | exact Chk.mk (by kernel_rfl) | exact True.intro | with_reducible assumption | exact rng64 (by omega) (by omega) | omega | (dsimp only; omega) | (show (_ : Nat) ≤ _; omega) | (simp only [ll1, ll2, ll0]; first | done | omega) | (dsimp only; simp only [ll1, ll2, ll0]; omega)))) | exact True.intro | (show _ = _; first | with_reducible rfl | with_reducible assumption | omega | (simp only [ll1, ll2, ll0]; omega) | (exact e; done) | exact rfl) | with_reducible assumption | (apply And.intro) | omega | (intro j hj; exact rfl)))
    · have hc' : dgAt a (((j + 1 : Nat) : Int) - 1) = dgAt b (((j + 1 : Nat) : Int) - 1) := by rw [ej]; exact hc
      have rj : rngI .i64 (((j + 1 : Nat) : Int) - 1 - 1) := rng64 (by omega) (by omega)
      (repeat' (first | (refine xI (fun hfk => ?_) (fun hfk => ?_) <;> ((try (first | replace hfk := oT hfk | replace hfk := oF hfk | simp only [oA, oB, dh1, dh0, ne_eq, reduceCtorEq] at hfk)); (try (exfalso; first | omega | contradiction | exact xF hfk (by with_reducible assumption) | exact xT hfk (by with_reducible assumption))))) | (refine And.intro ?ob ?_; (case ob => (first | exact Chk.mk (by kernel_rfl) | exact True.intro | with_reducible assumption | exact rng64 (by omega) (by omega) | omega | (dsimp only; omega) | (show (_ : Nat) ≤ _; omega) | (simp only [ll1, ll2, ll0]; first | done | omega) | (dsimp only; simp only [ll1, ll2, ll0]; omega)))) | exact True.intro | (show _ = _; first | with_reducible rfl | with_reducible assumption | omega | (simp only [ll1, ll2, ll0]; omega) | (skip; done) | exact rfl) | with_reducible assumption | (apply And.intro) | omega | (intro j hj; exact rfl)))
      (refine ⟨j, [], ?_, ?mu, ?_⟩; (case mu => ((try dsimp only); omega)))
      · exact ⟨by omega, by omega⟩
      (repeat' (first | (refine xI (fun hfk => ?_) (fun hfk => ?_) <;> ((try (first | replace hfk := oT hfk | replace hfk := oF hfk | simp only [oA, oB, dh1, dh0, ne_eq, reduceCtorEq] at hfk)); (try (exfalso; first | omega | contradiction | exact xF hfk (by with_reducible assumption) | exact xT hfk (by with_reducible assumption))))) | (refine And.intro ?ob ?_; (case ob => (first | exact Chk.mk (by kernel_rfl) | exact True.intro | with_reducible assumption | exact rng64 (by omega) (by omega) | omega | (dsimp only; omega) | (show (_ : Nat) ≤ _; omega) | (simp only [ll1, ll2, ll0]; first | done | omega) | (dsimp only; simp only [ll1, ll2, ll0]; omega)))) | exact True.intro | (show _ = _; first | with_reducible rfl | with_reducible assumption | omega | (simp only [ll1, ll2, ll0]; omega) | (skip; done) | exact rfl) | with_reducible assumption | (apply And.intro) | omega | (intro j hj; exact rfl)))
    · have hl := lt_drop (i := j) db da (by omega)
      have hc' : dgAt b (((j + 1 : Nat) : Int) - 1) < dgAt a (((j + 1 : Nat) : Int) - 1) := by rw [ej]; exact hc
      have e : (1 : Int) = cmpV (valD a) (valD b) := by unfold cmpV; rw [if_neg (by omega), if_pos hl]
      (repeat' (first | (refine xI (fun hfk => ?_) (fun hfk => ?_) <;> ((try (first | replace hfk := oT hfk | replace hfk := oF hfk | simp only [oA, oB, dh1, dh0, ne_eq, reduceCtorEq] at hfk)); (try (exfalso; first | omega | contradiction | exact xF hfk (by with_reducible assumption) | exact xT hfk (by with_reducible assumption))))) | (refine And.intro ?ob ?_; (case ob => (first | exact Chk.mk (by kernel_rfl) | exact True.intro | with_reducible assumption | exact rng64 (by omega) (by omega) | omega | (dsimp only; omega) | (show (_ : Nat) ≤ _; omega) | (simp only [ll1, ll2, ll0]; first | done | omega) | (dsimp only; simp only [ll1, ll2, ll0]; omega)))) | exact True.intro | (show _ = _; first | with_reducible rfl | with_reducible assumption | omega | (simp only [ll1, ll2, ll0]; omega) | (exact e; done) | exact rfl) | with_reducible assumption | (apply And.intro) | omega | (intro j hj; exact rfl)))
abbrev restS01 : PSpec := sL2 (fun a b => [Sh a, Sh b, Dig a, Dig b, valD b ≤ valD a]) fun a b => .roi .i64 (dgs (valD a - valD b).toNat)
theorem rest01_s : SOK Tryd.prog 68 restS01 := by
  refine sok_of (C := mkC 0 [(65, digitS)] (glook [(66, frzP trimS)])) (mkC_ok (pok_cons digit_s pok_nil) (gl_cons (gfrzP trim_s) gl_nil)) rfl mixed ⟨Tryd.func68, by kernel_rfl, by kernel_rfl, by kernel_rfl⟩ fun l obs v h ho => ?_
  unfold restS01 at h
  (unfold sL2 at h; split at h; rotate_left; (focus (cases h)); rename_i a b; simp only [Option.some.injEq, Prod.mk.injEq] at h; obtain ⟨rfl, rfl⟩ := h; simp only [List.mem_cons, List.not_mem_nil, or_false, forall_eq_or_imp, forall_eq, false_implies, implies_true] at ho)
  obtain ⟨sa, sb, da, db, hle⟩ := ho
  have la := sa.le
  refine ⟨Nat.le_of_ble_eq_true rfl, ?_⟩
  (repeat' (first | (refine xI (fun hfk => ?_) (fun hfk => ?_) <;> ((try (first | replace hfk := oT hfk | replace hfk := oF hfk | simp only [oA, oB, dh1, dh0, ne_eq, reduceCtorEq] at hfk)); (try (exfalso; first | omega | contradiction | exact xF hfk (by with_reducible assumption) | exact xT hfk (by with_reducible assumption))))) | (refine And.intro ?ob ?_; (case ob => (first | exact Chk.mk (by kernel_rfl) | exact True.intro | with_reducible assumption | exact rng64 (by omega) (by omega) | omega | (dsimp only; omega) | (show (_ : Nat) ≤ _; omega) | (simp only [ll1, ll2, ll0]; first | done | omega) | (dsimp only; simp only [ll1, ll2, ll0]; omega)))) | exact True.intro | (show _ = _; first | with_reducible rfl | with_reducible assumption | omega | (simp only [ll1, ll2, ll0]; omega) | (skip; done) | exact rfl) | with_reducible assumption | (apply And.intro) | omega | (intro j hj; exact rfl)))
  refine ⟨Nat × List Int × Int, fun g => [(0, .roi .i64 a), (1, .roi .i64 b), (5, .sl 0 1 0 g.1), (6, .int .i64 g.2.2), (7, .int .i64 (g.1 : Int))], fun g => ⟨1, [(0, some (.ints 3 .i64 g.2.1))]⟩,
    fun g => g.1 ≤ a.length ∧ g.2.1.length = g.1 ∧ 0 ≤ g.2.2 ∧ g.2.2 ≤ 1 ∧ g.2.1 ++ restR (a.drop g.1) (b.drop g.1) g.2.2 = restR a b 0, fun g => a.length - g.1, ⟨(0, [], 0), [none], ⟨Nat.zero_le _, rfl, by decide, by decide, rfl⟩, ?_⟩, fun g hg => ?_⟩
  · (repeat' (first | (refine And.intro ?_ ?_) | exact True.intro | (show _ = _; with_reducible rfl) | exact Chk.mk (by kernel_rfl)))
    all_goals rfl
  obtain ⟨i, out, c⟩ := g
  obtain ⟨g1, g2, g3, g4, g5⟩ := hg
  have g1 : i ≤ a.length := g1
  have g2 : out.length = i := g2
  have g3 : 0 ≤ c := g3
  have g4 : c ≤ 1 := g4
  have g5 : out ++ restR (a.drop i) (b.drop i) c = restR a b 0 := g5
  by_cases hlt : i < a.length
  · obtain ⟨a1, a2⟩ := dgAt_bd da (i : Int)
    obtain ⟨b1, b2⟩ := dgAt_bd db (i : Int)
    have r1 : rngI .i64 (dgAt a i - dgAt b i) := rng64 (by omega) (by omega)
    have r2 : rngI .i64 (dgAt a i - dgAt b i - c) := rng64 (by omega) (by omega)
    have r3 : rngI .i64 (dgAt a i - dgAt b i - c + 32768) := rng64 (by omega) (by omega)
    have st := restR_step (b := b) (c := c) hlt
    by_cases hs : dgAt a i - dgAt b i - c < 0
    · rw [if_pos hs, if_pos hs] at st
      (repeat' (first | (refine xI (fun hfk => ?_) (fun hfk => ?_) <;> ((try (first | replace hfk := oT hfk | replace hfk := oF hfk | simp only [oA, oB, dh1, dh0, ne_eq, reduceCtorEq] at hfk)); (try (exfalso; first | omega | contradiction | exact xF hfk (by with_reducible assumption) | exact xT hfk (by with_reducible assumption))))) | (refine And.intro ?ob ?_; (case ob => (first | exact Chk.mk (by kernel_rfl) | exact True.intro | with_reducible assumption | exact rng64 (by omega) (by omega) | omega | (dsimp only; omega) | (show (_ : Nat) ≤ _; omega) | (simp only [ll1, ll2, ll0]; first | done | omega) | (dsimp only; simp only [ll1, ll2, ll0]; omega)))) | exact True.intro | (show _ = _; first | with_reducible rfl | with_reducible assumption | omega | (simp only [ll1, ll2, ll0]; omega) | (skip; done) | exact rfl) | with_reducible assumption | (apply And.intro) | omega | (intro j hj; exact rfl)))
      refine ⟨(i + 1, out ++ [dgAt a i - dgAt b i - c + 32768], 1), [some 2], ?_, ?mu, ?_⟩
      case mu => (show a.length - (i + 1) < a.length - i; omega)
      · refine ⟨hlt, by simp [g2], by show (0:Int) ≤ 1; decide, by show (1:Int) ≤ 1; decide, ?_⟩
        show (out ++ [_]) ++ restR (a.drop (i + 1)) (b.drop (i + 1)) _ = _
        rw [← g5, st, List.append_assoc]; rfl
      (repeat' (first | (refine And.intro ?_ ?_) | exact True.intro | (show _ = _; with_reducible rfl) | exact Chk.mk (by kernel_rfl)))
      all_goals first | rfl | (show (_ : Int) = _; omega) | (show out.length + 1 = i + 1; omega)
    · rw [if_neg hs, if_neg hs] at st
      (repeat' (first | (refine xI (fun hfk => ?_) (fun hfk => ?_) <;> ((try (first | replace hfk := oT hfk | replace hfk := oF hfk | simp only [oA, oB, dh1, dh0, ne_eq, reduceCtorEq] at hfk)); (try (exfalso; first | omega | contradiction | exact xF hfk (by with_reducible assumption) | exact xT hfk (by with_reducible assumption))))) | (refine And.intro ?ob ?_; (case ob => (first | exact Chk.mk (by kernel_rfl) | exact True.intro | with_reducible assumption | exact rng64 (by omega) (by omega) | omega | (dsimp only; omega) | (show (_ : Nat) ≤ _; omega) | (simp only [ll1, ll2, ll0]; first | done | omega) | (dsimp only; simp only [ll1, ll2, ll0]; omega)))) | exact True.intro | (show _ = _; first | with_reducible rfl | with_reducible assumption | omega | (simp only [ll1, ll2, ll0]; omega) | (skip; done) | exact rfl) | with_reducible assumption | (apply And.intro) | omega | (intro j hj; exact rfl)))
      refine ⟨(i + 1, out ++ [dgAt a i - dgAt b i - c], 0), [some 2], ?_, ?mu, ?_⟩
      case mu => (show a.length - (i + 1) < a.length - i; omega)
      · refine ⟨hlt, by simp [g2], by show (0:Int) ≤ 0; decide, by show (0:Int) ≤ 1; decide, ?_⟩
        show (out ++ [_]) ++ restR (a.drop (i + 1)) (b.drop (i + 1)) _ = _
        rw [← g5, st, List.append_assoc]; rfl
      (repeat' (first | (refine And.intro ?_ ?_) | exact True.intro | (show _ = _; with_reducible rfl) | exact Chk.mk (by kernel_rfl)))
      all_goals first | rfl | (show (_ : Int) = _; omega) | (show out.length + 1 = i + 1; omega)
  · have hi : i = a.length := by omega
    have ge : restR (a.drop i) (b.drop i) c = [] := by rw [drop_out (l := a) (by omega), restR]
    rw [ge, List.append_nil] at g5
    have gd : Dig out := by rw [g5]; exact restR_dig da db (by decide) (by decide)
    have gv : trimL out = dgs (valD a - valD b).toNat := by
      rw [trim_dgs gd, g5, restR_val da db (by decide) (by decide) (by omega), Int.sub_zero]
    have qv : List.take i (List.drop 0 out) = out := by rw [List.drop_zero, List.take_of_length_le (by omega)]
    have qs : ShT (List.take i (List.drop 0 out)) := by
      rw [qv]
      exact ⟨by omega⟩
    have qt : trimL (List.take i (List.drop 0 out)) = dgs (valD a - valD b).toNat := by rw [qv]; exact gv
    (repeat' (first | (refine xI (fun hfk => ?_) (fun hfk => ?_) <;> ((try (first | replace hfk := oT hfk | replace hfk := oF hfk | simp only [oA, oB, dh1, dh0, ne_eq, reduceCtorEq] at hfk)); (try (exfalso; first | omega | contradiction | exact xF hfk (by with_reducible assumption) | exact xT hfk (by with_reducible assumption))))) | (refine And.intro ?ob ?_; (case ob => (first | exact Chk.mk (by kernel_rfl) | exact True.intro | with_reducible assumption | exact rng64 (by omega) (by omega) | omega | (dsimp only; omega) | (show (_ : Nat) ≤ _; omega) | (simp only [ll1, ll2, ll0]; first | done | omega) | (dsimp only; simp only [ll1, ll2, ll0]; omega)))) | exact True.intro | (show _ = _; first | with_reducible rfl | with_reducible assumption | omega | (simp only [ll1, ll2, ll0]; omega) | (exact qt; done) | exact rfl) | with_reducible assumption | (apply And.intro) | omega | (intro j hj; exact rfl)))
end Go.Proofs.YtocboijpmmlegaaDoor
namespace Go.Proofs.YtocboijpmmlegaaDoor
open Go Go.RowKit
set_option maxHeartbeats 4000000
structure Bg (s : Bool) (l : List Int) : Prop where
  dig : Dig l
  can : dgs (valD l).toNat = l
  sh : Sh l
  sg : s = true → valD l ≠ 0
def bzv (s : Bool) (l : List Int) : Int := if s = true then -(valD l) else valD l
abbrev bigA (z : Int) : AV := .agg [.bool (decide (z < 0)), .roi .i64 (dgs z.natAbs)]
theorem bzv_big (z : Int) : bzv (decide (z < 0)) (dgs z.natAbs) = z := by
  unfold bzv
  rw [valD_dgs]
  by_cases h : z < 0
  · rw [decide_eq_true h, if_pos rfl]; omega
  · rw [decide_eq_false h, if_neg (by simp)]; omega
theorem Bg_big {z : Int} (h : (dgs z.natAbs).length ≤ 1000000) : Bg (decide (z < 0)) (dgs z.natAbs) :=
  ⟨Dig_dgs _, by rw [valD_dgs, Int.toNat_natCast], ⟨h⟩, fun k => by have k := of_decide_eq_true k; rw [valD_dgs]; omega⟩
theorem dgs_len0 {n : Nat} : (0 < ((dgs n).length : Int)) ↔ 0 < n := by
  by_cases h : n = 0
  · subst h; rw [dgs_0]; simp
  · rw [dgs_pos h, List.length_cons]; constructor <;> intro _ <;> omega
theorem made_sg (t : Bool) (n : Nat) : (t && decide (0 < ((dgs n).length : Int))) = decide ((if t = true then -(n : Int) else n) < 0) := by
  cases t with
  | true =>
    rw [if_pos rfl, Bool.true_and]
    exact decide_eq_decide.2 ⟨fun h => by have := dgs_len0.1 h; omega, fun h => dgs_len0.2 (by omega)⟩
  | false =>
    rw [if_neg (by simp), Bool.false_and]
    exact (decide_eq_false (by omega)).symm
theorem made_dg (t : Bool) (n : Nat) : dgs n = dgs (if t = true then -(n : Int) else n).natAbs := by
  cases t with
  | true => rw [if_pos rfl]; congr 1; omega
  | false => rw [if_neg (by simp)]; congr 1
theorem made_z {t : Bool} {n : Nat} {z : Int} (h : (if t = true then -(n : Int) else n) = z) : (t && decide (0 < ((dgs n).length : Int))) = decide (z < 0) ∧ dgs n = dgs z.natAbs := by
  rw [← h]; exact ⟨made_sg t n, made_dg t n⟩
theorem dgs_len : ∀ {k n : Nat}, n < 32768 ^ k → (dgs n).length ≤ k
  | 0, n, h => by
    have : n = 0 := by simpa using h
    subst this; rw [dgs_0]; exact Nat.le_refl _
  | k + 1, n, h => by
    by_cases hn : n = 0
    · subst hn; rw [dgs_0]; exact Nat.zero_le _
    · rw [dgs_pos hn, List.length_cons]
      have : n / 32768 < 32768 ^ k := by
        rw [Nat.pow_succ] at h
        exact Nat.div_lt_of_lt_mul (by rw [Nat.mul_comm]; exact h)
      have := dgs_len this
      omega
abbrev gB1 (ob : Bool → List Int → List Prop) (f : Bool → List Int → AV) : PSpec := fun l => match l with | [.agg [.bool s, .roi .i64 d]] => some (ob s d, f s d) | _ => none
abbrev gB2 (ob : Bool → List Int → Bool → List Int → List Prop) (f : Bool → List Int → Bool → List Int → AV) : PSpec := fun l => match l with | [.agg [.bool s, .roi .i64 d], .agg [.bool t, .roi .i64 e]] => some (ob s d t e, f s d t e) | _ => none
abbrev negS : PSpec := gB1 (fun s d => [Bg s d]) fun s d => bigA (-(bzv s d))
theorem neg_s : SOK Tryd.prog 72 negS := by
  refine sok_of (C := mkC 0 [(69, madeS)] noG) (mkC_ok (pok_cons made_s pok_nil) noG_ok) rfl mixed ⟨Tryd.func72, by kernel_rfl, by kernel_rfl, by kernel_rfl⟩ fun l obs v h ho => ?_
  unfold negS at h
  (unfold gB1 at h; split at h; rotate_left; (focus (cases h)); rename_i s d; simp only [Option.some.injEq, Prod.mk.injEq] at h; obtain ⟨rfl, rfl⟩ := h; simp only [List.mem_cons, List.not_mem_nil, or_false, forall_eq_or_imp, forall_eq, false_implies, implies_true] at ho)
  have hn := valD_nn ho.dig
  have hz : (if (!s) = true then -((valD d).toNat : Int) else ((valD d).toNat : Int)) = -(bzv s d) := by
    unfold bzv
    cases s <;> simp <;> omega
  obtain ⟨e1, e2⟩ := made_z hz
  rw [ho.can] at e1 e2
  refine ⟨Nat.le_of_ble_eq_true rfl, ?_⟩
  (repeat' (first | (refine xI (fun hfk => ?_) (fun hfk => ?_) <;> ((try (first | replace hfk := oT hfk | replace hfk := oF hfk | simp only [oA, oB, dh1, dh0, ne_eq, reduceCtorEq] at hfk)); (try (exfalso; first | omega | contradiction | exact xF hfk (by with_reducible assumption) | exact xT hfk (by with_reducible assumption))))) | (refine And.intro ?ob ?_; (case ob => (first | exact Chk.mk (by kernel_rfl) | exact True.intro | with_reducible assumption | exact rng64 (by omega) (by omega) | omega | (dsimp only; omega) | (show (_ : Nat) ≤ _; omega) | (simp only [ll1, ll2, ll0]; first | done | omega) | (dsimp only; simp only [ll1, ll2, ll0]; omega)))) | exact True.intro | (show _ = _; first | with_reducible rfl | with_reducible assumption | omega | (simp only [ll1, ll2, ll0]; omega) | (first | exact e1 | exact e2 | exact ⟨e1, e2⟩; done) | exact rfl) | with_reducible assumption | (apply And.intro) | omega | (intro j hj; exact rfl)))
abbrev addS : PSpec := gB2 (fun s d t e => [Bg s d, Bg t e]) fun s d t e => bigA (bzv s d + bzv t e)
theorem add_s : SOK Tryd.prog 71 addS := by
  refine sok_of (C := mkC 0 [(69, madeS), (70, sumS), (68, restS01), (67, lessS)] noG) (mkC_ok (pok_cons made_s (pok_cons sum_s (pok_cons rest01_s (pok_cons less_s pok_nil)))) noG_ok) rfl mixed ⟨Tryd.func71, by kernel_rfl, by kernel_rfl, by kernel_rfl⟩ fun l obs v h ho => ?_
  unfold addS at h
  (unfold gB2 at h; split at h; rotate_left; (focus (cases h)); rename_i s d t e; simp only [Option.some.injEq, Prod.mk.injEq] at h; obtain ⟨rfl, rfl⟩ := h; simp only [List.mem_cons, List.not_mem_nil, or_false, forall_eq_or_imp, forall_eq, false_implies, implies_true] at ho)
  obtain ⟨hd, he⟩ := ho
  have nd := valD_nn hd.dig
  have ne := valD_nn he.dig
  have dd := hd.dig
  have de := he.dig
  have sd := hd.sh
  have se := he.sh
  refine ⟨Nat.le_of_ble_eq_true rfl, ?_⟩
  by_cases hs : s = t
  · have hz : (if s = true then -((valD d + valD e).toNat : Int) else ((valD d + valD e).toNat : Int)) = bzv s d + bzv t e := by
      subst hs
      unfold bzv
      cases s <;> simp <;> omega
    obtain ⟨e1, e2⟩ := made_z hz
    (repeat' (first | (refine xI (fun hfk => ?_) (fun hfk => ?_) <;> ((try (first | replace hfk := oT hfk | replace hfk := oF hfk | simp only [oA, oB, dh1, dh0, ne_eq, reduceCtorEq] at hfk)); (try (exfalso; first | omega | contradiction | exact xF hfk (by with_reducible assumption) | exact xT hfk (by with_reducible assumption))))) | (refine And.intro ?ob ?_; (case ob => (first | exact Chk.mk (by kernel_rfl) | exact True.intro | with_reducible assumption | exact rng64 (by omega) (by omega) | omega | (dsimp only; omega) | (show (_ : Nat) ≤ _; omega) | (simp only [ll1, ll2, ll0]; first | done | omega) | (dsimp only; simp only [ll1, ll2, ll0]; omega)))) | exact True.intro | (show _ = _; first | with_reducible rfl | with_reducible assumption | omega | (simp only [ll1, ll2, ll0]; omega) | (first | exact e1 | exact e2 | exact ⟨e1, e2⟩; done) | exact rfl) | with_reducible assumption | (apply And.intro) | omega | (intro j hj; exact rfl)))
  · by_cases hc : valD e ≤ valD d
    · have hl : 0 ≤ cmpV (valD d) (valD e) := by unfold cmpV; rw [if_neg (by omega)]; split <;> decide
      have hz : (if s = true then -((valD d - valD e).toNat : Int) else ((valD d - valD e).toNat : Int)) = bzv s d + bzv t e := by
        unfold bzv
        cases s <;> cases t <;> simp at hs ⊢ <;> omega
      obtain ⟨e1, e2⟩ := made_z hz
      (repeat' (first | (refine xI (fun hfk => ?_) (fun hfk => ?_) <;> ((try (first | replace hfk := oT hfk | replace hfk := oF hfk | simp only [oA, oB, dh1, dh0, ne_eq, reduceCtorEq] at hfk)); (try (exfalso; first | omega | contradiction | exact xF hfk (by with_reducible assumption) | exact xT hfk (by with_reducible assumption))))) | (refine And.intro ?ob ?_; (case ob => (first | exact Chk.mk (by kernel_rfl) | exact True.intro | with_reducible assumption | exact rng64 (by omega) (by omega) | omega | (dsimp only; omega) | (show (_ : Nat) ≤ _; omega) | (simp only [ll1, ll2, ll0]; first | done | omega) | (dsimp only; simp only [ll1, ll2, ll0]; omega)))) | exact True.intro | (show _ = _; first | with_reducible rfl | with_reducible assumption | omega | (simp only [ll1, ll2, ll0]; omega) | (first | exact e1 | exact e2 | exact ⟨e1, e2⟩; done) | exact rfl) | with_reducible assumption | (apply And.intro) | omega | (intro j hj; exact rfl)))
    · have hc' : valD d ≤ valD e := by omega
      have hl : ¬ 0 ≤ cmpV (valD d) (valD e) := by unfold cmpV; rw [if_pos (by omega)]; decide
      have hz : (if t = true then -((valD e - valD d).toNat : Int) else ((valD e - valD d).toNat : Int)) = bzv s d + bzv t e := by
        unfold bzv
        cases s <;> cases t <;> simp at hs ⊢ <;> omega
      obtain ⟨e1, e2⟩ := made_z hz
      (repeat' (first | (refine xI (fun hfk => ?_) (fun hfk => ?_) <;> ((try (first | replace hfk := oT hfk | replace hfk := oF hfk | simp only [oA, oB, dh1, dh0, ne_eq, reduceCtorEq] at hfk)); (try (exfalso; first | omega | contradiction | exact xF hfk (by with_reducible assumption) | exact xT hfk (by with_reducible assumption))))) | (refine And.intro ?ob ?_; (case ob => (first | exact Chk.mk (by kernel_rfl) | exact True.intro | with_reducible assumption | exact rng64 (by omega) (by omega) | omega | (dsimp only; omega) | (show (_ : Nat) ≤ _; omega) | (simp only [ll1, ll2, ll0]; first | done | omega) | (dsimp only; simp only [ll1, ll2, ll0]; omega)))) | exact True.intro | (show _ = _; first | with_reducible rfl | with_reducible assumption | omega | (simp only [ll1, ll2, ll0]; omega) | (first | exact e1 | exact e2 | exact ⟨e1, e2⟩; done) | exact rfl) | with_reducible assumption | (apply And.intro) | omega | (intro j hj; exact rfl)))
end Go.Proofs.YtocboijpmmlegaaDoor
namespace Go.Proofs.YtocboijpmmlegaaDoor
open Go Go.RowKit
set_option maxHeartbeats 4000000
theorem Bg.nat {s : Bool} {l : List Int} (h : Bg s l) : dgs (bzv s l).natAbs = l := by
  have := valD_nn h.dig
  have e : (bzv s l).natAbs = (valD l).toNat := by unfold bzv; cases s <;> simp <;> omega
  rw [e, h.can]
theorem Bg.neg {s : Bool} {l : List Int} (h : Bg s l) : Bg (decide (-(bzv s l) < 0)) (dgs (-(bzv s l)).natAbs) :=
  Bg_big (by rw [Int.natAbs_neg, h.nat]; exact h.sh.le)
abbrev subS : PSpec := gB2 (fun s d t e => [Bg s d, Bg t e]) fun s d t e => bigA (bzv s d - bzv t e)
theorem sub_s : SOK Tryd.prog 41 subS := by
  refine sok_of (C := mkC 0 [(71, addS), (72, negS)] noG) (mkC_ok (pok_cons add_s (pok_cons neg_s pok_nil)) noG_ok) rfl mixed ⟨Tryd.func41, by kernel_rfl, by kernel_rfl, by kernel_rfl⟩ fun l obs v h ho => ?_
  unfold subS at h
  (unfold gB2 at h; split at h; rotate_left; (focus (cases h)); rename_i s d t e; simp only [Option.some.injEq, Prod.mk.injEq] at h; obtain ⟨rfl, rfl⟩ := h; simp only [List.mem_cons, List.not_mem_nil, or_false, forall_eq_or_imp, forall_eq, false_implies, implies_true] at ho)
  obtain ⟨hd, he⟩ := ho
  have hn := he.neg
  have hz : bzv s d + bzv (decide (-(bzv t e) < 0)) (dgs (-(bzv t e)).natAbs) = bzv s d - bzv t e := by rw [bzv_big]; omega
  have e1 : decide (bzv s d + bzv (decide (-(bzv t e) < 0)) (dgs (-(bzv t e)).natAbs) < 0) = decide (bzv s d - bzv t e < 0) := by rw [hz]
  have e2 : dgs (bzv s d + bzv (decide (-(bzv t e) < 0)) (dgs (-(bzv t e)).natAbs)).natAbs = dgs (bzv s d - bzv t e).natAbs := by rw [hz]
  refine ⟨Nat.le_of_ble_eq_true rfl, ?_⟩
  (repeat' (first | (refine xI (fun hfk => ?_) (fun hfk => ?_) <;> ((try (first | replace hfk := oT hfk | replace hfk := oF hfk | simp only [oA, oB, dh1, dh0, ne_eq, reduceCtorEq] at hfk)); (try (exfalso; first | omega | contradiction | exact xF hfk (by with_reducible assumption) | exact xT hfk (by with_reducible assumption))))) | (refine And.intro ?ob ?_; (case ob => (first | exact Chk.mk (by kernel_rfl) | exact True.intro | with_reducible assumption | exact rng64 (by omega) (by omega) | omega | (dsimp only; omega) | (show (_ : Nat) ≤ _; omega) | (simp only [ll1, ll2, ll0]; first | done | omega) | (dsimp only; simp only [ll1, ll2, ll0]; omega)))) | exact True.intro | (show _ = _; first | with_reducible rfl | with_reducible assumption | omega | (simp only [ll1, ll2, ll0]; omega) | (first | exact e1 | exact e2 | exact ⟨e1, e2⟩; done) | exact rfl) | with_reducible assumption | (apply And.intro) | omega | (intro j hj; exact rfl)))
abbrev unsS : PSpec := fun l => match l with | [.int .u64 x] => some ([0 ≤ x, x < 18446744073709551616], bigA x) | _ => none
theorem uns_s : SOK Tryd.prog 43 unsS := by
  refine sok_of (C := mkC 0 [] noG) (mkC_ok pok_nil noG_ok) rfl mixed ⟨Tryd.func43, by kernel_rfl, by kernel_rfl, by kernel_rfl⟩ fun l obs v h ho => ?_
  (unfold unsS at h; split at h; rotate_left; (focus (cases h)); rename_i x; simp only [Option.some.injEq, Prod.mk.injEq] at h; obtain ⟨rfl, rfl⟩ := h; simp only [List.mem_cons, List.not_mem_nil, or_false, forall_eq_or_imp, forall_eq, false_implies, implies_true] at ho)
  obtain ⟨h0, h1⟩ := ho
  have hk : (dgs x.toNat).length ≤ 5 := dgs_len (by rw [show (32768 : Nat) ^ 5 = 37778931862957161709568 from by decide]; omega)
  refine ⟨Nat.le_of_ble_eq_true rfl, ?_⟩
  (repeat' (first | (refine xI (fun hfk => ?_) (fun hfk => ?_) <;> ((try (first | replace hfk := oT hfk | replace hfk := oF hfk | simp only [oA, oB, dh1, dh0, ne_eq, reduceCtorEq] at hfk)); (try (exfalso; first | omega | contradiction | exact xF hfk (by with_reducible assumption) | exact xT hfk (by with_reducible assumption))))) | (refine And.intro ?ob ?_; (case ob => (first | exact Chk.mk (by kernel_rfl) | exact True.intro | with_reducible assumption | exact rng64 (by omega) (by omega) | omega | (dsimp only; omega) | (show (_ : Nat) ≤ _; omega) | (simp only [ll1, ll2, ll0]; first | done | omega) | (dsimp only; simp only [ll1, ll2, ll0]; omega)))) | exact True.intro | (show _ = _; first | with_reducible rfl | with_reducible assumption | omega | (simp only [ll1, ll2, ll0]; omega) | (skip; done) | exact rfl) | with_reducible assumption | (apply And.intro) | omega | (intro j hj; exact rfl)))
  refine ⟨Int × List Int, fun g => [(0, .int .u64 g.1), (2, .ptr 0 0), (3, .sl 1 1 0 g.2.length)], fun g => ⟨2, [(0, some (.cells 49 [.fls, .nils])), (1, some (.ints 3 .i64 g.2))]⟩,
    fun g => 0 ≤ g.1 ∧ g.1 ≤ x ∧ g.2 ++ dgs g.1.toNat = dgs x.toNat, fun g => g.1.toNat, ⟨(x, []), [some 0, none], ⟨h0, Int.le_refl _, rfl⟩, ?_⟩, fun g hg => ?_⟩
  · (repeat' (first | (refine And.intro ?_ ?_) | exact True.intro | (show _ = _; with_reducible rfl) | exact Chk.mk (by kernel_rfl)))
    all_goals rfl
  obtain ⟨y, out⟩ := g
  obtain ⟨g0, g1, g2⟩ := hg
  have g0 : 0 ≤ y := g0
  have g1 : y ≤ x := g1
  have g2 : out ++ dgs y.toNat = dgs x.toNat := g2
  have g3 : out.length + (dgs y.toNat).length ≤ 5 := by rw [← List.length_append, g2]; exact hk
  by_cases hp : 0 < y
  · have hm : Int.tmod y 32768 = y % 32768 := Int.tmod_eq_emod_of_nonneg g0
    have hd : Int.tdiv y 32768 = y / 32768 := Int.tdiv_eq_ediv_of_nonneg g0
    have hw : IntKind.u64.wrap (Int.tdiv y 32768) = y / 32768 := by
      rw [hd]; exact wrap_rng ⟨by show (0 : Int) ≤ _; omega, by show _ ≤ (18446744073709551615 : Int); omega⟩
    have rm : rngI .i64 (Int.tmod y 32768) := by rw [hm]; exact rng64 (by omega) (by omega)
    have st : dgs y.toNat = (y % 32768) :: dgs (y / 32768).toNat := by
      rw [dgs_pos (by omega)]
      congr 1
      · omega
      · congr 1; omega
    (repeat' (first | (refine xI (fun hfk => ?_) (fun hfk => ?_) <;> ((try (first | replace hfk := oT hfk | replace hfk := oF hfk | simp only [oA, oB, dh1, dh0, ne_eq, reduceCtorEq] at hfk)); (try (exfalso; first | omega | contradiction | exact xF hfk (by with_reducible assumption) | exact xT hfk (by with_reducible assumption))))) | (refine And.intro ?ob ?_; (case ob => (first | exact Chk.mk (by kernel_rfl) | exact True.intro | with_reducible assumption | exact rng64 (by omega) (by omega) | omega | (dsimp only; omega) | (show (_ : Nat) ≤ _; omega) | (simp only [ll1, ll2, ll0]; first | done | omega) | (dsimp only; simp only [ll1, ll2, ll0]; omega)))) | exact True.intro | (show _ = _; first | with_reducible rfl | with_reducible assumption | omega | (simp only [ll1, ll2, ll0]; omega) | (skip; done) | exact rfl) | with_reducible assumption | (apply And.intro) | omega | (intro j hj; exact rfl)))
    refine ⟨(y / 32768, out ++ [y % 32768]), [some 0, some 3], ?_, ?mu, ?_⟩
    case mu => (show (y / 32768).toNat < y.toNat; omega)
    · refine ⟨by show 0 ≤ y / 32768; omega, by show y / 32768 ≤ x; omega, ?_⟩
      show (out ++ [_]) ++ dgs (y / 32768).toNat = _
      rw [← g2, st, List.append_assoc]; rfl
    have qa : out ++ List.take 1 (List.drop 0 [Int.tmod y 32768]) = out ++ [y % 32768] := by rw [hm]; rfl
    have ql : out.length + (List.take 1 (List.drop 0 [Int.tmod y 32768])).length = (out ++ [y % 32768]).length := by rw [List.length_append]; rfl
    (repeat' (first | (refine And.intro ?_ ?_) | exact True.intro | (show _ = _; with_reducible rfl) | exact Chk.mk (by kernel_rfl)))
    all_goals first | exact hw | exact qa | exact ql
  · have hy : y = 0 := by omega
    have e2 : List.take out.length (List.drop 0 out) = dgs x.natAbs := by
      rw [hy] at g2
      rw [show x.natAbs = x.toNat from by omega, ← g2, List.drop_zero, List.take_length]
      show out = out ++ dgs 0
      rw [dgs_0, List.append_nil]
    have e1 : false = decide (x < 0) := (decide_eq_false (by omega)).symm
    (repeat' (first | (refine xI (fun hfk => ?_) (fun hfk => ?_) <;> ((try (first | replace hfk := oT hfk | replace hfk := oF hfk | simp only [oA, oB, dh1, dh0, ne_eq, reduceCtorEq] at hfk)); (try (exfalso; first | omega | contradiction | exact xF hfk (by with_reducible assumption) | exact xT hfk (by with_reducible assumption))))) | (refine And.intro ?ob ?_; (case ob => (first | exact Chk.mk (by kernel_rfl) | exact True.intro | with_reducible assumption | exact rng64 (by omega) (by omega) | omega | (dsimp only; omega) | (show (_ : Nat) ≤ _; omega) | (simp only [ll1, ll2, ll0]; first | done | omega) | (dsimp only; simp only [ll1, ll2, ll0]; omega)))) | exact True.intro | (show _ = _; first | with_reducible rfl | with_reducible assumption | omega | (simp only [ll1, ll2, ll0]; omega) | (first | exact e1 | exact e2 | exact ⟨e1, e2⟩; done) | exact rfl) | with_reducible assumption | (apply And.intro) | omega | (intro j hj; exact rfl)))
end Go.Proofs.YtocboijpmmlegaaDoor
namespace Go.Proofs.YtocboijpmmlegaaDoor
open Go Go.RowKit
set_option maxHeartbeats 4000000
theorem u64_id {n : Int} (h0 : 0 ≤ n) (h1 : n < 18446744073709551616) : IntKind.u64.wrap n = n :=
  wrap_rng ⟨by show (0 : Int) ≤ _; exact h0, by show _ ≤ (18446744073709551615 : Int); omega⟩
abbrev ofS : PSpec := fun l => match l with | [.int .i64 x] => some ([-9223372036854775808 ≤ x, x < 9223372036854775808], bigA x) | _ => none
theorem of_s : SOK Tryd.prog 25 ofS := by
  refine sok_of (C := mkC 0 [(43, unsS)] noG) (mkC_ok (pok_cons uns_s pok_nil) noG_ok) rfl mixed ⟨Tryd.func25, by kernel_rfl, by kernel_rfl, by kernel_rfl⟩ fun l obs v h ho => ?_
  (unfold ofS at h; split at h; rotate_left; (focus (cases h)); rename_i x; simp only [Option.some.injEq, Prod.mk.injEq] at h; obtain ⟨rfl, rfl⟩ := h; simp only [List.mem_cons, List.not_mem_nil, or_false, forall_eq_or_imp, forall_eq, false_implies, implies_true] at ho)
  obtain ⟨h0, h1⟩ := ho
  refine ⟨Nat.le_of_ble_eq_true rfl, ?_⟩
  by_cases hx : x < 0
  · have w1 : IntKind.u64.wrap (0 - (x + 1)) = 0 - (x + 1) := u64_id (by omega) (by omega)
    have w2 : IntKind.u64.wrap (IntKind.u64.wrap (0 - (x + 1)) + 1) = -x := by rw [w1, u64_id (by omega) (by omega)]; omega
    have k0 : 0 ≤ IntKind.u64.wrap (IntKind.u64.wrap (0 - (x + 1)) + 1) := by rw [w2]; omega
    have k1 : IntKind.u64.wrap (IntKind.u64.wrap (0 - (x + 1)) + 1) < 18446744073709551616 := by rw [w2]; omega
    have e1 : true = decide (x < 0) := (decide_eq_true hx).symm
    have e2 : dgs (IntKind.u64.wrap (IntKind.u64.wrap (0 - (x + 1)) + 1)).natAbs = dgs x.natAbs := by rw [w2, Int.natAbs_neg]
    have r1 : rngI .i64 (x + 1) := rng64 (by omega) (by omega)
    have r2 : rngI .i64 (0 - (x + 1)) := rng64 (by omega) (by omega)
    (repeat' (first | (refine xI (fun hfk => ?_) (fun hfk => ?_) <;> ((try (first | replace hfk := oT hfk | replace hfk := oF hfk | simp only [oA, oB, dh1, dh0, ne_eq, reduceCtorEq] at hfk)); (try (exfalso; first | omega | contradiction | exact xF hfk (by with_reducible assumption) | exact xT hfk (by with_reducible assumption))))) | (refine And.intro ?ob ?_; (case ob => (first | exact Chk.mk (by kernel_rfl) | exact True.intro | with_reducible assumption | exact rng64 (by omega) (by omega) | omega | (dsimp only; omega) | (show (_ : Nat) ≤ _; omega) | (simp only [ll1, ll2, ll0]; first | done | omega) | (dsimp only; simp only [ll1, ll2, ll0]; omega)))) | exact True.intro | (show _ = _; first | with_reducible rfl | with_reducible assumption | omega | (simp only [ll1, ll2, ll0]; omega) | (first | exact e1 | exact e2 | exact ⟨e1, e2⟩; done) | exact rfl) | with_reducible assumption | (apply And.intro) | omega | (intro j hj; exact rfl)))
  · have w1 : IntKind.u64.wrap x = x := u64_id (by omega) (by omega)
    have k0 : 0 ≤ IntKind.u64.wrap x := by rw [w1]; omega
    have k1 : IntKind.u64.wrap x < 18446744073709551616 := by rw [w1]; omega
    have e1 : decide (IntKind.u64.wrap x < 0) = decide (x < 0) := by rw [w1]
    have e2 : dgs (IntKind.u64.wrap x).natAbs = dgs x.natAbs := by rw [w1]
    (repeat' (first | (refine xI (fun hfk => ?_) (fun hfk => ?_) <;> ((try (first | replace hfk := oT hfk | replace hfk := oF hfk | simp only [oA, oB, dh1, dh0, ne_eq, reduceCtorEq] at hfk)); (try (exfalso; first | omega | contradiction | exact xF hfk (by with_reducible assumption) | exact xT hfk (by with_reducible assumption))))) | (refine And.intro ?ob ?_; (case ob => (first | exact Chk.mk (by kernel_rfl) | exact True.intro | with_reducible assumption | exact rng64 (by omega) (by omega) | omega | (dsimp only; omega) | (show (_ : Nat) ≤ _; omega) | (simp only [ll1, ll2, ll0]; first | done | omega) | (dsimp only; simp only [ll1, ll2, ll0]; omega)))) | exact True.intro | (show _ = _; first | with_reducible rfl | with_reducible assumption | omega | (simp only [ll1, ll2, ll0]; omega) | (first | exact e1 | exact e2 | exact ⟨e1, e2⟩; done) | exact rfl) | with_reducible assumption | (apply And.intro) | omega | (intro j hj; exact rfl)))
theorem valD_drop_le : ∀ {l : List Int} (k : Nat), Dig l → valD (l.drop k) ≤ valD l
  | [], k, h => by simp
  | d :: l, 0, h => by simp
  | d :: l, k + 1, h => by
    have := valD_drop_le (l := l) k h.tail
    have := valD_nn h.tail
    have := h.head.lo
    simp only [List.drop_succ_cons, valD]
    omega
abbrev unsignedS : PSpec := gB1 (fun s d => [Bg s d, valD d < 18446744073709551616]) fun s d => .int .u64 (valD d)
theorem unsigned_s : SOK Tryd.prog 40 unsignedS := by
  refine sok_of (C := mkC 0 [] noG) (mkC_ok pok_nil noG_ok) rfl mixed ⟨Tryd.func40, by kernel_rfl, by kernel_rfl, by kernel_rfl⟩ fun l obs v h ho => ?_
  unfold unsignedS at h
  (unfold gB1 at h; split at h; rotate_left; (focus (cases h)); rename_i s d; simp only [Option.some.injEq, Prod.mk.injEq] at h; obtain ⟨rfl, rfl⟩ := h; simp only [List.mem_cons, List.not_mem_nil, or_false, forall_eq_or_imp, forall_eq, false_implies, implies_true] at ho)
  obtain ⟨hd, hv⟩ := ho
  have dd := hd.dig
  have hl := hd.sh.le
  refine ⟨Nat.le_of_ble_eq_true rfl, ?_⟩
  have r0 : rngI .i64 ((d.length : Int) - 1) := rng64 (by omega) (by omega)
  (repeat' (first | (refine xI (fun hfk => ?_) (fun hfk => ?_) <;> ((try (first | replace hfk := oT hfk | replace hfk := oF hfk | simp only [oA, oB, dh1, dh0, ne_eq, reduceCtorEq] at hfk)); (try (exfalso; first | omega | contradiction | exact xF hfk (by with_reducible assumption) | exact xT hfk (by with_reducible assumption))))) | (refine And.intro ?ob ?_; (case ob => (first | exact Chk.mk (by kernel_rfl) | exact True.intro | with_reducible assumption | exact rng64 (by omega) (by omega) | omega | (dsimp only; omega) | (show (_ : Nat) ≤ _; omega) | (simp only [ll1, ll2, ll0]; first | done | omega) | (dsimp only; simp only [ll1, ll2, ll0]; omega)))) | exact True.intro | (show _ = _; first | with_reducible rfl | with_reducible assumption | omega | (simp only [ll1, ll2, ll0]; omega) | (skip; done) | exact rfl) | with_reducible assumption | (apply And.intro) | omega | (intro j hj; exact rfl)))
  refine ⟨Nat, fun k => [(1, .ptr 0 0), (3, .int .u64 (valD (d.drop k))), (4, .int .i64 ((k : Int) - 1))], fun k => ⟨1, [(0, some (.cells 49 [.bool s, .roi .i64 d]))]⟩, fun k => k ≤ d.length, fun k => k, ⟨d.length, [some 0], Nat.le_refl _, ?_⟩, fun k hk => ?_⟩
  · have e : (0 : Int) = valD (d.drop d.length) := by rw [List.drop_length]; rfl
    (repeat' (first | (refine And.intro ?_ ?_) | exact True.intro | (show _ = _; with_reducible rfl) | exact Chk.mk (by kernel_rfl)))
    all_goals first | rfl | exact e
  have hk : k ≤ d.length := hk
  cases k with
  | zero =>
    have e : valD (d.drop 0) = valD d := by rw [List.drop_zero]
    (repeat' (first | (refine xI (fun hfk => ?_) (fun hfk => ?_) <;> ((try (first | replace hfk := oT hfk | replace hfk := oF hfk | simp only [oA, oB, dh1, dh0, ne_eq, reduceCtorEq] at hfk)); (try (exfalso; first | omega | contradiction | exact xF hfk (by with_reducible assumption) | exact xT hfk (by with_reducible assumption))))) | (refine And.intro ?ob ?_; (case ob => (first | exact Chk.mk (by kernel_rfl) | exact True.intro | with_reducible assumption | exact rng64 (by omega) (by omega) | omega | (dsimp only; omega) | (show (_ : Nat) ≤ _; omega) | (simp only [ll1, ll2, ll0]; first | done | omega) | (dsimp only; simp only [ll1, ll2, ll0]; omega)))) | exact True.intro | (show _ = _; first | with_reducible rfl | with_reducible assumption | omega | (simp only [ll1, ll2, ll0]; omega) | (exact e; done) | exact rfl) | with_reducible assumption | (apply And.intro) | omega | (intro j hj; exact rfl)))
  | succ j =>
    have ej : (((j + 1 : Nat) : Int) - 1) = (j : Int) := by omega
    have et : (((j + 1 : Nat) : Int) - 1).toNat = j := by omega
    have va := valD_drop d j
    have vle := valD_drop_le j dd
    have vn := valD_nn (dd.drop (j + 1))
    obtain ⟨b0, b1⟩ := dgAt_bd dd (j : Int)
    have eg : dgAt d j = d.getD j 0 := dgAt_in hk
    have w1 : IntKind.u64.wrap (valD (d.drop (j + 1)) * 32768) = valD (d.drop (j + 1)) * 32768 := u64_id (by omega) (by omega)
    have w2 : IntKind.u64.wrap (d.getD (((j + 1 : Nat) : Int) - 1).toNat 0) = d.getD j 0 := by rw [et]; exact u64_id (by omega) (by omega)
    have w3 : IntKind.u64.wrap (IntKind.u64.wrap (valD (d.drop (j + 1)) * 32768) + IntKind.u64.wrap (d.getD (((j + 1 : Nat) : Int) - 1).toNat 0)) = valD (d.drop j) := by
      rw [w1, w2, u64_id (by omega) (by omega), va]; omega
    have rj : rngI .i64 (((j + 1 : Nat) : Int) - 1 - 1) := rng64 (by omega) (by omega)
    (repeat' (first | (refine xI (fun hfk => ?_) (fun hfk => ?_) <;> ((try (first | replace hfk := oT hfk | replace hfk := oF hfk | simp only [oA, oB, dh1, dh0, ne_eq, reduceCtorEq] at hfk)); (try (exfalso; first | omega | contradiction | exact xF hfk (by with_reducible assumption) | exact xT hfk (by with_reducible assumption))))) | (refine And.intro ?ob ?_; (case ob => (first | exact Chk.mk (by kernel_rfl) | exact True.intro | with_reducible assumption | exact rng64 (by omega) (by omega) | omega | (dsimp only; omega) | (show (_ : Nat) ≤ _; omega) | (simp only [ll1, ll2, ll0]; first | done | omega) | (dsimp only; simp only [ll1, ll2, ll0]; omega)))) | exact True.intro | (show _ = _; first | with_reducible rfl | with_reducible assumption | omega | (simp only [ll1, ll2, ll0]; omega) | (skip; done) | exact rfl) | with_reducible assumption | (apply And.intro) | omega | (intro j hj; exact rfl)))
    refine ⟨j, [some 0], by omega, ?mu, ?_⟩
    case mu => (show j < j + 1; omega)
    (repeat' (first | (refine And.intro ?_ ?_) | exact True.intro | (show _ = _; with_reducible rfl) | exact Chk.mk (by kernel_rfl)))
    all_goals first | rfl | exact w3 | (show (_ : Int) = _; omega)
end Go.Proofs.YtocboijpmmlegaaDoor
namespace Go.Proofs.YtocboijpmmlegaaDoor
open Go Go.RowKit
set_option maxHeartbeats 4000000
theorem set_take {o : List Int} {p : Nat} (h : p < o.length) (v : Int) : (o.set p v).take (p + 1) = o.take p ++ [v] := by
  rw [List.set_eq_take_append_cons_drop, if_pos h, List.take_append, List.length_take, List.take_of_length_le (by rw [List.length_take]; omega)]
  congr 1
  rw [show p + 1 - min p o.length = 1 from by omega]; rfl
theorem set_drop {o : List Int} {p : Nat} (h : p < o.length) (v : Int) : (o.set p v).drop (p + 1) = o.drop (p + 1) := by
  rw [List.set_eq_take_append_cons_drop, if_pos h, List.drop_append, List.length_take, List.drop_of_length_le (by rw [List.length_take]; omega)]
  rw [show p + 1 - min p o.length = 1 from by omega]; rfl
theorem Dig.set {o : List Int} (h : Dig o) (p : Nat) {v : Int} (hv : Dg v) : Dig (o.set p v) := fun x hx => (List.mem_or_eq_of_mem_set hx).elim (h x) fun e => e ▸ hv
theorem am_next {o b : List Int} {x c : Int} {p k : Nat} (hp : p < o.length) (hk : k < b.length) :
    (o.set p ((o.getD p 0 + x * b.getD k 0 + c) % 32768)).take (p + 1) ++ amR ((o.set p ((o.getD p 0 + x * b.getD k 0 + c) % 32768)).drop (p + 1)) x (b.drop (k + 1)) ((o.getD p 0 + x * b.getD k 0 + c) / 32768) = o.take p ++ amR (o.drop p) x (b.drop k) c := by
  rw [set_take hp, set_drop hp, drop_dg hp, drop_dg hk, amR, dgAt_in hp, dgAt_in hk, List.append_assoc]
  rfl
theorem am_end {o : List Int} {x c : Int} {p : Nat} (hp : p < o.length) : o.set p (o.getD p 0 + c) = o.take p ++ amR (o.drop p) x [] c := by
  rw [drop_dg hp, amR, dgAt_in hp, List.set_eq_take_append_cons_drop, if_pos hp]
theorem mul_next {a b o q : List Int} {i : Nat} (hi : i < a.length) (ho : i < o.length) (e : q = o.take i ++ amR (o.drop i) (dgAt a i) b 0) :
    q.take (i + 1) ++ mulR (q.drop (i + 1)) (a.drop (i + 1)) b = o.take i ++ mulR (o.drop i) (a.drop i) b := by
  have hl := amR_len (o.drop i) (dgAt a i) b 0
  rw [drop_dg hi, mulR]
  cases hA : amR (o.drop i) (dgAt a i) b 0 with
  | nil => rw [hA, List.length_drop] at hl; simp at hl; omega
  | cons y A =>
    rw [hA] at e
    have hm : min i o.length = i := by omega
    have e1 : q.take (i + 1) = o.take i ++ [y] := by
      rw [e, List.take_append, List.length_take, hm, List.take_of_length_le (by rw [List.length_take]; omega), show i + 1 - i = 1 from by omega]; rfl
    have e2 : q.drop (i + 1) = A := by
      rw [e, List.drop_append, List.length_take, hm, List.drop_of_length_le (by rw [List.length_take]; omega), show i + 1 - i = 1 from by omega]; rfl
    rw [e1, e2, List.append_assoc]; rfl
theorem mul_dig {a b o q : List Int} {i : Nat} (da : Dig a) (db : Dig b) (dO : Dig o) (hz : ∀ j, i + b.length ≤ j → o.getD j 0 = 0) (hi : i < a.length) (e : q = o.take i ++ amR (o.drop i) (dgAt a i) b 0) : Dig q := by
  rw [e]
  refine (dO.take i).app (amR_dig (dO.drop i) ⟨(dgAt_bd da i).1, (dgAt_bd da i).2⟩ db (by decide) (by decide) fun j hj => ?_)
  have := hz (i + j) (by omega)
  simpa [List.getD, List.getElem?_drop] using this
theorem mul_zero {a b o q : List Int} {i : Nat} (hz : ∀ j, i + b.length ≤ j → o.getD j 0 = 0) (ho : i < o.length) (e : q = o.take i ++ amR (o.drop i) (dgAt a i) b 0) : ∀ j, i + 1 + b.length ≤ j → q.getD j 0 = 0 := by
  intro j hj
  have h1 := amR_zero (o.drop i) (dgAt a i) b 0 (j - i) (by omega)
  have h2 := hz j (by omega)
  have h3 : (o.drop i).getD (j - i) 0 = o.getD j 0 := by
    simp only [List.getD, List.getElem?_drop]
    rw [show i + (j - i) = j from by omega]
  have hm : min i o.length = i := by omega
  have h4 : q.getD j 0 = (amR (o.drop i) (dgAt a i) b 0).getD (j - i) 0 := by
    rw [e]
    simp only [List.getD]
    rw [List.getElem?_append_right (by rw [List.length_take]; omega), List.length_take, hm]
  rw [h4, h1, h3, h2]
theorem valD_zero : ∀ n : Nat, valD (List.replicate n 0) = 0
  | 0 => rfl
  | n + 1 => by rw [List.replicate_succ, valD, valD_zero n]; rfl
abbrev mulS : PSpec := gB2 (fun s d t e => [Bg s d, Bg t e]) fun s d t e => bigA (bzv s d * bzv t e)
theorem mul_s : SOK Tryd.prog 42 mulS := by
  refine sok_of (C := mkK 0 [(69, madeS), (66, trimS)] noG [1000003]) (mkK_ok (pok_cons made_s (pok_cons trim_s pok_nil)) noG_ok) rfl mixed ⟨Tryd.func42, by kernel_rfl, by kernel_rfl, by kernel_rfl⟩ fun l obs v h ho => ?_
  unfold mulS at h
  (unfold gB2 at h; split at h; rotate_left; (focus (cases h)); rename_i s a t b; simp only [Option.some.injEq, Prod.mk.injEq] at h; obtain ⟨rfl, rfl⟩ := h; simp only [List.mem_cons, List.not_mem_nil, or_false, forall_eq_or_imp, forall_eq, false_implies, implies_true] at ho)
  obtain ⟨ha, hb⟩ := ho
  have da := ha.dig
  have db := hb.dig
  have la := ha.sh.le
  have lb := hb.sh.le
  refine ⟨Nat.le_of_ble_eq_true rfl, ?_⟩
  obtain ⟨N, hN⟩ : ∃ N : Nat, a.length + b.length + 1 = N := ⟨_, rfl⟩
  have hNt : ((a.length : Int) + b.length + 1).toNat = N := by omega
  have r0 : rngI .i64 ((a.length : Int) + b.length) := rng64 (by omega) (by omega)
  have r1 : rngI .i64 ((a.length : Int) + b.length + 1) := rng64 (by omega) (by omega)
  (repeat' (first | (refine xI (fun hfk => ?_) (fun hfk => ?_) <;> ((try (first | replace hfk := oT hfk | replace hfk := oF hfk | simp only [oA, oB, dh1, dh0, ne_eq, reduceCtorEq] at hfk)); (try (exfalso; first | omega | contradiction | exact xF hfk (by with_reducible assumption) | exact xT hfk (by with_reducible assumption))))) | (refine And.intro ?ob ?_; (case ob => (first | exact Chk.mk (by kernel_rfl) | exact True.intro | with_reducible assumption | exact rng64 (by omega) (by omega) | omega | (dsimp only; omega) | (show (_ : Nat) ≤ _; omega) | (simp only [ll1, ll2, ll0]; first | done | omega) | (dsimp only; simp only [ll1, ll2, ll0]; omega)))) | exact True.intro | (show _ = _; first | with_reducible rfl | with_reducible assumption | omega | (simp only [ll1, ll2, ll0]; omega) | (skip; done) | exact rfl) | with_reducible assumption | (apply And.intro) | omega | (intro j hj; exact rfl)))
  refine ⟨Nat × List Int, fun g => [(2, .ptr 0 0), (3, .ptr 1 0), (4, .ptr 2 0), (5, .sl 3 1 0 N), (6, .int .i64 (g.1 : Int))],
    fun g => ⟨4, [(0, some (.cells 49 [.bool s, .roi .i64 a])), (1, some (.cells 49 [.bool t, .roi .i64 b])), (2, some (.cells 49 [.fls, .nils])), (3, some (.ints 3 .i64 g.2))]⟩,
    fun g => g.1 ≤ a.length ∧ g.2.length = N ∧ Dig g.2 ∧ (∀ j, g.1 + b.length ≤ j → g.2.getD j 0 = 0) ∧ g.2.take g.1 ++ mulR (g.2.drop g.1) (a.drop g.1) b = mulR (List.replicate N 0) a b, fun g => a.length - g.1,
    ⟨(0, List.replicate N 0), [some 0, some 1, some 2, some 3], ⟨Nat.zero_le _, List.length_replicate, fun x hx => by rw [List.eq_of_mem_replicate hx]; exact ⟨by decide, by decide⟩, fun j _ => by simp [List.getD, List.getElem?_replicate]; split <;> rfl, rfl⟩, ?_⟩, fun g hg => ?_⟩
  · have q1 : List.replicate ((a.length : Int) + b.length + 1).toNat (0 : Int) = List.replicate N 0 := by rw [hNt]
    (repeat' (first | (refine And.intro ?_ ?_) | exact True.intro | (show _ = _; with_reducible rfl) | exact Chk.mk (by kernel_rfl)))
    all_goals first | rfl | exact hNt | exact q1
  obtain ⟨i, o⟩ := g
  obtain ⟨g1, g2, g3, g4, g5⟩ := hg
  have g1 : i ≤ a.length := g1
  have g2 : o.length = N := g2
  have g3 : Dig o := g3
  have g4 : ∀ j, i + b.length ≤ j → o.getD j 0 = 0 := g4
  have g5 : o.take i ++ mulR (o.drop i) (a.drop i) b = mulR (List.replicate N 0) a b := g5
  by_cases hlt : i < a.length
  · have hlt' : (i : Int) < (a.length : Int) := by omega
    (repeat' (first | (refine xI (fun hfk => ?_) (fun hfk => ?_) <;> ((try (first | replace hfk := oT hfk | replace hfk := oF hfk | simp only [oA, oB, dh1, dh0, ne_eq, reduceCtorEq] at hfk)); (try (exfalso; first | omega | contradiction | exact xF hfk (by with_reducible assumption) | exact xT hfk (by with_reducible assumption))))) | (refine And.intro ?ob ?_; (case ob => (first | exact Chk.mk (by kernel_rfl) | exact True.intro | with_reducible assumption | exact rng64 (by omega) (by omega) | omega | (dsimp only; omega) | (show (_ : Nat) ≤ _; omega) | (simp only [ll1, ll2, ll0]; first | done | omega) | (dsimp only; simp only [ll1, ll2, ll0]; omega)))) | exact True.intro | (show _ = _; first | with_reducible rfl | with_reducible assumption | omega | (simp only [ll1, ll2, ll0]; omega) | (skip; done) | exact rfl) | with_reducible assumption | (apply And.intro) | omega | (intro j hj; exact rfl)))
    refine ⟨[], ?_⟩
    refine ⟨[(2, .ptr 0 0), (3, .ptr 1 0), (4, .ptr 2 0), (5, .sl 3 1 0 N), (6, .int .i64 (i : Int)), (23, .bool (decide ((i : Int) < (a.length : Int))))],
      ⟨4, [(0, some (.cells 49 [.bool s, .roi .i64 a])), (1, some (.cells 49 [.bool t, .roi .i64 b])), (2, some (.cells 49 [.fls, .nils])), (3, some (.ints 3 .i64 o))]⟩, [some 0, some 1, some 2, some 3], ?_, ?_⟩
    · (repeat' (first | (refine And.intro ?_ ?_) | exact True.intro | (show _ = _; with_reducible rfl) | exact Chk.mk (by kernel_rfl)))
      all_goals rfl
    (repeat' (first | (refine xI (fun hfk => ?_) (fun hfk => ?_) <;> ((try (first | replace hfk := oT hfk | replace hfk := oF hfk | simp only [oA, oB, dh1, dh0, ne_eq, reduceCtorEq] at hfk)); (try (exfalso; first | omega | contradiction | exact xF hfk (by with_reducible assumption) | exact xT hfk (by with_reducible assumption))))) | (refine And.intro ?ob ?_; (case ob => (first | exact Chk.mk (by kernel_rfl) | exact True.intro | with_reducible assumption | exact rng64 (by omega) (by omega) | omega | (dsimp only; omega) | (show (_ : Nat) ≤ _; omega) | (simp only [ll1, ll2, ll0]; first | done | omega) | (dsimp only; simp only [ll1, ll2, ll0]; omega)))) | exact True.intro | (show _ = _; first | with_reducible rfl | with_reducible assumption | omega | (simp only [ll1, ll2, ll0]; omega) | (skip; done) | exact rfl) | with_reducible assumption | (apply And.intro) | omega | (intro j hj; exact rfl)))
    refine ⟨Nat × List Int × Int, fun g => [(2, .ptr 0 0), (3, .ptr 1 0), (4, .ptr 2 0), (5, .sl 3 1 0 N), (6, .int .i64 (i : Int)), (7, .int .i64 g.2.2), (8, .int .i64 (g.1 : Int))],
      fun g => ⟨4, [(0, some (.cells 49 [.bool s, .roi .i64 a])), (1, some (.cells 49 [.bool t, .roi .i64 b])), (2, some (.cells 49 [.fls, .nils])), (3, some (.ints 3 .i64 g.2.1))]⟩,
      fun g => g.1 ≤ b.length ∧ g.2.1.length = N ∧ Dig g.2.1 ∧ 0 ≤ g.2.2 ∧ g.2.2 < 32768 ∧ g.2.1.take (i + g.1) ++ amR (g.2.1.drop (i + g.1)) (dgAt a i) (b.drop g.1) g.2.2 = o.take i ++ amR (o.drop i) (dgAt a i) b 0, fun g => b.length - g.1,
      ⟨(0, o, 0), [some 0, some 1, some 2, some 3], ⟨Nat.zero_le _, g2, g3, by show (0 : Int) ≤ 0; decide, by show (0 : Int) < 32768; decide, rfl⟩, ?_⟩, fun g hg => ?_⟩
    · (repeat' (first | (refine And.intro ?_ ?_) | exact True.intro | (show _ = _; with_reducible rfl) | exact Chk.mk (by kernel_rfl)))
      all_goals rfl
    obtain ⟨k, q, c⟩ := g
    obtain ⟨k1, k2, k3, k4, k5, k6⟩ := hg
    have k1 : k ≤ b.length := k1
    have k2 : q.length = N := k2
    have k3 : Dig q := k3
    have k4 : 0 ≤ c := k4
    have k5 : c < 32768 := k5
    have k6 : q.take (i + k) ++ amR (q.drop (i + k)) (dgAt a i) (b.drop k) c = o.take i ++ amR (o.drop i) (dgAt a i) b 0 := k6
    have hp : i + k < q.length := by omega
    have et : ((i : Int) + (k : Int)).toNat = i + k := by omega
    obtain ⟨q0, q1⟩ := dgAt_bd k3 ((i + k : Nat) : Int)
    rw [dgAt_in hp] at q0 q1
    obtain ⟨x0, x1⟩ := dgAt_bd da (i : Int)
    have ex := dgAt_in hlt
    have r2 : rngI .i64 ((i : Int) + (k : Int)) := rng64 (by omega) (by omega)
    by_cases hk : k < b.length
    · have hk' : (k : Int) < (b.length : Int) := by omega
      obtain ⟨y0, y1⟩ := dgAt_bd db (k : Int)
      have ey := dgAt_in hk
      rw [ex] at x0 x1
      rw [ey] at y0 y1
      have p0 : 0 ≤ a.getD i 0 * b.getD k 0 := Int.mul_nonneg x0 y0
      have p1 : a.getD i 0 * b.getD k 0 ≤ 32767 * 32767 := Int.mul_le_mul (by omega) (by omega) y0 (by omega)
      have r3 : rngI .i64 (a.getD i 0 * b.getD k 0) := rng64 (by omega) (by omega)
      have r4 : rngI .i64 (q.getD (i + k) 0 + a.getD i 0 * b.getD k 0) := rng64 (by omega) (by omega)
      have r5 : rngI .i64 (q.getD (i + k) 0 + a.getD i 0 * b.getD k 0 + c) := rng64 (by omega) (by omega)
      have ea : a.getD (i : Int).toNat 0 = a.getD i 0 := rfl
      have eb : b.getD (k : Int).toNat 0 = b.getD k 0 := rfl
      have eq : q.getD (0 + ((i : Int) + (k : Int)).toNat) 0 = q.getD (i + k) 0 := by rw [et, Nat.zero_add]
      have r4' : rngI .i64 (q.getD (0 + ((i : Int) + (k : Int)).toNat) 0 + a.getD (i : Int).toNat 0 * b.getD (k : Int).toNat 0) := by rw [eq]; exact r4
      have r5' : rngI .i64 (q.getD (0 + ((i : Int) + (k : Int)).toNat) 0 + a.getD (i : Int).toNat 0 * b.getD (k : Int).toNat 0 + c) := by rw [eq]; exact r5
      have hd : Int.tdiv (q.getD (i + k) 0 + a.getD i 0 * b.getD k 0 + c) 32768 = (q.getD (i + k) 0 + a.getD i 0 * b.getD k 0 + c) / 32768 := Int.tdiv_eq_ediv_of_nonneg (by omega)
      have hm : Int.tmod (q.getD (i + k) 0 + a.getD i 0 * b.getD k 0 + c) 32768 = (q.getD (i + k) 0 + a.getD i 0 * b.getD k 0 + c) % 32768 := Int.tmod_eq_emod_of_nonneg (by omega)
      have hd' : Int.tdiv (q.getD (0 + ((i : Int) + (k : Int)).toNat) 0 + a.getD (i : Int).toNat 0 * b.getD (k : Int).toNat 0 + c) 32768 = (q.getD (i + k) 0 + a.getD i 0 * b.getD k 0 + c) / 32768 := by rw [eq]; exact hd
      have r6 : rngI .i64 (Int.tdiv (q.getD (0 + ((i : Int) + (k : Int)).toNat) 0 + a.getD (i : Int).toNat 0 * b.getD (k : Int).toNat 0 + c) 32768) := by rw [hd']; exact rng64 (by omega) (by omega)
      have r3' : rngI .i64 (a.getD (i : Int).toNat 0 * b.getD (k : Int).toNat 0) := r3
      have nx := am_next (o := q) (b := b) (x := a.getD i 0) (c := c) hp hk
      (repeat' (first | (refine xI (fun hfk => ?_) (fun hfk => ?_) <;> ((try (first | replace hfk := oT hfk | replace hfk := oF hfk | simp only [oA, oB, dh1, dh0, ne_eq, reduceCtorEq] at hfk)); (try (exfalso; first | omega | contradiction | exact xF hfk (by with_reducible assumption) | exact xT hfk (by with_reducible assumption))))) | (refine And.intro ?ob ?_; (case ob => (first | exact Chk.mk (by kernel_rfl) | exact True.intro | with_reducible assumption | exact rng64 (by omega) (by omega) | omega | (dsimp only; omega) | (show (_ : Nat) ≤ _; omega) | (simp only [ll1, ll2, ll0]; first | done | omega) | (dsimp only; simp only [ll1, ll2, ll0]; omega)))) | exact True.intro | (show _ = _; first | with_reducible rfl | with_reducible assumption | omega | (simp only [ll1, ll2, ll0]; omega) | (first | exact r3' | exact r4' | exact r5' | exact r6; done) | exact rfl) | with_reducible assumption | (apply And.intro) | omega | (intro j hj; exact rfl)))
      refine ⟨(k + 1, q.set (i + k) ((q.getD (i + k) 0 + a.getD i 0 * b.getD k 0 + c) % 32768), (q.getD (i + k) 0 + a.getD i 0 * b.getD k 0 + c) / 32768), [some 0, some 1, some 2, some 3], ?_, ?mu, ?_⟩
      case mu => (show b.length - (k + 1) < b.length - k; omega)
      · refine ⟨hk, ?_, k3.set _ ⟨by omega, by omega⟩, ?_, ?_, ?_⟩
        · show (q.set _ _).length = N
          rw [List.length_set]; exact k2
        · show 0 ≤ (q.getD (i + k) 0 + a.getD i 0 * b.getD k 0 + c) / 32768
          omega
        · show (q.getD (i + k) 0 + a.getD i 0 * b.getD k 0 + c) / 32768 < 32768
          omega
        · rw [ex] at k6 ⊢
          rw [← k6, ← nx]
          rfl
      have qa : q.set (0 + ((i : Int) + (k : Int)).toNat) (Int.tmod (q.getD (0 + ((i : Int) + (k : Int)).toNat) 0 + a.getD (i : Int).toNat 0 * b.getD (k : Int).toNat 0 + c) 32768) = q.set (i + k) ((q.getD (i + k) 0 + a.getD i 0 * b.getD k 0 + c) % 32768) := by
        rw [eq, et, Nat.zero_add]
        exact congrArg (q.set (i + k)) hm
      (repeat' (first | (refine And.intro ?_ ?_) | exact True.intro | (show _ = _; with_reducible rfl) | exact Chk.mk (by kernel_rfl)))
      all_goals first | rfl | exact hd' | exact qa | (show (_ : Int) = _; omega)
    · have hk' : ¬ (k : Int) < (b.length : Int) := by omega
      have hkb : k = b.length := by omega
      subst hkb
      rw [List.drop_length] at k6
      have eq : q.getD (0 + ((i : Int) + (b.length : Int)).toNat) 0 = q.getD (i + b.length) 0 := by rw [et, Nat.zero_add]
      have r7 : rngI .i64 (q.getD (0 + ((i : Int) + (b.length : Int)).toNat) 0 + c) := by rw [eq]; exact rng64 (by omega) (by omega)
      have ri : rngI .i64 ((i : Int) + 1) := rng64 (by omega) (by omega)
      have nq : q.set (i + b.length) (q.getD (i + b.length) 0 + c) = o.take i ++ amR (o.drop i) (dgAt a i) b 0 := by rw [am_end hp]; exact k6
      (repeat' (first | (refine xI (fun hfk => ?_) (fun hfk => ?_) <;> ((try (first | replace hfk := oT hfk | replace hfk := oF hfk | simp only [oA, oB, dh1, dh0, ne_eq, reduceCtorEq] at hfk)); (try (exfalso; first | omega | contradiction | exact xF hfk (by with_reducible assumption) | exact xT hfk (by with_reducible assumption))))) | (refine And.intro ?ob ?_; (case ob => (first | exact Chk.mk (by kernel_rfl) | exact True.intro | with_reducible assumption | exact rng64 (by omega) (by omega) | omega | (dsimp only; omega) | (show (_ : Nat) ≤ _; omega) | (simp only [ll1, ll2, ll0]; first | done | omega) | (dsimp only; simp only [ll1, ll2, ll0]; omega)))) | exact True.intro | (show _ = _; first | with_reducible rfl | with_reducible assumption | omega | (simp only [ll1, ll2, ll0]; omega) | (exact r7; done) | exact rfl) | with_reducible assumption | (apply And.intro) | omega | (intro j hj; exact rfl)))
      refine ⟨(i + 1, q.set (i + b.length) (q.getD (i + b.length) 0 + c)), [some 0, some 1, some 2, some 3], ?_, ?mu, ?_⟩
      case mu => (show a.length - (i + 1) < a.length - i; omega)
      · refine ⟨hlt, ?_, mul_dig da db g3 g4 hlt nq, mul_zero g4 (by omega) nq, ?_⟩
        · show (q.set _ _).length = N
          rw [List.length_set]; exact k2
        · rw [← g5, ← mul_next hlt (by omega) nq]
      have qa : q.set (0 + ((i : Int) + (b.length : Int)).toNat) (q.getD (0 + ((i : Int) + (b.length : Int)).toNat) 0 + c) = q.set (i + b.length) (q.getD (i + b.length) 0 + c) := by
        rw [eq, et, Nat.zero_add]
      (repeat' (first | (refine And.intro ?_ ?_) | exact True.intro | (show _ = _; with_reducible rfl) | exact Chk.mk (by kernel_rfl)))
      all_goals first | rfl | exact qa | (show (_ : Int) = _; omega)
  · have hlt' : ¬ (i : Int) < (a.length : Int) := by omega
    have hi : i = a.length := by omega
    have hM : o = mulR (List.replicate N 0) a b := by
      rw [← g5, hi, List.drop_length, mulR, List.take_append_drop]
    have hv : valD o = valD a * valD b := by
      rw [hM, mulR_val _ _ _ (by rw [List.length_replicate]; omega), valD_zero, Int.zero_add]
    (repeat' (first | (refine xI (fun hfk => ?_) (fun hfk => ?_) <;> ((try (first | replace hfk := oT hfk | replace hfk := oF hfk | simp only [oA, oB, dh1, dh0, ne_eq, reduceCtorEq] at hfk)); (try (exfalso; first | omega | contradiction | exact xF hfk (by with_reducible assumption) | exact xT hfk (by with_reducible assumption))))) | (refine And.intro ?ob ?_; (case ob => (first | exact Chk.mk (by kernel_rfl) | exact True.intro | with_reducible assumption | exact rng64 (by omega) (by omega) | omega | (dsimp only; omega) | (show (_ : Nat) ≤ _; omega) | (simp only [ll1, ll2, ll0]; first | done | omega) | (dsimp only; simp only [ll1, ll2, ll0]; omega)))) | exact True.intro | (show _ = _; first | with_reducible rfl | with_reducible assumption | omega | (simp only [ll1, ll2, ll0]; omega) | (skip; done) | exact rfl) | with_reducible assumption | (apply And.intro) | omega | (intro j hj; exact rfl)))
    refine ⟨[5], ?_⟩
    (repeat' (first | (refine xI (fun hfk => ?_) (fun hfk => ?_) <;> ((try (first | replace hfk := oT hfk | replace hfk := oF hfk | simp only [oA, oB, dh1, dh0, ne_eq, reduceCtorEq] at hfk)); (try (exfalso; first | omega | contradiction | exact xF hfk (by with_reducible assumption) | exact xT hfk (by with_reducible assumption))))) | (refine And.intro ?ob ?_; (case ob => (first | exact Chk.mk (by kernel_rfl) | exact True.intro | with_reducible assumption | exact rng64 (by omega) (by omega) | omega | (dsimp only; omega) | (show (_ : Nat) ≤ _; omega) | (simp only [ll1, ll2, ll0]; first | done | omega) | (dsimp only; simp only [ll1, ll2, ll0]; omega)))) | exact True.intro | (show _ = _; first | with_reducible rfl | with_reducible assumption | omega | (simp only [ll1, ll2, ll0]; omega) | (skip; done) | exact rfl) | with_reducible assumption | (apply And.intro) | omega | (intro j hj; exact rfl)))
    refine ⟨[(2, .ptr 0 0), (3, .ptr 1 0), (4, .ptr 2 0), (5, .roi .i64 o), (23, .bool (decide ((i : Int) < (a.length : Int))))],
      ⟨3, [(0, some (.cells 49 [.bool s, .roi .i64 a])), (1, some (.cells 49 [.bool t, .roi .i64 b])), (2, some (.cells 49 [.fls, .nils]))]⟩, [some 0, some 1, some 2], ?_, ?_⟩
    · have qo : List.take N (List.drop 0 o) = o := by rw [List.drop_zero, List.take_of_length_le (by omega)]
      (repeat' (first | (refine And.intro ?_ ?_) | exact True.intro | (show _ = _; with_reducible rfl) | exact Chk.mk (by kernel_rfl)))
      all_goals first | rfl | exact qo
    have qs : ShT o := ⟨by omega⟩
    have ha0 := valD_nn da
    have hb0 := valD_nn db
    have hp0 : 0 ≤ valD a * valD b := Int.mul_nonneg ha0 hb0
    have tr : trimL o = dgs (valD a * valD b).toNat := by rw [trim_dgs g3, hv]
    have hz : (if (!(s == t)) = true then -((valD a * valD b).toNat : Int) else ((valD a * valD b).toNat : Int)) = bzv s a * bzv t b := by
      unfold bzv
      rw [Int.toNat_of_nonneg hp0]
      cases s <;> cases t <;> simp [Int.neg_mul, Int.mul_neg]
    obtain ⟨e1, e2⟩ := made_z hz
    rw [← tr] at e1 e2
    (repeat' (first | (refine xI (fun hfk => ?_) (fun hfk => ?_) <;> ((try (first | replace hfk := oT hfk | replace hfk := oF hfk | simp only [oA, oB, dh1, dh0, ne_eq, reduceCtorEq] at hfk)); (try (exfalso; first | omega | contradiction | exact xF hfk (by with_reducible assumption) | exact xT hfk (by with_reducible assumption))))) | (refine And.intro ?ob ?_; (case ob => (first | exact Chk.mk (by kernel_rfl) | exact True.intro | with_reducible assumption | exact rng64 (by omega) (by omega) | omega | (dsimp only; omega) | (show (_ : Nat) ≤ _; omega) | (simp only [ll1, ll2, ll0]; first | done | omega) | (dsimp only; simp only [ll1, ll2, ll0]; omega)))) | exact True.intro | (show _ = _; first | with_reducible rfl | with_reducible assumption | omega | (simp only [ll1, ll2, ll0]; omega) | (first | exact e1 | exact e2 | exact ⟨e1, e2⟩; done) | exact rfl) | with_reducible assumption | (apply And.intro) | omega | (intro j hj; exact rfl)))
end Go.Proofs.YtocboijpmmlegaaDoor
namespace Go.Proofs.YtocboijpmmlegaaDoor
open Go Go.RowKit
set_option maxHeartbeats 4000000
theorem Bg_i64 {z : Int} (h0 : -9223372036854775808 ≤ z) (h1 : z < 9223372036854775808) : Bg (decide (z < 0)) (dgs z.natAbs) :=
  Bg_big (Nat.le_trans (dgs_len (k := 5) (by rw [show (32768 : Nat) ^ 5 = 37778931862957161709568 from by decide]; omega)) (by decide))
end Go.Proofs.YtocboijpmmlegaaDoor
namespace Go.Proofs.YtocboijpmmlegaaDoor
structure R4 where
  x0 : Int
  y0 : Int
  x1 : Int
  y1 : Int
def R4.zero : R4 := ⟨0, 0, 0, 0⟩
@[simp] theorem zero_x0 : R4.zero.x0 = 0 := rfl
@[simp] theorem zero_y0 : R4.zero.y0 = 0 := rfl
@[simp] theorem zero_x1 : R4.zero.x1 = 0 := rfl
@[simp] theorem zero_y1 : R4.zero.y1 = 0 := rfl
def inB (x : Int) : Bool := decide (-2147483648 ≤ x) && decide (x ≤ 2147483648)
def R4.right (r : R4) : Bool := inB r.x0 && inB r.y0 && inB r.x1 && inB r.y1
def R4.empty (r : R4) : Bool := !r.right || decide (r.x1 ≤ r.x0) || decide (r.y1 ≤ r.y0)
def R4.norm (r : R4) : R4 := if r.empty = true then .zero else r
def R4.has (r : R4) (x y : Int) : Bool := !r.empty && decide (r.x0 ≤ x) && decide (x < r.x1) && decide (r.y0 ≤ y) && decide (y < r.y1)
def beq8 (a0 a1 a2 a3 b0 b1 b2 b3 : Int) : Bool := a0 == b0 && a1 == b1 && a2 == b2 && a3 == b3
def R4.beq (a b : R4) : Bool := beq8 a.x0 a.y0 a.x1 a.y1 b.x0 b.y0 b.x1 b.y1
def cutI (x : Int) : Int := max (-2147483648) (min x 2147483648)
abbrev R4.fat (r : R4) (k : Int) : R4 := ⟨cutI (r.x0 - k), cutI (r.y0 - k), cutI (r.x1 + k), cutI (r.y1 + k)⟩
def R4.grow (r : R4) (k : Int) : R4 := if r.empty = true then .zero else if inB k = true then (r.fat k).norm else (R4.mk (cutI r.x0) (cutI r.y0) (cutI r.x1) (cutI r.y1)).norm
end Go.Proofs.YtocboijpmmlegaaDoor
namespace Go.Proofs.YtocboijpmmlegaaDoor
open Go Go.RowKit
def sN (v : AV) : PSpec := fun l => match l with | [] => some ([], v) | _ => none
theorem sN_inv {w : AV} {l : List AV} {obs : List Prop} {v : AV} (h : sN w l = some (obs, v)) : l = [] ∧ v = w := by
  unfold sN at h
  split at h
  · simp only [Option.some.injEq, Prod.mk.injEq] at h; exact ⟨rfl, h.2.symm⟩
  · cases h
end Go.Proofs.YtocboijpmmlegaaDoor
namespace Go.Proofs.YtocboijpmmlegaaDoor
open Go Go.RowKit
def fitsI (w h c : Int) : Int := if c ≠ 1 ∧ c ≠ 3 ∧ c ≠ 4 then 10 else if 32768 < w ∨ 32768 < h ∨ (0 < w ∧ 0 < h ∧ 4194304 < w * h) then 30 else if w < 1 ∨ h < 1 then 12 else 0
def imCheck (w h c n : Int) : Int := if fitsI w h c ≠ 0 then fitsI w h c else if n ≠ w * h * c then 12 else 0
theorem fits_inv {w h c : Int} (hf : fitsI w h c = 0) : (c = 1 ∨ c = 3 ∨ c = 4) ∧ 1 ≤ w ∧ w ≤ 32768 ∧ 1 ≤ h ∧ h ≤ 32768 ∧ w * h ≤ 4194304 ∧ 0 ≤ w * h ∧ 0 ≤ w * h * c ∧ w * h * c ≤ 16777216 := by
  unfold fitsI at hf
  split at hf
  · cases hf
  · split at hf
    · cases hf
    · split at hf
      · cases hf
      · rename_i h1 h2 h3
        have h4 : 0 ≤ w * h := Int.mul_nonneg (by omega) (by omega)
        have h5 : 0 ≤ w * h * c := Int.mul_nonneg h4 (by omega)
        have h6 : w * h ≤ 4194304 := by omega
        have h7 : w * h * c ≤ 4194304 * 4 := Int.mul_le_mul h6 (by omega) (by omega) (by omega)
        omega
theorem check_inv {w h c n : Int} (hf : imCheck w h c n = 0) : fitsI w h c = 0 ∧ n = w * h * c := by
  unfold imCheck at hf
  split at hf
  · rename_i h1; exact absurd hf h1
  · rename_i h1
    split at hf
    · cases hf
    · rename_i h2; exact ⟨by omega, by omega⟩
def sIII (f : Int → Int → Int → AV) : PSpec := fun l => match l with | [.int .i64 a, .int .i64 b, .int .i64 c] => some ([], f a b c) | _ => none
theorem sIII_inv {f : Int → Int → Int → AV} {l : List AV} {obs : List Prop} {v : AV} (h : sIII f l = some (obs, v)) : ∃ a b c, l = [.int .i64 a, .int .i64 b, .int .i64 c] ∧ v = f a b c := by
  unfold sIII at h
  split at h
  · simp only [Option.some.injEq, Prod.mk.injEq] at h; exact ⟨_, _, _, rfl, h.2.symm⟩
  · cases h
abbrev imA (w h c : Int) (l : List Int) : AV := .agg [.int .i64 w, .int .i64 h, .int .i64 c, .roi .u8 l]
def sM (ob : Int → Int → Int → List Int → List Prop) (f : Int → Int → Int → List Int → AV) : PSpec := fun l => match l with | [.agg [.int .i64 w, .int .i64 h, .int .i64 c, .roi .u8 p]] => some (ob w h c p, f w h c p) | _ => none
theorem sM_inv {ob : Int → Int → Int → List Int → List Prop} {f : Int → Int → Int → List Int → AV} {l : List AV} {obs : List Prop} {v : AV} (h : sM ob f l = some (obs, v)) : ∃ w hh c p, l = [imA w hh c p] ∧ obs = ob w hh c p ∧ v = f w hh c p := by
  unfold sM at h
  split at h
  · simp only [Option.some.injEq, Prod.mk.injEq] at h; exact ⟨_, _, _, _, rfl, h.1.symm, h.2.symm⟩
  · cases h
def sMI (ob : Int → Int → Int → List Int → Int → List Prop) (f : Int → Int → Int → List Int → Int → AV) : PSpec := fun l => match l with | [.agg [.int .i64 w, .int .i64 h, .int .i64 c, .roi .u8 p], .int .i64 x] => some (ob w h c p x, f w h c p x) | _ => none
theorem sMI_inv {ob : Int → Int → Int → List Int → Int → List Prop} {f : Int → Int → Int → List Int → Int → AV} {l : List AV} {obs : List Prop} {v : AV} (h : sMI ob f l = some (obs, v)) : ∃ w hh c p x, l = [imA w hh c p, .int .i64 x] ∧ obs = ob w hh c p x ∧ v = f w hh c p x := by
  unfold sMI at h
  split at h
  · simp only [Option.some.injEq, Prod.mk.injEq] at h; exact ⟨_, _, _, _, _, rfl, h.1.symm, h.2.symm⟩
  · cases h
theorem wh_rng {w h : Int} (h1 : decide (32768 < w) = false) (h2 : decide (32768 < h) = false) (h3 : decide (0 < w) = true) (h4 : decide (0 < h) = true) : rngI .i64 (w * h) := by
  replace h1 := of_decide_eq_false h1
  replace h2 := of_decide_eq_false h2
  replace h3 := of_decide_eq_true h3
  replace h4 := of_decide_eq_true h4
  have h5 : 0 ≤ w * h := Int.mul_nonneg (by omega) (by omega)
  have h6 : w * h ≤ 32768 * 32768 := Int.mul_le_mul (by omega) (by omega) (by omega) (by omega)
  exact rng64 (by omega) (by omega)
theorem fits_s : SOK Tryd.prog 38 (sIII fun w h c => .int .i64 (fitsI w h c)) := by
  refine sok_of (C := mkC 0 [] noG) (mkC_ok pok_nil noG_ok) rfl mixed ⟨Tryd.func38, by kernel_rfl, by kernel_rfl, by kernel_rfl⟩ fun l obs v h _ => ?_
  obtain ⟨w, hh, c, rfl, rfl⟩ := sIII_inv h
  clear h
  refine ⟨Nat.le_of_ble_eq_true rfl, ?_⟩
  (repeat' (first | apply And.intro | intro h)); (all_goals (try exact Chk.mk (by kernel_rfl)))
  all_goals first | exact wh_rng (by assumption) (by assumption) (by assumption) (by assumption) | (show _ = fitsI _ _ _; simp only [decide_eq_true_eq, decide_eq_false_iff_not, Bool.not_eq_true', Bool.not_eq_false', Bool.and_eq_true, Bool.or_eq_true, Bool.and_eq_false_iff, Bool.or_eq_false_iff, Int.not_lt, Int.not_le, ne_eq, Classical.not_not] at *; unfold fitsI; (repeat' split) <;> first | rfl | omega)
theorem rfits_s : SOK Tryd.prog 10 (sIII fun w h c => .int .i64 (fitsI w h c)) := by
  refine sok_of (C := mkC 0 [] noG) (mkC_ok pok_nil noG_ok) rfl mixed ⟨Tryd.func10, by kernel_rfl, by kernel_rfl, by kernel_rfl⟩ fun l obs v h _ => ?_
  obtain ⟨w, hh, c, rfl, rfl⟩ := sIII_inv h
  clear h
  refine ⟨Nat.le_of_ble_eq_true rfl, ?_⟩
  (repeat' (first | apply And.intro | intro h)); (all_goals (try exact Chk.mk (by kernel_rfl)))
  all_goals first | exact wh_rng (by assumption) (by assumption) (by assumption) (by assumption) | (show _ = fitsI _ _ _; simp only [decide_eq_true_eq, decide_eq_false_iff_not, Bool.not_eq_true', Bool.not_eq_false', Bool.and_eq_true, Bool.or_eq_true, Bool.and_eq_false_iff, Bool.or_eq_false_iff, Int.not_lt, Int.not_le, ne_eq, Classical.not_not] at *; unfold fitsI; (repeat' split) <;> first | rfl | omega)
abbrev fitsS : PSpec := sIII fun w h c => .int .i64 (fitsI w h c)
abbrev checkS : PSpec := sM (fun _ _ _ _ => []) fun w h c p => .int .i64 (imCheck w h c p.length)
theorem whc_rng {w h c : Int} (hf : fitsI w h c = 0) : rngI .i64 (w * h) ∧ rngI .i64 (w * h * c) := by
  have hb := fits_inv hf
  exact ⟨rng64 (by omega) (by omega), rng64 (by omega) (by omega)⟩
theorem check_s : SOK Tryd.prog 22 checkS := by
  refine sok_of (C := mkC 0 [(38, fitsS)] noG) (mkC_ok (pok_cons fits_s pok_nil) noG_ok) rfl mixed ⟨Tryd.func22, by kernel_rfl, by kernel_rfl, by kernel_rfl⟩ fun l obs v h _ => ?_
  obtain ⟨w, hh, c, p, rfl, rfl, rfl⟩ := sM_inv h
  clear h
  refine ⟨Nat.le_of_ble_eq_true rfl, ?_⟩
  refine ⟨fun h1 => ?_, fun h1 => ?_⟩
  · have h1 : ¬ fitsI w hh c = 0 := of_decide_eq_true h1
    have e : imCheck w hh c p.length = fitsI w hh c := if_pos h1
    rw [e]
    (repeat' (first | apply And.intro | intro h)); (all_goals (try exact Chk.mk (by kernel_rfl)))
    (all_goals (try first | exact True.intro | exact rfl | exact And.intro rfl rfl | exact And.intro rfl (fun _ _ => rfl)))
  · have h1 : fitsI w hh c = 0 := by simpa using h1
    have hr := whc_rng h1
    refine ⟨hr.1, hr.2, fun h2 => ?_, fun h2 => ?_⟩
    · have e : imCheck w hh c p.length = 12 := by unfold imCheck; rw [if_neg (by omega), if_pos (of_decide_eq_true h2)]
      rw [e]
      (repeat' (first | apply And.intro | intro h)); (all_goals (try exact Chk.mk (by kernel_rfl)))
      (all_goals (try first | exact True.intro | exact rfl | exact And.intro rfl rfl | exact And.intro rfl (fun _ _ => rfl)))
    · have e : imCheck w hh c p.length = 0 := by unfold imCheck; rw [if_neg (by omega), if_neg (of_decide_eq_false h2)]
      rw [e]
      (repeat' (first | apply And.intro | intro h)); (all_goals (try exact Chk.mk (by kernel_rfl)))
      (all_goals (try first | exact True.intro | exact rfl | exact And.intro rfl rfl | exact And.intro rfl (fun _ _ => rfl)))
theorem rcheck7_s : SOK Tryd.prog 23 checkS := by
  refine sok_of (C := mkC 0 [(10, fitsS)] noG) (mkC_ok (pok_cons rfits_s pok_nil) noG_ok) rfl mixed ⟨Tryd.func23, by kernel_rfl, by kernel_rfl, by kernel_rfl⟩ fun l obs v h _ => ?_
  obtain ⟨w, hh, c, p, rfl, rfl, rfl⟩ := sM_inv h
  clear h
  refine ⟨Nat.le_of_ble_eq_true rfl, ?_⟩
  refine ⟨fun h1 => ?_, fun h1 => ?_⟩
  · have h1 : fitsI w hh c = 0 := of_decide_eq_true h1
    have hr := whc_rng h1
    refine ⟨hr.1, hr.2, fun h2 => ?_, fun h2 => ?_⟩
    · have e : imCheck w hh c p.length = 12 := by unfold imCheck; rw [if_neg (by omega), if_pos (of_decide_eq_true h2)]
      rw [e]
      (repeat' (first | apply And.intro | intro h)); (all_goals (try exact Chk.mk (by kernel_rfl)))
      (all_goals (try first | exact True.intro | exact rfl | exact And.intro rfl rfl | exact And.intro rfl (fun _ _ => rfl)))
    · have e : imCheck w hh c p.length = fitsI w hh c := by unfold imCheck; rw [if_neg (by omega), if_neg (of_decide_eq_false h2), h1]
      rw [e]
      (repeat' (first | apply And.intro | intro h)); (all_goals (try exact Chk.mk (by kernel_rfl)))
      (all_goals (try first | exact True.intro | exact rfl | exact And.intro rfl rfl | exact And.intro rfl (fun _ _ => rfl)))
  · have h1 : ¬ fitsI w hh c = 0 := of_decide_eq_false h1
    have e : imCheck w hh c p.length = fitsI w hh c := if_pos h1
    rw [e]
    (repeat' (first | apply And.intro | intro h)); (all_goals (try exact Chk.mk (by kernel_rfl)))
    (all_goals (try first | exact True.intro | exact rfl | exact And.intro rfl rfl | exact And.intro rfl (fun _ _ => rfl)))
abbrev fewS : PSpec := sMI (fun _ _ _ _ _ => []) fun w h c p x => .bool (decide ((p.length : Int) ≤ x))
theorem few_s : SOK Tryd.prog 7 fewS := by
  refine sok_of (C := mkC 0 [] noG) (mkC_ok pok_nil noG_ok) rfl mixed ⟨Tryd.func7, by kernel_rfl, by kernel_rfl, by kernel_rfl⟩ fun l obs v h _ => ?_
  obtain ⟨w, hh, c, p, x, rfl, rfl, rfl⟩ := sMI_inv h
  clear h
  refine ⟨Nat.le_of_ble_eq_true rfl, ?_⟩
  (repeat' (first | apply And.intro | intro h)); (all_goals (try exact Chk.mk (by kernel_rfl)))
  (all_goals (try first | exact True.intro | exact rfl | exact And.intro rfl rfl | exact And.intro rfl (fun _ _ => rfl)))
end Go.Proofs.YtocboijpmmlegaaDoor
namespace Go.Proofs.YtocboijpmmlegaaDoor
open Go Go.RowKit
set_option maxHeartbeats 4000000
abbrev strI (s : List UInt8) : List Int := s.map fun c => (c.toNat : Int)
end Go.Proofs.YtocboijpmmlegaaDoor
namespace Go.Proofs.YtocboijpmmlegaaDoor
open Go Go.RowKit
theorem u8_inj {a b : List Int} (ha : Bytes a) (hb : Bytes b) : (a.map (fun n => UInt8.ofNat n.toNat) = b.map (fun n => UInt8.ofNat n.toNat)) ↔ a = b := by
  refine ⟨fun h => ?_, fun h => by rw [h]⟩
  have hl : a.length = b.length := by have := congrArg List.length h; simpa using this
  refine List.ext_getElem? fun j => ?_
  by_cases hj : j < a.length
  rotate_left
  · rw [List.getElem?_eq_none (by omega), List.getElem?_eq_none (by omega)]
  have h1 := congrArg (fun l => l[j]?) h
  have hjb : j < b.length := by omega
  simp only [List.getElem?_map, List.getElem?_eq_getElem hj, List.getElem?_eq_getElem hjb, Option.map_some, Option.some.injEq] at h1
  have h2 := congrArg UInt8.toNat h1
  have ra := ha _ (List.getElem_mem hj)
  have rb := hb _ (List.getElem_mem hjb)
  simp only [UInt8.toNat_ofNat'] at h2
  rw [List.getElem?_eq_getElem hj, List.getElem?_eq_getElem hjb, Option.some.injEq]
  omega
abbrev same14S : PSpec := fun l => match l with | [.roi .u8 a, .roi .u8 b] => some ([Bytes a, Bytes b], .bool (decide (a = b))) | [.roi .u8 a, .nils] => some ([Bytes a], .bool (decide (a = []))) | [.nils, .roi .u8 b] => some ([Bytes b], .bool (decide ([] = b))) | [.nils, .nils] => some ([], .bool true) | _ => none
theorem same14_s : SOK Tryd.prog 12 same14S := by
  refine sok_of (C := mkC 0 [] noG) (mkC_ok pok_nil noG_ok) rfl mixed ⟨Tryd.func12, by kernel_rfl, by kernel_rfl, by kernel_rfl⟩ fun l obs v h ho => ?_
  unfold same14S at h
  split at h
  · rename_i a b
    simp only [Option.some.injEq, Prod.mk.injEq] at h
    obtain ⟨rfl, rfl⟩ := h
    simp only [List.mem_cons, List.not_mem_nil, or_false, forall_eq_or_imp, forall_eq] at ho
    refine ⟨Nat.le_of_ble_eq_true rfl, ?_⟩
    have e : decide (a.map (fun n => UInt8.ofNat n.toNat) = b.map (fun n => UInt8.ofNat n.toNat)) = decide (a = b) := decide_eq_decide.2 (u8_inj ho.1 ho.2)
    (repeat' (first | (refine xI (fun hfk => ?_) (fun hfk => ?_) <;> ((try (first | replace hfk := oT hfk | replace hfk := oF hfk | simp only [oA, oB, dh1, dh0, ne_eq, reduceCtorEq] at hfk)); (try (exfalso; first | omega | contradiction | exact xF hfk (by with_reducible assumption) | exact xT hfk (by with_reducible assumption))))) | (refine And.intro ?ob ?_; (case ob => (first | exact Chk.mk (by kernel_rfl) | exact True.intro | with_reducible assumption | exact rng64 (by omega) (by omega) | omega | (dsimp only; omega) | (show (_ : Nat) ≤ _; omega) | (simp only [ll1, ll2, ll0]; first | done | omega) | (dsimp only; simp only [ll1, ll2, ll0]; omega)))) | exact True.intro | (show _ = _; first | with_reducible rfl | with_reducible assumption | omega | (simp only [ll1, ll2, ll0]; omega) | ((rw [e]); done) | exact rfl) | with_reducible assumption | (apply And.intro) | omega | (intro j hj; exact rfl)))
  · rename_i a
    simp only [Option.some.injEq, Prod.mk.injEq] at h
    obtain ⟨rfl, rfl⟩ := h
    refine ⟨Nat.le_of_ble_eq_true rfl, ?_⟩
    have e : decide (a.map (fun n => UInt8.ofNat n.toNat) = []) = decide (a = []) := decide_eq_decide.2 (by simp)
    (repeat' (first | (refine xI (fun hfk => ?_) (fun hfk => ?_) <;> ((try (first | replace hfk := oT hfk | replace hfk := oF hfk | simp only [oA, oB, dh1, dh0, ne_eq, reduceCtorEq] at hfk)); (try (exfalso; first | omega | contradiction | exact xF hfk (by with_reducible assumption) | exact xT hfk (by with_reducible assumption))))) | (refine And.intro ?ob ?_; (case ob => (first | exact Chk.mk (by kernel_rfl) | exact True.intro | with_reducible assumption | exact rng64 (by omega) (by omega) | omega | (dsimp only; omega) | (show (_ : Nat) ≤ _; omega) | (simp only [ll1, ll2, ll0]; first | done | omega) | (dsimp only; simp only [ll1, ll2, ll0]; omega)))) | exact True.intro | (show _ = _; first | with_reducible rfl | with_reducible assumption | omega | (simp only [ll1, ll2, ll0]; omega) | ((exact e); done) | exact rfl) | with_reducible assumption | (apply And.intro) | omega | (intro j hj; exact rfl)))
  · rename_i b
    simp only [Option.some.injEq, Prod.mk.injEq] at h
    obtain ⟨rfl, rfl⟩ := h
    refine ⟨Nat.le_of_ble_eq_true rfl, ?_⟩
    have e : decide ([] = b.map (fun n => UInt8.ofNat n.toNat)) = decide ([] = b) := decide_eq_decide.2 ⟨fun h => by cases b with | nil => rfl | cons x r => simp at h, fun h => by rw [← h]; rfl⟩
    (repeat' (first | (refine xI (fun hfk => ?_) (fun hfk => ?_) <;> ((try (first | replace hfk := oT hfk | replace hfk := oF hfk | simp only [oA, oB, dh1, dh0, ne_eq, reduceCtorEq] at hfk)); (try (exfalso; first | omega | contradiction | exact xF hfk (by with_reducible assumption) | exact xT hfk (by with_reducible assumption))))) | (refine And.intro ?ob ?_; (case ob => (first | exact Chk.mk (by kernel_rfl) | exact True.intro | with_reducible assumption | exact rng64 (by omega) (by omega) | omega | (dsimp only; omega) | (show (_ : Nat) ≤ _; omega) | (simp only [ll1, ll2, ll0]; first | done | omega) | (dsimp only; simp only [ll1, ll2, ll0]; omega)))) | exact True.intro | (show _ = _; first | with_reducible rfl | with_reducible assumption | omega | (simp only [ll1, ll2, ll0]; omega) | ((exact e); done) | exact rfl) | with_reducible assumption | (apply And.intro) | omega | (intro j hj; exact rfl)))
  · simp only [Option.some.injEq, Prod.mk.injEq] at h
    obtain ⟨rfl, rfl⟩ := h
    refine ⟨Nat.le_of_ble_eq_true rfl, ?_⟩
    (repeat' (first | (refine xI (fun hfk => ?_) (fun hfk => ?_) <;> ((try (first | replace hfk := oT hfk | replace hfk := oF hfk | simp only [oA, oB, dh1, dh0, ne_eq, reduceCtorEq] at hfk)); (try (exfalso; first | omega | contradiction | exact xF hfk (by with_reducible assumption) | exact xT hfk (by with_reducible assumption))))) | (refine And.intro ?ob ?_; (case ob => (first | exact Chk.mk (by kernel_rfl) | exact True.intro | with_reducible assumption | exact rng64 (by omega) (by omega) | omega | (dsimp only; omega) | (show (_ : Nat) ≤ _; omega) | (simp only [ll1, ll2, ll0]; first | done | omega) | (dsimp only; simp only [ll1, ll2, ll0]; omega)))) | exact True.intro | (show _ = _; first | with_reducible rfl | with_reducible assumption | omega | (simp only [ll1, ll2, ll0]; omega) | (skip; done) | exact rfl) | with_reducible assumption | (apply And.intro) | omega | (intro j hj; exact rfl)))
  · cases h
end Go.Proofs.YtocboijpmmlegaaDoor
namespace Go.Proofs.YtocboijpmmlegaaDoor
open Go Go.Shelf
def sh_laysM171_ren : Go.Shelf.Ren := ⟨fun | 171 => 26 | 243 => 44 | 246 => 73 | 283 => 85 | 284 => 86 | 285 => 87 | 286 => 88 | 129 => 94 | 317 => 93 | 318 => 95 | 319 => 96 | 320 => 97 | 337 => 100 | 338 => 101 | n => n, fun | 3 => 3 | 9 => 9 | 2 => 2 | 4 => 4 | 171 => 116 | 0 => 0 | 53 => 64 | 37 => 22 | 5 => 5 | 173 => 119 | 212 => 126 | 51 => 87 | 20 => 20 | 213 => 127 | 46 => 123 | 232 => 131 | 233 => 132 | n => n, fun | 17 => 0 | 18 => 1 | 19 => 2 | n => n⟩
theorem sh_laysM171 : Go.Proofs.LaysM.n171 Tryd.prog sh_laysM171_ren := {
  mixed := by kernel_rfl
  f129 := Tryd.func94.trans (congrArg some (by kernel_rfl))
  f171 := Tryd.func26.trans (congrArg some (by kernel_rfl))
  f243 := Tryd.func44.trans (congrArg some (by kernel_rfl))
  f246 := Tryd.func73.trans (congrArg some (by kernel_rfl))
  f283 := Tryd.func85.trans (congrArg some (by kernel_rfl))
  f284 := Tryd.func86.trans (congrArg some (by kernel_rfl))
  f285 := Tryd.func87.trans (congrArg some (by kernel_rfl))
  f286 := Tryd.func88.trans (congrArg some (by kernel_rfl))
  f317 := Tryd.func93.trans (congrArg some (by kernel_rfl))
  f318 := Tryd.func95.trans (congrArg some (by kernel_rfl))
  f319 := Tryd.func96.trans (congrArg some (by kernel_rfl))
  f320 := Tryd.func97.trans (congrArg some (by kernel_rfl))
  f337 := Tryd.func100.trans (congrArg some (by kernel_rfl))
  f338 := Tryd.func101.trans (congrArg some (by kernel_rfl))
  t0 := Tryd.underlying0
  a0 := Tryd.isAgg0
  z0 := Tryd.sizeOf0
  v0 := Tryd.zeroValue0
  t2 := Tryd.underlying2
  a2 := Tryd.isAgg2
  z2 := Tryd.sizeOf2
  v2 := Tryd.zeroValue2
  t3 := Tryd.underlying3
  a3 := Tryd.isAgg3
  z3 := Tryd.sizeOf3
  v3 := Tryd.zeroValue3
  t4 := Tryd.underlying4
  a4 := Tryd.isAgg4
  z4 := Tryd.sizeOf4
  v4 := Tryd.zeroValue4
  t5 := Tryd.underlying5
  a5 := Tryd.isAgg5
  z5 := Tryd.sizeOf5
  v5 := Tryd.zeroValue5
  t9 := Tryd.underlying9
  a9 := Tryd.isAgg9
  z9 := Tryd.sizeOf9
  v9 := Tryd.zeroValue9
  t20 := Tryd.underlying20
  a20 := Tryd.isAgg20
  z20 := Tryd.sizeOf20
  v20 := Tryd.zeroValue20
  t37 := Tryd.underlying22
  a37 := Tryd.isAgg22
  z37 := Tryd.sizeOf22
  v37 := Tryd.zeroValue22
  t46 := Tryd.underlying123
  a46 := Tryd.isAgg123
  z46 := Tryd.sizeOf123
  v46 := Tryd.zeroValue123
  t51 := Tryd.underlying87
  a51 := Tryd.isAgg87
  z51 := Tryd.sizeOf87
  v51 := Tryd.zeroValue87
  t53 := Tryd.underlying64
  a53 := Tryd.isAgg64
  z53 := Tryd.sizeOf64
  v53 := Tryd.zeroValue64
  t171 := Tryd.underlying116
  a171 := Tryd.isAgg116
  z171 := Tryd.sizeOf116
  v171 := Tryd.zeroValue116
  t173 := Tryd.underlying119
  a173 := Tryd.isAgg119
  z173 := Tryd.sizeOf119
  v173 := Tryd.zeroValue119
  t212 := Tryd.underlying126
  a212 := Tryd.isAgg126
  z212 := Tryd.sizeOf126
  v212 := Tryd.zeroValue126
  t213 := Tryd.underlying127
  a213 := Tryd.isAgg127
  z213 := Tryd.sizeOf127
  t232 := Tryd.underlying131
  a232 := Tryd.isAgg131
  z232 := Tryd.sizeOf131
  v232 := Tryd.zeroValue131
  t233 := Tryd.underlying132
  a233 := Tryd.isAgg132
  z233 := Tryd.sizeOf132
  v233 := Tryd.zeroValue132
  g17 := by kernel_rfl
  g18 := by kernel_rfl
  g19 := by kernel_rfl
  i0 := by kernel_rfl
  i2 := by kernel_rfl
  i3 := by kernel_rfl
  i4 := by kernel_rfl
  i5 := by kernel_rfl
  i9 := by kernel_rfl
  i20 := by kernel_rfl
  i37 := by kernel_rfl
  i46 := by kernel_rfl
  i51 := by kernel_rfl
  i53 := by kernel_rfl
  i171 := by kernel_rfl
  i173 := by kernel_rfl
  i212 := by kernel_rfl
  i232 := by kernel_rfl
  i233 := by kernel_rfl
  m17 := by kernel_rfl
  m18 := by kernel_rfl
  m19 := by kernel_rfl }
open Go.RowKit Go.Sort Go.Lib in
theorem sh_strconv_Itoa (n : Int) (h0 : -9223372036854775808 ≤ n) (h1 : n ≤ 9223372036854775807) (w : World) (htab : Lib.TabIs Tryd.prog w "internal/strconv.uint64pow10" .u64 Lib.pow10Tab) :
    Calls Tryd.prog 26 #[.int .i64 n] w fun e w' => e = .returned (.string ⟨(Lib.itoa n).toArray⟩) ∧ ∃ k os, w' = grow (w.drewN k) os := Any.strconv_Itoa sh_laysM171 n h0 h1 w htab
end Go.Proofs.YtocboijpmmlegaaDoor
namespace Go.Proofs.YtocboijpmmlegaaDoor
open Go Go.RowKit
set_option maxHeartbeats 4000000
theorem ext_below {w w' : World} (h : Below w.heap.size w w') : Ext (fun _ => False) w w' :=
  ⟨h.os, h.tape, h.output, h.size, fun b hb _ => h.block b hb, fun b s hs => by
    have hb : b < w.heap.size := by
      unfold World.shape? at hs
      split at hs
      · rename_i e; exact (Array.getElem?_eq_some_iff.1 e).1
      · cases hs
    unfold World.shape? at hs ⊢
    rw [h.block b hb]; exact hs⟩
theorem below_grown (w : World) (k : Nat) (os : Array Obj) : Below w.heap.size w (Go.Sort.grow (w.drewN k) os) := by
  refine ⟨rfl, ?_, rfl, ?_, fun b hb => ?_⟩
  · simp [Go.Sort.grow]
  · simp [Go.Sort.grow]
  · exact Go.Sort.heap_grow_old (w.drewN k) os hb
theorem tab_pow10 {w : World} {O : Nat → Prop} (h : GL w O) : Lib.TabIs Tryd.prog w "internal/strconv.uint64pow10" .u64 Lib.pow10Tab := by
  obtain ⟨_, _, ty, fr, e⟩ := h _ List.mem_cons_self
  unfold Lib.TabIs World.var?
  rw [show Tryd.prog.globalNamed "internal/strconv.uint64pow10" = some 0 by kernel_rfl]
  simp only [Option.bind_some]
  rw [e]
  rfl
abbrev itoaS : PSpec := fun l => match l with | [.int .i64 x] => some ([-9223372036854775808 ≤ x, x ≤ 9223372036854775807], .str (Lib.itoa x)) | _ => none
theorem itoa_s : SOK Tryd.prog 26 itoaS := by
  refine ⟨⟨_, Tryd.func26, by kernel_rfl, by kernel_rfl⟩, fun l obs v h ho w O cl hf hc => ?_⟩
  (unfold itoaS at h; split at h; rotate_left; (focus (cases h)); rename_i x; simp only [Option.some.injEq, Prod.mk.injEq] at h; obtain ⟨rfl, rfl⟩ := h; simp only [List.mem_cons, List.not_mem_nil, or_false, forall_eq_or_imp, forall_eq, false_implies, implies_true] at ho)
  obtain ⟨h0, h1⟩ := ho
  obtain ⟨hl, hr⟩ := hc
  match cl, hl with
  | [c], _ =>
    have hc := hr 0 _ _ rfl rfl
    cases hc
    refine (sh_strconv_Itoa x h0 h1 w (tab_pow10 hf.2)).mono fun en w' ⟨he, k, os, hw⟩ => ?_
    subst hw
    exact ⟨_, he, ext_below (below_grown w k os), .str _⟩
end Go.Proofs.YtocboijpmmlegaaDoor
namespace Go.Proofs.YtocboijpmmlegaaDoor
open Go Go.RowKit
set_option maxHeartbeats 4000000
theorem nD_le : ∀ (k u : Nat), u < 10 ^ (k + 1) → Lib.nDigits u ≤ k + 1
  | 0, u, h => by rw [Lib.nDigits_small (by simpa using h)]; exact Nat.le_refl _
  | k + 1, u, h => by
    by_cases h1 : u < 10
    · rw [Lib.nDigits_small h1]; omega
    · rw [Lib.nDigits_big h1]
      have := nD_le k (u / 10) (by rw [Nat.div_lt_iff_lt_mul (by decide)]; rw [Nat.pow_succ] at h; exact h)
      omega
theorem nD_pos (u : Nat) : 1 ≤ Lib.nDigits u := by
  by_cases h1 : u < 10
  · rw [Lib.nDigits_small h1]; exact Nat.le_refl _
  · rw [Lib.nDigits_big h1]; omega
def decI (u : Nat) : List Int := (Lib.decDigits u).map fun c => (c.toNat : Int)
theorem dg_byte {d : Nat} (h : d < 10) : (((UInt8.ofNat (48 + d)).toNat : Nat) : Int) = 48 + (d : Int) := by
  rw [UInt8.toNat_ofNat', Nat.mod_eq_of_lt (show 48 + d < 2 ^ 8 by omega)]; omega
theorem decI_small {u : Nat} (h : u < 10) : decI u = [48 + (u : Int)] := by
  unfold decI
  rw [Lib.decDigits, dif_pos h, List.map_cons, dg_byte h]; rfl
theorem decI_big {u : Nat} (h : ¬ u < 10) : decI u = decI (u / 10) ++ [48 + ((u % 10 : Nat) : Int)] := by
  unfold decI
  rw [Lib.decDigits, dif_neg h, List.map_append, List.map_cons, dg_byte (Nat.mod_lt _ (by decide))]; rfl
theorem decI_dg (u : Nat) : ∀ x ∈ decI u, 48 ≤ x ∧ x ≤ 57 := by
  induction u using Nat.strongRecOn with
  | ind u ih =>
    by_cases h : u < 10
    · rw [decI_small h]; intro x hx; simp only [List.mem_singleton] at hx; omega
    · rw [decI_big h]; intro x hx
      rcases List.mem_append.1 hx with k | k
      · exact ih (u / 10) (by omega) x k
      · simp only [List.mem_singleton] at k; omega
def hdI (k w h : Nat) : List Int := 80 :: (if k = 1 then 53 else 54) :: 10 :: (decI w ++ 32 :: (decI h ++ [10, 50, 53, 53, 10]))
end Go.Proofs.YtocboijpmmlegaaDoor
namespace Go.Proofs.YtocboijpmmlegaaDoor
open Go Go.RowKit
set_option maxHeartbeats 4000000
theorem itoa_len {x : Int} (h0 : -9223372036854775808 ≤ x) (h1 : x ≤ 9223372036854775807) : (Lib.itoa x).length ≤ 20 := by
  have key : ∀ u : Nat, u < 10 ^ 19 → (Lib.decDigits u).length ≤ 19 := fun u hu => by rw [Lib.decDigits_length]; exact nD_le 18 u hu
  unfold Lib.itoa
  split
  · have := key x.natAbs (by omega)
    rw [List.length_cons]; omega
  · have := key x.toNat (by omega)
    omega
def hdS (w h c : Int) : List UInt8 :=
  if c = 1 then (ByteArray.mk #[80, 53, 10]).data.toList ++ Lib.itoa w ++ (ByteArray.mk #[32]).data.toList ++ Lib.itoa h ++ (ByteArray.mk #[10, 50, 53, 53, 10]).data.toList
  else if c = 3 then (ByteArray.mk #[80, 54, 10]).data.toList ++ Lib.itoa w ++ (ByteArray.mk #[32]).data.toList ++ Lib.itoa h ++ (ByteArray.mk #[10, 50, 53, 53, 10]).data.toList
  else (ByteArray.mk #[]).data.toList
abbrev headS : PSpec := fun l => match l with | [.int .i64 w, .int .i64 h, .int .i64 c] => some ([-9223372036854775808 ≤ w, w ≤ 9223372036854775807, -9223372036854775808 ≤ h, h ≤ 9223372036854775807], .str (hdS w h c)) | _ => none
theorem len_i64 {n : Nat} (h : n ≤ 1000) : ((n : Nat) : Int) ≤ IntKind.i64.max := by
  show (n : Int) ≤ 9223372036854775807
  omega
theorem head_s : SOK Tryd.prog 13 headS := by
  refine sok_of (C := mkC 0 [(26, itoaS)] noG) (mkC_ok (pok_cons itoa_s pok_nil) noG_ok) rfl mixed ⟨Tryd.func13, by kernel_rfl, by kernel_rfl, by kernel_rfl⟩ fun l obs v h ho => ?_
  (unfold headS at h; split at h; rotate_left; (focus (cases h)); rename_i w hh c; simp only [Option.some.injEq, Prod.mk.injEq] at h; obtain ⟨rfl, rfl⟩ := h; simp only [List.mem_cons, List.not_mem_nil, or_false, forall_eq_or_imp, forall_eq, false_implies, implies_true] at ho)
  obtain ⟨w0, w1, h0, h1⟩ := ho
  refine ⟨Nat.le_of_ble_eq_true rfl, ?_⟩
  have lw := itoa_len w0 w1
  have lh := itoa_len h0 h1
  have q1 : (ByteArray.mk #[80, 53, 10]).data.toList.length = 3 := rfl
  have q2 : (ByteArray.mk #[80, 54, 10]).data.toList.length = 3 := rfl
  have q3 : (ByteArray.mk #[32]).data.toList.length = 1 := rfl
  have q4 : (ByteArray.mk #[10, 50, 53, 53, 10]).data.toList.length = 5 := rfl
  by_cases c1 : c = 1
  · subst c1
    have e : hdS w hh 1 = (ByteArray.mk #[80, 53, 10]).data.toList ++ Lib.itoa w ++ (ByteArray.mk #[32]).data.toList ++ Lib.itoa hh ++ (ByteArray.mk #[10, 50, 53, 53, 10]).data.toList := if_pos rfl
    rw [e]
    clear e
    (repeat' (first | (refine xI (fun hfk => ?_) (fun hfk => ?_) <;> ((try (first | replace hfk := oT hfk | replace hfk := oF hfk | simp only [oA, oB, dh1, dh0, ne_eq, reduceCtorEq] at hfk)); (try (exfalso; first | omega | contradiction | exact xF hfk (by with_reducible assumption) | exact xT hfk (by with_reducible assumption))))) | (refine And.intro ?ob ?_; (case ob => (first | exact Chk.mk (by kernel_rfl) | exact True.intro | with_reducible assumption | exact rng64 (by omega) (by omega) | omega | (dsimp only; omega) | (show (_ : Nat) ≤ _; omega) | (simp only [ll1, ll2, ll0]; first | done | omega) | (dsimp only; simp only [ll1, ll2, ll0]; omega)))) | exact True.intro | (show _ = _; first | with_reducible rfl | with_reducible assumption | omega | (simp only [ll1, ll2, ll0]; omega) | (rfl; done) | exact rfl) | with_reducible assumption | (apply And.intro) | omega | (intro j hj; exact rfl)))
    all_goals (refine len_i64 ?_; (repeat rw [List.length_append]); omega)
  · by_cases c3 : c = 3
    · subst c3
      have e : hdS w hh 3 = (ByteArray.mk #[80, 54, 10]).data.toList ++ Lib.itoa w ++ (ByteArray.mk #[32]).data.toList ++ Lib.itoa hh ++ (ByteArray.mk #[10, 50, 53, 53, 10]).data.toList := by
        unfold hdS; rw [if_neg (by decide), if_pos rfl]
      rw [e]
      clear e
      (repeat' (first | (refine xI (fun hfk => ?_) (fun hfk => ?_) <;> ((try (first | replace hfk := oT hfk | replace hfk := oF hfk | simp only [oA, oB, dh1, dh0, ne_eq, reduceCtorEq] at hfk)); (try (exfalso; first | omega | contradiction | exact xF hfk (by with_reducible assumption) | exact xT hfk (by with_reducible assumption))))) | (refine And.intro ?ob ?_; (case ob => (first | exact Chk.mk (by kernel_rfl) | exact True.intro | with_reducible assumption | exact rng64 (by omega) (by omega) | omega | (dsimp only; omega) | (show (_ : Nat) ≤ _; omega) | (simp only [ll1, ll2, ll0]; first | done | omega) | (dsimp only; simp only [ll1, ll2, ll0]; omega)))) | exact True.intro | (show _ = _; first | with_reducible rfl | with_reducible assumption | omega | (simp only [ll1, ll2, ll0]; omega) | (rfl; done) | exact rfl) | with_reducible assumption | (apply And.intro) | omega | (intro j hj; exact rfl)))
      all_goals (refine len_i64 ?_; (repeat rw [List.length_append]); omega)
    · have e : hdS w hh c = (ByteArray.mk #[]).data.toList := by unfold hdS; rw [if_neg c1, if_neg c3]
      rw [e]
      clear e
      (repeat' (first | (refine xI (fun hfk => ?_) (fun hfk => ?_) <;> ((try (first | replace hfk := oT hfk | replace hfk := oF hfk | simp only [oA, oB, dh1, dh0, ne_eq, reduceCtorEq] at hfk)); (try (exfalso; first | omega | contradiction | exact xF hfk (by with_reducible assumption) | exact xT hfk (by with_reducible assumption))))) | (refine And.intro ?ob ?_; (case ob => (first | exact Chk.mk (by kernel_rfl) | exact True.intro | with_reducible assumption | exact rng64 (by omega) (by omega) | omega | (dsimp only; omega) | (show (_ : Nat) ≤ _; omega) | (simp only [ll1, ll2, ll0]; first | done | omega) | (dsimp only; simp only [ll1, ll2, ll0]; omega)))) | exact True.intro | (show _ = _; first | with_reducible rfl | with_reducible assumption | omega | (simp only [ll1, ll2, ll0]; omega) | (rfl; done) | exact rfl) | with_reducible assumption | (apply And.intro) | omega | (intro j hj; exact rfl)))
def pwE (w h c n : Int) : Int := if imCheck w h c n ≠ 0 then imCheck w h c n else if c = 4 then 10 else 0
def pwL (w h c : Int) (p : List Int) : List Int := if pwE w h c p.length = 0 then strI (hdS w h c) ++ p else []
abbrev pwS : PSpec := fun l => match l with
  | [.agg [.int .i64 w, .int .i64 h, .int .i64 c, .roi .u8 p]] => some ([p.length ≤ 20000], .tup [.roi .u8 (pwL w h c p), .int .i64 (pwE w h c p.length)])
  | _ => none
theorem hdS_len {w h c : Int} (w0 : -9223372036854775808 ≤ w) (w1 : w ≤ 9223372036854775807) (h0 : -9223372036854775808 ≤ h) (h1 : h ≤ 9223372036854775807) : (hdS w h c).length ≤ 50 := by
  have lw := itoa_len w0 w1
  have lh := itoa_len h0 h1
  unfold hdS
  split
  · simp only [List.length_append]
    show 3 + (Lib.itoa w).length + 1 + (Lib.itoa h).length + 5 ≤ 50
    omega
  · split
    · simp only [List.length_append]
      show 3 + (Lib.itoa w).length + 1 + (Lib.itoa h).length + 5 ≤ 50
      omega
    · exact Nat.zero_le _
theorem pwrite_s : SOK Tryd.prog 8 pwS := by
  refine sok_of (C := mkE 0 [(22, checkS), (13, headS)] noG [] [] []) (mkE_ok (pok_cons check_s (pok_cons head_s pok_nil)) noG_ok dl_nil) rfl mixed ⟨Tryd.func8, by kernel_rfl, by kernel_rfl, by kernel_rfl⟩ fun l obs v h ho => ?_
  (unfold pwS at h; split at h; rotate_left; (focus (cases h)); rename_i w hh c p; simp only [Option.some.injEq, Prod.mk.injEq] at h; obtain ⟨rfl, rfl⟩ := h; simp only [List.mem_cons, List.not_mem_nil, or_false, forall_eq_or_imp, forall_eq, false_implies, implies_true] at ho)
  refine ⟨Nat.le_of_ble_eq_true rfl, ?_⟩
  by_cases e : imCheck w hh c p.length = 0
  · obtain ⟨c1, w1, w2, h1, h2, wh, _⟩ := fits_inv (check_inv e).1
    have lh := hdS_len (w := w) (h := hh) (c := c) (by omega) (by omega) (by omega) (by omega)
    by_cases c4 : c = 4
    · have e1 : pwE w hh c p.length = 10 := by unfold pwE; rw [if_neg (fun k => k e), if_pos c4]
      have e2 : pwL w hh c p = [] := if_neg (by rw [e1]; decide)
      have e3 : hdS w hh c = (ByteArray.mk #[]).data.toList := by unfold hdS; rw [if_neg (by omega), if_neg (by omega)]
      rw [e1, e2]
      (repeat' (first | (refine xI (fun hfk => ?_) (fun hfk => ?_) <;> ((try (first | replace hfk := oT hfk | replace hfk := oF hfk | simp only [oA, oB, dh1, dh0, ne_eq, reduceCtorEq] at hfk)); (try (exfalso; first | omega | contradiction | exact xF hfk (by with_reducible assumption) | exact xT hfk (by with_reducible assumption))))) | (refine And.intro ?ob ?_; (case ob => (first | exact Chk.mk (by kernel_rfl) | exact True.intro | with_reducible assumption | exact rng64 (by omega) (by omega) | omega | (dsimp only; omega) | (show (_ : Nat) ≤ _; omega) | (simp only [ll1, ll2, ll0]; first | done | omega) | (dsimp only; simp only [ll1, ll2, ll0]; omega)))) | exact True.intro | (show _ = _; first | with_reducible rfl | with_reducible assumption | omega | (simp only [ll1, ll2, ll0]; omega) | (rfl; done) | exact rfl) | with_reducible assumption | (apply And.intro) | omega | (intro j hj; exact rfl)))
    · have e1 : pwE w hh c p.length = 0 := by unfold pwE; rw [if_neg (fun k => k e), if_neg c4]
      have e2 : pwL w hh c p = strI (hdS w hh c) ++ p := if_pos e1
      have e3 : ¬ hdS w hh c = (ByteArray.mk #[]).data.toList := by
        unfold hdS
        rcases c1 with k | k | k
        · rw [if_pos k]; exact fun q => by cases q
        · rw [if_neg (by omega), if_pos k]; exact fun q => by cases q
        · exact absurd k c4
      rw [e1, e2]
      have lm : (List.map (fun c : UInt8 => (c.toNat : Int)) (hdS w hh c)).length = (hdS w hh c).length := List.length_map _
      have z1 : List.take ((List.map (fun c : UInt8 => (c.toNat : Int)) (hdS w hh c)).length + p.length) (List.drop 0 (List.map (fun c : UInt8 => (c.toNat : Int)) (hdS w hh c) ++ p)) = strI (hdS w hh c) ++ p := by
        rw [List.drop_zero, List.take_of_length_le (by rw [List.length_append]; exact Nat.le_refl _)]
      (repeat' (first | (refine xI (fun hfk => ?_) (fun hfk => ?_) <;> ((try (first | replace hfk := oT hfk | replace hfk := oF hfk | simp only [oA, oB, dh1, dh0, ne_eq, reduceCtorEq] at hfk)); (try (exfalso; first | omega | contradiction | exact xF hfk (by with_reducible assumption) | exact xT hfk (by with_reducible assumption))))) | (refine And.intro ?ob ?_; (case ob => (first | exact Chk.mk (by kernel_rfl) | exact True.intro | with_reducible assumption | exact rng64 (by omega) (by omega) | omega | (dsimp only; omega) | (show (_ : Nat) ≤ _; omega) | (simp only [ll1, ll2, ll0]; first | done | omega) | (dsimp only; simp only [ll1, ll2, ll0]; omega)))) | exact True.intro | (show _ = _; first | with_reducible rfl | with_reducible assumption | omega | (simp only [ll1, ll2, ll0]; omega) | (first | exact z1 | rfl; done) | exact rfl) | with_reducible assumption | (apply And.intro) | omega | (intro j hj; exact rfl)))
  · have e1 : pwE w hh c p.length = imCheck w hh c p.length := if_pos e
    have e2 : pwL w hh c p = [] := if_neg (by rw [e1]; exact e)
    rw [e1, e2]
    (repeat' (first | (refine xI (fun hfk => ?_) (fun hfk => ?_) <;> ((try (first | replace hfk := oT hfk | replace hfk := oF hfk | simp only [oA, oB, dh1, dh0, ne_eq, reduceCtorEq] at hfk)); (try (exfalso; first | omega | contradiction | exact xF hfk (by with_reducible assumption) | exact xT hfk (by with_reducible assumption))))) | (refine And.intro ?ob ?_; (case ob => (first | exact Chk.mk (by kernel_rfl) | exact True.intro | with_reducible assumption | exact rng64 (by omega) (by omega) | omega | (dsimp only; omega) | (show (_ : Nat) ≤ _; omega) | (simp only [ll1, ll2, ll0]; first | done | omega) | (dsimp only; simp only [ll1, ll2, ll0]; omega)))) | exact True.intro | (show _ = _; first | with_reducible rfl | with_reducible assumption | omega | (simp only [ll1, ll2, ll0]; omega) | (rfl; done) | exact rfl) | with_reducible assumption | (apply And.intro) | omega | (intro j hj; exact rfl)))
def pszV (w h c : Int) : Int := if (c = 1 ∨ c = 3) ∧ 1 ≤ w ∧ w ≤ 32768 ∧ 1 ≤ h ∧ h ≤ 32768 ∧ w * h ≤ 4194304 then ((hdS w h c).length : Int) + w * h * c else 0
abbrev psizS : PSpec := fun l => match l with | [.int .i64 w, .int .i64 h, .int .i64 c] => some ([-9223372036854775808 ≤ w, w ≤ 9223372036854775807, -9223372036854775808 ≤ h, h ≤ 9223372036854775807], .int .i64 (pszV w h c)) | _ => none
theorem psiz_s : SOK Tryd.prog 14 psizS := by
  refine sok_of (C := mkC 0 [(13, headS)] noG) (mkC_ok (pok_cons head_s pok_nil) noG_ok) rfl mixed ⟨Tryd.func14, by kernel_rfl, by kernel_rfl, by kernel_rfl⟩ fun l obs v h ho => ?_
  (unfold psizS at h; split at h; rotate_left; (focus (cases h)); rename_i w hh c; simp only [Option.some.injEq, Prod.mk.injEq] at h; obtain ⟨rfl, rfl⟩ := h; simp only [List.mem_cons, List.not_mem_nil, or_false, forall_eq_or_imp, forall_eq, false_implies, implies_true] at ho)
  obtain ⟨w0, w1, h0, h1⟩ := ho
  refine ⟨Nat.le_of_ble_eq_true rfl, ?_⟩
  have lh := hdS_len (c := c) w0 w1 h0 h1
  by_cases hc : c = 1 ∨ c = 3
  · have e3 : ¬ hdS w hh c = (ByteArray.mk #[]).data.toList := by
      unfold hdS
      rcases hc with k | k
      · rw [if_pos k]; exact fun q => by cases q
      · rw [if_neg (by omega), if_pos k]; exact fun q => by cases q
    by_cases hb : 1 ≤ w ∧ w ≤ 32768 ∧ 1 ≤ hh ∧ hh ≤ 32768
    · have hm := Int.mul_nonneg (show 0 ≤ w by omega) (show 0 ≤ hh by omega)
      have hm2 : w * hh ≤ 32768 * 32768 := Int.mul_le_mul hb.2.1 hb.2.2.2 (by omega) (by omega)
      have r1 : rngI .i64 (w * hh) := rng64 (by omega) (by omega)
      by_cases hx : w * hh ≤ 4194304
      · have e : pszV w hh c = ((hdS w hh c).length : Int) + w * hh * c := if_pos ⟨hc, hb.1, hb.2.1, hb.2.2.1, hb.2.2.2, hx⟩
        have hk : w * hh * c = w * hh * 1 ∨ w * hh * c = w * hh * 3 := by rcases hc with k | k <;> rw [k] <;> simp
        have r2 : rngI .i64 (w * hh * c) := rng64 (by omega) (by omega)
        have r3 : rngI .i64 (((hdS w hh c).length : Int) + w * hh * c) := rng64 (by omega) (by omega)
        rw [e]
        clear e
        (repeat' (first | (refine xI (fun hfk => ?_) (fun hfk => ?_) <;> ((try (first | replace hfk := oT hfk | replace hfk := oF hfk | simp only [oA, oB, dh1, dh0, ne_eq, reduceCtorEq] at hfk)); (try (exfalso; first | omega | contradiction | exact xF hfk (by with_reducible assumption) | exact xT hfk (by with_reducible assumption))))) | (refine And.intro ?ob ?_; (case ob => (first | exact Chk.mk (by kernel_rfl) | exact True.intro | with_reducible assumption | exact rng64 (by omega) (by omega) | omega | (dsimp only; omega) | (show (_ : Nat) ≤ _; omega) | (simp only [ll1, ll2, ll0]; first | done | omega) | (dsimp only; simp only [ll1, ll2, ll0]; omega)))) | exact True.intro | (show _ = _; first | with_reducible rfl | with_reducible assumption | omega | (simp only [ll1, ll2, ll0]; omega) | (first | exact r1 | exact r2 | exact r3 | rfl; done) | exact rfl) | with_reducible assumption | (apply And.intro) | omega | (intro j hj; exact rfl)))
      · have e : pszV w hh c = 0 := if_neg (fun k => hx k.2.2.2.2.2)
        rw [e]
        clear e
        (repeat' (first | (refine xI (fun hfk => ?_) (fun hfk => ?_) <;> ((try (first | replace hfk := oT hfk | replace hfk := oF hfk | simp only [oA, oB, dh1, dh0, ne_eq, reduceCtorEq] at hfk)); (try (exfalso; first | omega | contradiction | exact xF hfk (by with_reducible assumption) | exact xT hfk (by with_reducible assumption))))) | (refine And.intro ?ob ?_; (case ob => (first | exact Chk.mk (by kernel_rfl) | exact True.intro | with_reducible assumption | exact rng64 (by omega) (by omega) | omega | (dsimp only; omega) | (show (_ : Nat) ≤ _; omega) | (simp only [ll1, ll2, ll0]; first | done | omega) | (dsimp only; simp only [ll1, ll2, ll0]; omega)))) | exact True.intro | (show _ = _; first | with_reducible rfl | with_reducible assumption | omega | (simp only [ll1, ll2, ll0]; omega) | (first | exact r1 | rfl; done) | exact rfl) | with_reducible assumption | (apply And.intro) | omega | (intro j hj; exact rfl)))
    · have e : pszV w hh c = 0 := if_neg (fun k => hb ⟨k.2.1, k.2.2.1, k.2.2.2.1, k.2.2.2.2.1⟩)
      rw [e]
      clear e
      (repeat' (first | (refine xI (fun hfk => ?_) (fun hfk => ?_) <;> ((try (first | replace hfk := oT hfk | replace hfk := oF hfk | simp only [oA, oB, dh1, dh0, ne_eq, reduceCtorEq] at hfk)); (try (exfalso; first | omega | contradiction | exact xF hfk (by with_reducible assumption) | exact xT hfk (by with_reducible assumption))))) | (refine And.intro ?ob ?_; (case ob => (first | exact Chk.mk (by kernel_rfl) | exact True.intro | with_reducible assumption | exact rng64 (by omega) (by omega) | omega | (dsimp only; omega) | (show (_ : Nat) ≤ _; omega) | (simp only [ll1, ll2, ll0]; first | done | omega) | (dsimp only; simp only [ll1, ll2, ll0]; omega)))) | exact True.intro | (show _ = _; first | with_reducible rfl | with_reducible assumption | omega | (simp only [ll1, ll2, ll0]; omega) | (rfl; done) | exact rfl) | with_reducible assumption | (apply And.intro) | omega | (intro j hj; exact rfl)))
  · have e : pszV w hh c = 0 := if_neg (fun k => hc k.1)
    have e3 : hdS w hh c = (ByteArray.mk #[]).data.toList := by unfold hdS; rw [if_neg (by omega), if_neg (by omega)]
    rw [e]
    clear e
    (repeat' (first | (refine xI (fun hfk => ?_) (fun hfk => ?_) <;> ((try (first | replace hfk := oT hfk | replace hfk := oF hfk | simp only [oA, oB, dh1, dh0, ne_eq, reduceCtorEq] at hfk)); (try (exfalso; first | omega | contradiction | exact xF hfk (by with_reducible assumption) | exact xT hfk (by with_reducible assumption))))) | (refine And.intro ?ob ?_; (case ob => (first | exact Chk.mk (by kernel_rfl) | exact True.intro | with_reducible assumption | exact rng64 (by omega) (by omega) | omega | (dsimp only; omega) | (show (_ : Nat) ≤ _; omega) | (simp only [ll1, ll2, ll0]; first | done | omega) | (dsimp only; simp only [ll1, ll2, ll0]; omega)))) | exact True.intro | (show _ = _; first | with_reducible rfl | with_reducible assumption | omega | (simp only [ll1, ll2, ll0]; omega) | (rfl; done) | exact rfl) | with_reducible assumption | (apply And.intro) | omega | (intro j hj; exact rfl)))
end Go.Proofs.YtocboijpmmlegaaDoor
namespace Go.Proofs.YtocboijpmmlegaaDoor
open Go Go.RowKit
set_option maxHeartbeats 4000000
theorem dgs_top : ∀ {n : Nat}, n ≠ 0 → 1 ≤ dgAt (dgs n) ((dgs n).length - 1 : Int) := by
  intro n
  induction n using Nat.strongRecOn with
  | ind n ih =>
    intro hn
    rw [dgs_pos hn]
    by_cases hq : n / 32768 = 0
    · rw [hq, dgs_0]
      show 1 ≤ dgAt [((n % 32768 : Nat) : Int)] (((1 : Nat) : Int) - 1)
      have : ((1 : Nat) : Int) - 1 = ((0 : Nat) : Int) := rfl
      rw [this, dgAt_in (show 0 < ([((n % 32768 : Nat) : Int)] : List Int).length from Nat.zero_lt_one)]
      show (1 : Int) ≤ ((n % 32768 : Nat) : Int)
      omega
    · have h1 := ih (n / 32768) (by omega) hq
      have hl : 1 ≤ (dgs (n / 32768)).length := by
        rw [dgs_pos hq, List.length_cons]; omega
      have e1 : (((((n % 32768 : Nat) : Int) :: dgs (n / 32768)).length : Int) - 1) = (((dgs (n / 32768)).length - 1 + 1 : Nat) : Int) := by rw [List.length_cons]; omega
      have e2 : ((dgs (n / 32768)).length : Int) - 1 = (((dgs (n / 32768)).length - 1 : Nat) : Int) := by omega
      rw [e2, dgAt_in (by omega)] at h1
      rw [e1, dgAt_in (by rw [List.length_cons]; omega)]
      exact h1
abbrev shortS : PSpec := gB2 (fun s d t e => [Bg s d, Bg t e, s = false, t = false, valD d < 18446744073709551616, valD e < 18446744073709551616, 0 < valD e]) fun s d t e => bigA (valD d / valD e)
theorem short_s : SOK Tryd.prog 64 shortS := by
  refine sok_of (C := mkC 0 [(40, unsignedS), (43, unsS), (69, madeS)] noG) (mkC_ok (pok_cons unsigned_s (pok_cons uns_s (pok_cons made_s pok_nil))) noG_ok) rfl mixed ⟨Tryd.func64, by kernel_rfl, by kernel_rfl, by kernel_rfl⟩ fun l obs v h ho => ?_
  unfold shortS at h
  (unfold gB2 at h; split at h; rotate_left; (focus (cases h)); rename_i s d t e; simp only [Option.some.injEq, Prod.mk.injEq] at h; obtain ⟨rfl, rfl⟩ := h; simp only [List.mem_cons, List.not_mem_nil, or_false, forall_eq_or_imp, forall_eq, false_implies, implies_true] at ho)
  obtain ⟨b1, b2, rfl, rfl, h3, h4, h5⟩ := ho
  have n1 := valD_nn b1.dig
  have q0 : 0 ≤ valD d / valD e := Int.ediv_nonneg n1 (by omega)
  have q1 : valD d / valD e ≤ valD d := Int.ediv_le_self _ n1
  have e0 : (valD d).tdiv (valD e) = valD d / valD e := Int.tdiv_eq_ediv_of_nonneg n1
  have z1 : (false && decide (0 < ((dgs (valD d / valD e).natAbs).length : Int))) = decide (valD d / valD e < 0) := by rw [Bool.false_and]; exact (decide_eq_false (by omega)).symm
  have ew : IntKind.u64.wrap ((valD d).tdiv (valD e)) = valD d / valD e := by rw [e0]; exact u64_id q0 (by omega)
  have z2 : dgs (IntKind.u64.wrap ((valD d).tdiv (valD e))).natAbs = dgs (valD d / valD e).natAbs := by rw [ew]
  have z3 : 0 ≤ IntKind.u64.wrap ((valD d).tdiv (valD e)) := by omega
  have z4 : IntKind.u64.wrap ((valD d).tdiv (valD e)) < 18446744073709551616 := by omega
  have z5 : (false && decide (0 < ((dgs (IntKind.u64.wrap ((valD d).tdiv (valD e))).natAbs).length : Int))) = decide (valD d / valD e < 0) := by rw [ew]; exact z1
  refine ⟨Nat.le_of_ble_eq_true rfl, ?_⟩
  (repeat' (first | (refine xI (fun hfk => ?_) (fun hfk => ?_) <;> ((try (first | replace hfk := oT hfk | replace hfk := oF hfk | simp only [oA, oB, dh1, dh0, ne_eq, reduceCtorEq] at hfk)); (try (exfalso; first | omega | contradiction | exact xF hfk (by with_reducible assumption) | exact xT hfk (by with_reducible assumption))))) | (refine And.intro ?ob ?_; (case ob => (first | exact Chk.mk (by kernel_rfl) | exact True.intro | with_reducible assumption | exact rng64 (by omega) (by omega) | omega | (dsimp only; omega) | (show (_ : Nat) ≤ _; omega) | (simp only [ll1, ll2, ll0]; first | done | omega) | (dsimp only; simp only [ll1, ll2, ll0]; omega)))) | exact True.intro | (show _ = _; first | with_reducible rfl | with_reducible assumption | omega | (simp only [ll1, ll2, ll0]; omega) | (first | exact b1 | exact b2 | exact z1 | exact z5 | exact z2 | rfl; done) | exact rfl) | with_reducible assumption | (apply And.intro) | omega | (intro j hj; exact rfl)))
def fz0 : AV → AV | .fls => .bool false | .tru => .bool true | x => x
def fzA : AV → AV | .agg l => .agg (l.map fz0) | x => fz0 x
theorem fz0_rep {R : PN} {w : World} {O : Nat → Prop} {x : AV} {v : Value} (h : Rep R w O x v) : Rep R w O (fz0 x) v := by
  unfold fz0
  split
  · cases h; exact .bool _
  · cases h; exact .bool _
  · exact h
theorem fzA_rep {R : PN} {w : World} {O : Nat → Prop} {x : AV} {v : Value} (h : Rep R w O x v) : Rep R w O (fzA x) v := by
  unfold fzA
  split
  · cases h with
    | agg l vs hl h =>
      refine .agg _ _ (by simpa using hl) fun j x v hx hv => ?_
      simp only [List.getElem?_map, Option.map_eq_some_iff] at hx
      obtain ⟨y, hy, rfl⟩ := hx
      exact fz0_rep (h j y v hy hv)
  · exact fz0_rep h
theorem sok_fz {P : Program} {g : FuncId} {s : PSpec} (h : SOK P g s) : SOK P g (fun l => s (l.map fzA)) :=
  ⟨h.1, fun l obs v h1 h2 w O cl h3 h4 => h.2 _ obs v h1 h2 w O cl h3 ⟨by simpa using h4.1, fun j x v hx hv => by
    simp only [List.getElem?_map, Option.map_eq_some_iff] at hx
    obtain ⟨y, hy, rfl⟩ := hx
    exact fzA_rep (h4.2 j y v hy hv)⟩⟩
abbrev floorS : PSpec := gB2 (fun s d t e => [Bg s d, Bg t e, s = false, t = false, valD d < 1152921504606846976, 0 < valD e, valD e < 18446744073709551616]) fun s d t e => bigA (valD d / valD e)
theorem Bg.dg {s : Bool} {l : List Int} (h : Bg s l) : l = dgs (valD l).toNat := h.can.symm
theorem len4 {d : List Int} {s : Bool} (h : Bg s d) (k : valD d < 1152921504606846976) : d.length ≤ 4 := by
  have n1 := valD_nn h.dig
  rw [h.dg]
  exact dgs_len (k := 4) (by have : (32768 : Nat) ^ 4 = 1152921504606846976 := rfl
                             omega)
theorem len5 {d : List Int} {s : Bool} (h : Bg s d) (k : 4 < d.length) : 1152921504606846976 ≤ valD d := by
  have n1 := valD_nn h.dig
  by_cases z : 1152921504606846976 ≤ valD d
  · exact z
  · have := len4 h (by omega); omega
theorem floor_s : SOK Tryd.prog 39 floorS := by
  refine sok_of (C := mkE 0 [(64, shortS), (65, digitS), (66, trimS), (25, ofS), (42, fun l => mulS (l.map fzA)), (67, lessS), (68, restS01), (69, madeS)] (glook [(66, frzP trimS)]) [] [] [10, 11, 14, 1000019])
    (mkE_ok (pok_cons short_s (pok_cons digit_s (pok_cons trim_s (pok_cons of_s (pok_cons (sok_fz mul_s) (pok_cons less_s (pok_cons rest01_s (pok_cons made_s pok_nil)))))))) (gl_cons (gfrzP trim_s) gl_nil) dl_nil) rfl mixed ⟨Tryd.func39, by kernel_rfl, by kernel_rfl, by kernel_rfl⟩ fun l obs v h ho => ?_
  unfold floorS at h
  (unfold gB2 at h; split at h; rotate_left; (focus (cases h)); rename_i s d t e; simp only [Option.some.injEq, Prod.mk.injEq] at h; obtain ⟨rfl, rfl⟩ := h; simp only [List.mem_cons, List.not_mem_nil, or_false, forall_eq_or_imp, forall_eq, false_implies, implies_true] at ho)
  obtain ⟨b1, b2, rfl, rfl, h3, h4, h5⟩ := ho
  have n1 := valD_nn b1.dig
  have l4 := len4 b1 h3
  refine ⟨Nat.le_of_ble_eq_true rfl, ?_⟩
  by_cases k4 : e.length ≤ 4
  · (repeat' (first | (refine xI (fun hfk => ?_) (fun hfk => ?_) <;> ((try (first | replace hfk := oT hfk | replace hfk := oF hfk | simp only [oA, oB, dh1, dh0, ne_eq, reduceCtorEq] at hfk)); (try (exfalso; first | omega | contradiction | exact xF hfk (by with_reducible assumption) | exact xT hfk (by with_reducible assumption))))) | (refine And.intro ?ob ?_; (case ob => (first | exact Chk.mk (by kernel_rfl) | exact True.intro | with_reducible assumption | exact rng64 (by omega) (by omega) | omega | (dsimp only; omega) | (show (_ : Nat) ≤ _; omega) | (simp only [ll1, ll2, ll0]; first | done | omega) | (dsimp only; simp only [ll1, ll2, ll0]; omega)))) | exact True.intro | (show _ = _; first | with_reducible rfl | with_reducible assumption | omega | (simp only [ll1, ll2, ll0]; omega) | (first | exact b1 | exact b2 | rfl; done) | exact rfl) | with_reducible assumption | (apply And.intro) | omega | (intro j hj; exact rfl)))
  have hbig := len5 b2 (by omega)
  have q0 : valD d / valD e = 0 := Int.ediv_eq_zero_of_lt n1 (by omega)
  rw [q0]
  have el : 5 ≤ e.length := by omega
  have sh := b2.sh.le
  have te1 := dgAt_bd b2.dig ((e.length : Int) - 1)
  have te2 := dgAt_bd b2.dig ((e.length : Int) - 2)
  have top : 1 ≤ dgAt e ((e.length : Int) - 1) := by
    have := dgs_top (n := (valD e).toNat) (by omega)
    rwa [b2.can] at this
  have rt1 : rngI .i64 (dgAt e ((e.length : Int) - 1) * 32768) := rng64 (by omega) (by omega)
  have rt2 : rngI .i64 (dgAt e ((e.length : Int) - 1) * 32768 + dgAt e ((e.length : Int) - 2)) := rng64 (by omega) (by omega)
  (repeat' (first | (refine xI (fun hfk => ?_) (fun hfk => ?_) <;> ((try (first | replace hfk := oT hfk | replace hfk := oF hfk | simp only [oA, oB, dh1, dh0, ne_eq, reduceCtorEq] at hfk)); (try (exfalso; first | omega | contradiction | exact xF hfk (by with_reducible assumption) | exact xT hfk (by with_reducible assumption))))) | (refine And.intro ?ob ?_; (case ob => (first | exact Chk.mk (by kernel_rfl) | exact True.intro | with_reducible assumption | exact rng64 (by omega) (by omega) | omega | (dsimp only; omega) | (show (_ : Nat) ≤ _; omega) | (simp only [ll1, ll2, ll0]; first | done | omega) | (dsimp only; simp only [ll1, ll2, ll0]; omega)))) | exact True.intro | (show _ = _; first | with_reducible rfl | with_reducible assumption | omega | (simp only [ll1, ll2, ll0]; omega) | (first | exact rt1 | exact rt2; done) | exact rfl) | with_reducible assumption | (apply And.intro) | omega | (intro j hj; exact rfl)))
  obtain ⟨T, hT⟩ : ∃ T, dgAt e ((e.length : Int) - 1) * 32768 + dgAt e ((e.length : Int) - 2) = T := ⟨_, rfl⟩
  have hT0 : 32768 ≤ T ∧ T ≤ 1073741823 := by omega
  have r0 : ([] : List Int) = dgs (valD (d.drop (d.length - 0))).toNat := by
    rw [Nat.sub_zero, List.drop_of_length_le (Nat.le_refl _)]
    exact dgs_0.symm
  refine ⟨Nat × List Int × List Int, fun g => [(2, .ptr 0 0), (3, .ptr 1 0), (4, .ptr 2 0), (5, .roi .i64 g.2.1), (6, .roi .i64 g.2.2), (7, .int .i64 (e.length : Int)), (8, .int .i64 T), (9, .int .i64 ((d.length : Int) - 1 - (g.1 : Int)))],
      fun g => ⟨3, [(0, some (.cells 49 [.bool false, .roi .i64 d])), (1, some (.cells 49 [.bool false, .roi .i64 e])), (2, some (.cells 49 [.fls, .nils]))]⟩,
      fun g => g.1 ≤ d.length ∧ g.2.1 = List.replicate g.1 0 ∧ g.2.2 = dgs (valD (d.drop (d.length - g.1))).toNat, fun g => d.length - g.1, ⟨(0, [], []), [some 0, some 1, some 2], ⟨Nat.zero_le _, rfl, r0⟩, ?_⟩, fun g hg => ?_⟩
  · (repeat' (first | (refine And.intro ?_ ?_) | exact True.intro | (show _ = _; with_reducible rfl) | exact Chk.mk (by kernel_rfl)))
    all_goals first | exact hT | rfl | (show (_ : Int) = _; omega)
  obtain ⟨m, q, r⟩ := g
  obtain ⟨g1, g2, g3⟩ := hg
  have g1 : m ≤ d.length := g1
  have g2 : q = List.replicate m 0 := g2
  have g3 : r = dgs (valD (d.drop (d.length - m))).toNat := g3
  dsimp only
  clear r0 hT te1 te2 top rt1 rt2
  have ql : q.length = m := by rw [g2, List.length_replicate]
  by_cases hlt : m < d.length
  · have rl4 : r.length ≤ 4 := by
      have h1 := valD_drop_le (d.length - m) b1.dig
      have h2 := valD_nn (b1.dig.drop (d.length - m))
      rw [g3]
      exact dgs_len (k := 4) (by have : (32768 : Nat) ^ 4 = 1152921504606846976 := rfl
                                 omega)
    have rr : rngI .i64 ((d.length : Int) - 1 - (m : Int) - 1) := rng64 (by omega) (by omega)
    obtain ⟨R, hR⟩ : ∃ R, dgs (valD (d.drop (d.length - (m + 1)))).toNat = R := ⟨_, rfl⟩
    have ei : ((d.length : Int) - 1 - (m : Int)).toNat = d.length - (m + 1) := by omega
    have hcons : d.getD ((d.length : Int) - 1 - (m : Int)).toNat 0 :: r = d.getD (d.length - (m + 1)) 0 :: dgs (valD (d.drop (d.length - m))).toNat := by rw [ei, g3]
    have hdr : d.drop (d.length - (m + 1)) = d.getD (d.length - (m + 1)) 0 :: d.drop (d.length - m) := by
      rw [drop_dg (by omega), dgAt_in (by omega), show d.length - (m + 1) + 1 = d.length - m by omega]
    have hdg : Dig (d.getD (d.length - (m + 1)) 0 :: dgs (valD (d.drop (d.length - m))).toNat) := by
      refine Dig.cons ?_ (Dig_dgs _)
      have := b1.dig.drop (d.length - (m + 1))
      rw [hdr] at this
      exact this.head
    have nn := valD_nn (b1.dig.drop (d.length - m))
    have hv : valD (d.getD (d.length - (m + 1)) 0 :: dgs (valD (d.drop (d.length - m))).toNat) = valD (d.drop (d.length - (m + 1))) := by
      rw [hdr]
      show _ + 32768 * valD (dgs _) = _ + 32768 * valD _
      rw [valD_dgs, Int.toNat_of_nonneg nn]
    have htr : trimL (List.take (((fun x => d.getD ((d.length : Int) - 1 - (m : Int)).toNat 0 :: x) ([] : List Int)).length + r.length) (List.drop 0 ((fun x => d.getD ((d.length : Int) - 1 - (m : Int)).toNat 0 :: x) ([] : List Int) ++ r))) = R := by
      have e1 : List.take (((fun x => d.getD ((d.length : Int) - 1 - (m : Int)).toNat 0 :: x) ([] : List Int)).length + r.length) (List.drop 0 ((fun x => d.getD ((d.length : Int) - 1 - (m : Int)).toNat 0 :: x) ([] : List Int) ++ r)) = d.getD ((d.length : Int) - 1 - (m : Int)).toNat 0 :: r := by
        show List.take (1 + r.length) (d.getD ((d.length : Int) - 1 - (m : Int)).toNat 0 :: r) = _
        rw [List.take_of_length_le (by rw [List.length_cons]; omega)]
      rw [e1, hcons, trim_dgs hdg, hv, hR]
    have hst : ShT (List.take (((fun x => d.getD ((d.length : Int) - 1 - (m : Int)).toNat 0 :: x) ([] : List Int)).length + r.length) (List.drop 0 ((fun x => d.getD ((d.length : Int) - 1 - (m : Int)).toNat 0 :: x) ([] : List Int) ++ r))) := by
      refine ⟨?_⟩
      show (List.take (1 + r.length) (d.getD ((d.length : Int) - 1 - (m : Int)).toNat 0 :: r)).length ≤ 4000000
      rw [List.length_take, List.length_cons]; omega
    (repeat' (first | (refine xI (fun hfk => ?_) (fun hfk => ?_) <;> ((try (first | replace hfk := oT hfk | replace hfk := oF hfk | simp only [oA, oB, dh1, dh0, ne_eq, reduceCtorEq] at hfk)); (try (exfalso; first | omega | contradiction | exact xF hfk (by with_reducible assumption) | exact xT hfk (by with_reducible assumption))))) | (refine And.intro ?ob ?_; (case ob => (first | exact Chk.mk (by kernel_rfl) | exact True.intro | with_reducible assumption | exact rng64 (by omega) (by omega) | omega | (dsimp only; omega) | (show (_ : Nat) ≤ _; omega) | (simp only [ll1, ll2, ll0]; first | done | omega) | (dsimp only; simp only [ll1, ll2, ll0]; omega)))) | exact True.intro | (show _ = _; first | with_reducible rfl | with_reducible assumption | omega | (simp only [ll1, ll2, ll0]; omega) | (first | exact hst | skip; done) | exact rfl) | with_reducible assumption | (apply And.intro) | omega | (intro j hj; exact rfl)))
    refine ⟨[(2, .ptr 0 0), (3, .ptr 1 0), (4, .ptr 2 0), (5, .roi .i64 q), (6, .roi .i64 R), (7, .int .i64 (e.length : Int)), (8, .int .i64 T), (9, .int .i64 ((d.length : Int) - 1 - (m : Int)))],
      ⟨3, [(0, some (.cells 49 [.bool false, .roi .i64 d])), (1, some (.cells 49 [.bool false, .roi .i64 e])), (2, some (.cells 49 [.fls, .nils]))]⟩, [some 0, some 1, some 2], ?_, ?_⟩
    · (repeat' (first | (refine And.intro ?_ ?_) | exact True.intro | (show _ = _; with_reducible rfl) | exact Chk.mk (by kernel_rfl)))
      all_goals first | exact htr | rfl
    clear htr hst hv hdg hdr hcons g3 ei nn
    have Rn : valD R < 1152921504606846976 ∧ 0 ≤ valD R := by
      have h1 := valD_drop_le (d.length - (m + 1)) b1.dig
      have h2 := valD_nn (b1.dig.drop (d.length - (m + 1)))
      rw [← hR, valD_dgs]
      omega
    have RD : Dig R := by rw [← hR]; exact Dig_dgs _
    have Rl : R.length ≤ 4 := by
      rw [← hR]
      refine dgs_len (k := 4) ?_
      rw [← hR, valD_dgs] at Rn
      have : (32768 : Nat) ^ 4 = 1152921504606846976 := rfl
      omega
    have z1 : dgAt R (e.length : Int) = 0 := dgAt_out (by omega)
    have z2 : dgAt R ((e.length : Int) - 1) = 0 := if_neg (by omega)
    have z3 := dgAt_bd RD ((e.length : Int) - 2)
    obtain ⟨f, hf⟩ : ∃ f, dgAt R ((e.length : Int) - 2) = f := ⟨_, rfl⟩
    rw [hf] at z3
    (repeat' (first | (refine xI (fun hfk => ?_) (fun hfk => ?_) <;> ((try (first | replace hfk := oT hfk | replace hfk := oF hfk | simp only [oA, oB, dh1, dh0, ne_eq, reduceCtorEq] at hfk)); (try (exfalso; first | omega | contradiction | exact xF hfk (by with_reducible assumption) | exact xT hfk (by with_reducible assumption))))) | (refine And.intro ?ob ?_; (case ob => (first | exact Chk.mk (by kernel_rfl) | exact True.intro | with_reducible assumption | exact rng64 (by omega) (by omega) | omega | (dsimp only; omega) | (show (_ : Nat) ≤ _; omega) | (simp only [ll1, ll2, ll0]; first | done | omega) | (dsimp only; simp only [ll1, ll2, ll0]; omega)))) | exact True.intro | (show _ = _; first | with_reducible rfl | with_reducible assumption | omega | (simp only [ll1, ll2, ll0]; omega) | (skip; done) | exact rfl) | with_reducible assumption | (apply And.intro) | omega | (intro j hj; exact rfl)))
    refine ⟨[(2, .ptr 0 0), (3, .ptr 1 0), (4, .ptr 2 0), (5, .roi .i64 q), (6, .roi .i64 R), (7, .int .i64 (e.length : Int)), (8, .int .i64 T), (9, .int .i64 ((d.length : Int) - 1 - (m : Int))), (10, .int .i64 f)],
      ⟨3, [(0, some (.cells 49 [.bool false, .roi .i64 d])), (1, some (.cells 49 [.bool false, .roi .i64 e])), (2, some (.cells 49 [.fls, .nils]))]⟩, [some 0, some 1, some 2], ?_, ?_⟩
    · have ef : (dgAt R (e.length : Int) * 32768 + dgAt R ((e.length : Int) - 1)) * 32768 + dgAt R ((e.length : Int) - 2) = f := by rw [z1, z2, hf]; omega
      (repeat' (first | (refine And.intro ?_ ?_) | exact True.intro | (show _ = _; with_reducible rfl) | exact Chk.mk (by kernel_rfl)))
      all_goals first | exact ef | rfl
    clear z1 z2 hf
    have d1 : f.tdiv (T + 1) = 0 := by rw [Int.tdiv_eq_ediv_of_nonneg (by omega)]; exact Int.ediv_eq_zero_of_lt (by omega) (by omega)
    obtain ⟨hi, hhi⟩ : ∃ hi, min 32767 ((f + 1).tdiv T) = hi := ⟨_, rfl⟩
    have hq : (f + 1).tdiv T = 0 ∨ (f + 1).tdiv T = 1 := by
      rw [Int.tdiv_eq_ediv_of_nonneg (by omega)]
      have h1 : 0 ≤ (f + 1) / T := Int.ediv_nonneg (by omega) (by omega)
      have h2 : (f + 1) / T < 2 := Int.ediv_lt_of_lt_mul (by omega) (by omega)
      omega
    have hh : hi = 0 ∨ hi = 1 := by omega
    have dr1 : rngI .i64 (f.tdiv (T + 1)) := by rw [d1]; exact rng64 (by omega) (by omega)
    have dr2 : rngI .i64 ((f + 1).tdiv T) := rng64 (by omega) (by omega)
    (repeat' (first | (refine xI (fun hfk => ?_) (fun hfk => ?_) <;> ((try (first | replace hfk := oT hfk | replace hfk := oF hfk | simp only [oA, oB, dh1, dh0, ne_eq, reduceCtorEq] at hfk)); (try (exfalso; first | omega | contradiction | exact xF hfk (by with_reducible assumption) | exact xT hfk (by with_reducible assumption))))) | (refine And.intro ?ob ?_; (case ob => (first | exact Chk.mk (by kernel_rfl) | exact True.intro | with_reducible assumption | exact rng64 (by omega) (by omega) | omega | (dsimp only; omega) | (show (_ : Nat) ≤ _; omega) | (simp only [ll1, ll2, ll0]; first | done | omega) | (dsimp only; simp only [ll1, ll2, ll0]; omega)))) | exact True.intro | (show _ = _; first | with_reducible rfl | with_reducible assumption | omega | (simp only [ll1, ll2, ll0]; omega) | (first | exact dr1 | exact dr2 | skip; done) | exact rfl) | with_reducible assumption | (apply And.intro) | omega | (intro j hj; exact rfl)))
    have hh0 : min 32767 ((f + 1).tdiv T) = ((hi.toNat : Nat) : Int) := by omega
    refine ⟨Nat, fun h => [(2, .ptr 0 0), (3, .ptr 1 0), (4, .ptr 2 0), (5, .roi .i64 q), (6, .roi .i64 R), (7, .int .i64 (e.length : Int)), (8, .int .i64 T), (9, .int .i64 ((d.length : Int) - 1 - (m : Int))), (11, .int .i64 0), (12, .int .i64 (h : Int))],
      fun h => ⟨3, [(0, some (.cells 49 [.bool false, .roi .i64 d])), (1, some (.cells 49 [.bool false, .roi .i64 e])), (2, some (.cells 49 [.fls, .nils]))]⟩,
      fun h => h ≤ 1, fun h => h, ⟨hi.toNat, [some 0, some 1, some 2], by show hi.toNat ≤ 1; omega, ?_⟩, fun h hh2 => ?_⟩
    · (repeat' (first | (refine And.intro ?_ ?_) | exact True.intro | (show _ = _; with_reducible rfl) | exact Chk.mk (by kernel_rfl)))
      all_goals first | exact d1 | exact hh0 | rfl
    clear dr1 dr2 hq hh hhi hh0 d1 z3
    have hh2 : h ≤ 1 := hh2
    have be : bzv false e = valD e := rfl
    have BgO : ∀ z : Int, z = 0 ∨ z = 1 → Bg (decide (z < 0)) (dgs z.natAbs) := fun z hz => Bg_i64 (by omega) (by omega)
    by_cases h1 : h = 1
    · subst h1
      have m1 : Int.tdiv (0 + ((1 : Nat) : Int) + 1) 2 = 1 := by decide
      have rm : rngI .i64 (Int.tdiv (0 + ((1 : Nat) : Int) + 1) 2) := by rw [m1]; exact rng64 (by omega) (by omega)
      (repeat' (first | (refine xI (fun hfk => ?_) (fun hfk => ?_) <;> ((try (first | replace hfk := oT hfk | replace hfk := oF hfk | simp only [oA, oB, dh1, dh0, ne_eq, reduceCtorEq] at hfk)); (try (exfalso; first | omega | contradiction | exact xF hfk (by with_reducible assumption) | exact xT hfk (by with_reducible assumption))))) | (refine And.intro ?ob ?_; (case ob => (first | exact Chk.mk (by kernel_rfl) | exact True.intro | with_reducible assumption | exact rng64 (by omega) (by omega) | omega | (dsimp only; omega) | (show (_ : Nat) ≤ _; omega) | (simp only [ll1, ll2, ll0]; first | done | omega) | (dsimp only; simp only [ll1, ll2, ll0]; omega)))) | exact True.intro | (show _ = _; first | with_reducible rfl | with_reducible assumption | omega | (simp only [ll1, ll2, ll0]; omega) | (first | exact rm | skip; done) | exact rfl) | with_reducible assumption | (apply And.intro) | omega | (intro j hj; exact rfl)))
      refine ⟨[(2, .ptr 0 0), (3, .ptr 1 0), (4, .ptr 2 0), (5, .roi .i64 q), (6, .roi .i64 R), (7, .int .i64 (e.length : Int)), (8, .int .i64 T), (9, .int .i64 ((d.length : Int) - 1 - (m : Int))), (11, .int .i64 0), (12, .int .i64 ((1 : Nat) : Int)), (13, .int .i64 1)],
        ⟨3, [(0, some (.cells 49 [.bool false, .roi .i64 d])), (1, some (.cells 49 [.bool false, .roi .i64 e])), (2, some (.cells 49 [.fls, .nils]))]⟩, [some 0, some 1, some 2], ?_, ?_⟩
      · (repeat' (first | (refine And.intro ?_ ?_) | exact True.intro | (show _ = _; with_reducible rfl) | exact Chk.mk (by kernel_rfl)))
        all_goals first | exact m1 | rfl
      clear m1 rm
      have B1 := BgO 1 (.inr rfl)
      have ev : bzv (decide ((1 : Int) < 0)) (dgs (Int.natAbs 1)) * bzv false e = valD e := by rw [bzv_big, be, Int.one_mul]
      have hd : dgs (bzv (decide ((1 : Int) < 0)) (dgs (Int.natAbs 1)) * bzv false e).natAbs = e := by
        rw [ev]
        refine Eq.trans ?_ b2.can
        congr 1; omega
      have hc : cmpV (valD (dgs (bzv (decide ((1 : Int) < 0)) (dgs (Int.natAbs 1)) * bzv false e).natAbs)) (valD R) = 1 := by
        rw [hd]; unfold cmpV; rw [if_neg (by omega), if_pos (by omega)]
      have sh1 : Sh (dgs (bzv (decide ((1 : Int) < 0)) (dgs (Int.natAbs 1)) * bzv false e).natAbs) := by rw [hd]; exact b2.sh
      have dg1 : Dig (dgs (bzv (decide ((1 : Int) < 0)) (dgs (Int.natAbs 1)) * bzv false e).natAbs) := Dig_dgs _
      have shR : Sh R := ⟨by omega⟩
      clear ev hd
      (repeat' (first | (refine xI (fun hfk => ?_) (fun hfk => ?_) <;> ((try (first | replace hfk := oT hfk | replace hfk := oF hfk | simp only [oA, oB, dh1, dh0, ne_eq, reduceCtorEq] at hfk)); (try (exfalso; first | omega | contradiction | exact xF hfk (by with_reducible assumption) | exact xT hfk (by with_reducible assumption))))) | (refine And.intro ?ob ?_; (case ob => (first | exact Chk.mk (by kernel_rfl) | exact True.intro | with_reducible assumption | exact rng64 (by omega) (by omega) | omega | (dsimp only; omega) | (show (_ : Nat) ≤ _; omega) | (simp only [ll1, ll2, ll0]; first | done | omega) | (dsimp only; simp only [ll1, ll2, ll0]; omega)))) | exact True.intro | (show _ = _; first | with_reducible rfl | with_reducible assumption | omega | (simp only [ll1, ll2, ll0]; omega) | (first | exact B1 | exact b2 | exact sh1 | exact dg1 | exact shR | exact RD | skip; done) | exact rfl) | with_reducible assumption | (apply And.intro) | omega | (intro j hj; exact rfl)))
      refine ⟨0, [some 0, some 1, some 2], Nat.zero_le _, Nat.zero_lt_one, ?_⟩
      (repeat' (first | (refine And.intro ?_ ?_) | exact True.intro | (show _ = _; with_reducible rfl) | exact Chk.mk (by kernel_rfl)))
      all_goals first | rfl | (show (_ : Int) = _; omega)
    · obtain rfl : h = 0 := by omega
      have B0 := BgO 0 (.inl rfl)
      have ev : bzv (decide ((0 : Int) < 0)) (dgs (Int.natAbs 0)) * bzv false e = 0 := by rw [bzv_big, Int.zero_mul]
      have hd : dgs (bzv (decide ((0 : Int) < 0)) (dgs (Int.natAbs 0)) * bzv false e).natAbs = [] := by rw [ev]; exact dgs_0
      have hr : dgs (valD R - valD (dgs (bzv (decide ((0 : Int) < 0)) (dgs (Int.natAbs 0)) * bzv false e).natAbs)).toNat = R := by
        rw [hd]
        show dgs (valD R - 0).toNat = R
        rw [Int.sub_zero, ← hR, valD_dgs, Int.toNat_natCast]
      have sh1 : Sh (dgs (bzv (decide ((0 : Int) < 0)) (dgs (Int.natAbs 0)) * bzv false e).natAbs) := by rw [hd]; exact ⟨Nat.zero_le _⟩
      have dg1 : Dig (dgs (bzv (decide ((0 : Int) < 0)) (dgs (Int.natAbs 0)) * bzv false e).natAbs) := Dig_dgs _
      have le1 : valD (dgs (bzv (decide ((0 : Int) < 0)) (dgs (Int.natAbs 0)) * bzv false e).natAbs) ≤ valD R := by rw [hd]; exact Rn.2
      have shR : Sh R := ⟨by omega⟩
      clear ev hd
      (repeat' (first | (refine xI (fun hfk => ?_) (fun hfk => ?_) <;> ((try (first | replace hfk := oT hfk | replace hfk := oF hfk | simp only [oA, oB, dh1, dh0, ne_eq, reduceCtorEq] at hfk)); (try (exfalso; first | omega | contradiction | exact xF hfk (by with_reducible assumption) | exact xT hfk (by with_reducible assumption))))) | (refine And.intro ?ob ?_; (case ob => (first | exact Chk.mk (by kernel_rfl) | exact True.intro | with_reducible assumption | exact rng64 (by omega) (by omega) | omega | (dsimp only; omega) | (show (_ : Nat) ≤ _; omega) | (simp only [ll1, ll2, ll0]; first | done | omega) | (dsimp only; simp only [ll1, ll2, ll0]; omega)))) | exact True.intro | (show _ = _; first | with_reducible rfl | with_reducible assumption | omega | (simp only [ll1, ll2, ll0]; omega) | (first | exact B0 | exact b2 | exact sh1 | exact dg1 | exact le1 | exact shR | exact RD | skip; done) | exact rfl) | with_reducible assumption | (apply And.intro) | omega | (intro j hj; exact rfl)))
      refine ⟨[5], ?_⟩
      (repeat' (first | (refine xI (fun hfk => ?_) (fun hfk => ?_) <;> ((try (first | replace hfk := oT hfk | replace hfk := oF hfk | simp only [oA, oB, dh1, dh0, ne_eq, reduceCtorEq] at hfk)); (try (exfalso; first | omega | contradiction | exact xF hfk (by with_reducible assumption) | exact xT hfk (by with_reducible assumption))))) | (refine And.intro ?ob ?_; (case ob => (first | exact Chk.mk (by kernel_rfl) | exact True.intro | with_reducible assumption | exact rng64 (by omega) (by omega) | omega | (dsimp only; omega) | (show (_ : Nat) ≤ _; omega) | (simp only [ll1, ll2, ll0]; first | done | omega) | (dsimp only; simp only [ll1, ll2, ll0]; omega)))) | exact True.intro | (show _ = _; first | with_reducible rfl | with_reducible assumption | omega | (simp only [ll1, ll2, ll0]; omega) | (skip; done) | exact rfl) | with_reducible assumption | (apply And.intro) | omega | (intro j hj; exact rfl)))
      have q1 : List.take (((fun x => (0 : Int) :: x) ([] : List Int)).length + q.length) (List.drop 0 ((fun x => (0 : Int) :: x) ([] : List Int) ++ q)) = 0 :: q := by
        show List.take (1 + q.length) ((0 : Int) :: q) = _
        rw [List.take_of_length_le (by rw [List.length_cons]; omega)]
      refine ⟨[(2, .ptr 0 0), (3, .ptr 1 0), (4, .ptr 2 0), (5, .roi .i64 (0 :: q)), (6, .roi .i64 R), (7, .int .i64 (e.length : Int)), (8, .int .i64 T), (9, .int .i64 ((d.length : Int) - 1 - (m : Int)))],
        ⟨3, [(0, some (.cells 49 [.bool false, .roi .i64 d])), (1, some (.cells 49 [.bool false, .roi .i64 e])), (2, some (.cells 49 [.fls, .nils]))]⟩, [some 0, some 1, some 2], ?_, ?_⟩
      · (repeat' (first | (refine And.intro ?_ ?_) | exact True.intro | (show _ = _; with_reducible rfl) | exact Chk.mk (by kernel_rfl)))
        all_goals first | exact q1 | exact hr | rfl
      clear q1 hr B0 sh1 dg1 le1 shR BgO
      (repeat' (first | (refine xI (fun hfk => ?_) (fun hfk => ?_) <;> ((try (first | replace hfk := oT hfk | replace hfk := oF hfk | simp only [oA, oB, dh1, dh0, ne_eq, reduceCtorEq] at hfk)); (try (exfalso; first | omega | contradiction | exact xF hfk (by with_reducible assumption) | exact xT hfk (by with_reducible assumption))))) | (refine And.intro ?ob ?_; (case ob => (first | exact Chk.mk (by kernel_rfl) | exact True.intro | with_reducible assumption | exact rng64 (by omega) (by omega) | omega | (dsimp only; omega) | (show (_ : Nat) ≤ _; omega) | (simp only [ll1, ll2, ll0]; first | done | omega) | (dsimp only; simp only [ll1, ll2, ll0]; omega)))) | exact True.intro | (show _ = _; first | with_reducible rfl | with_reducible assumption | omega | (simp only [ll1, ll2, ll0]; omega) | (skip; done) | exact rfl) | with_reducible assumption | (apply And.intro) | omega | (intro j hj; exact rfl)))
      refine ⟨(m + 1, 0 :: q, R), [some 0, some 1, some 2], ⟨hlt, by rw [g2]; rfl, hR.symm⟩, ?mu2, ?_⟩
      case mu2 => (show d.length - (m + 1) < d.length - m; omega)
      (repeat' (first | (refine And.intro ?_ ?_) | exact True.intro | (show _ = _; with_reducible rfl) | exact Chk.mk (by kernel_rfl)))
      all_goals first | rfl | (show (_ : Int) = _; omega)
  · obtain rfl : m = d.length := by omega
    have tz : trimL q = [] := by
      rw [g2]
      have : Dig (List.replicate d.length 0) := fun x hx => by rw [(List.mem_replicate.1 hx).2]; exact ⟨by decide, by decide⟩
      rw [trim_dgs this, valD_zero]; exact dgs_0
    have sq : ShT q := ⟨by omega⟩
    have e0 : dgs (Int.natAbs 0) = [] := dgs_0
    (repeat' (first | (refine xI (fun hfk => ?_) (fun hfk => ?_) <;> ((try (first | replace hfk := oT hfk | replace hfk := oF hfk | simp only [oA, oB, dh1, dh0, ne_eq, reduceCtorEq] at hfk)); (try (exfalso; first | omega | contradiction | exact xF hfk (by with_reducible assumption) | exact xT hfk (by with_reducible assumption))))) | (refine And.intro ?ob ?_; (case ob => (first | exact Chk.mk (by kernel_rfl) | exact True.intro | with_reducible assumption | exact rng64 (by omega) (by omega) | omega | (dsimp only; omega) | (show (_ : Nat) ≤ _; omega) | (simp only [ll1, ll2, ll0]; first | done | omega) | (dsimp only; simp only [ll1, ll2, ll0]; omega)))) | exact True.intro | (show _ = _; first | with_reducible rfl | with_reducible assumption | omega | (simp only [ll1, ll2, ll0]; omega) | (first | exact sq | exact tz | exact tz.trans e0.symm | rfl; done) | exact rfl) | with_reducible assumption | (apply And.intro) | omega | (intro j hj; exact rfl)))
end Go.Proofs.YtocboijpmmlegaaDoor

