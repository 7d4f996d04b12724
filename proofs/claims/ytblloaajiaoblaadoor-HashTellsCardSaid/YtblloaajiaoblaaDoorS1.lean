/- Texts laid together. No condition. -/
import Derived.Test.YtblloaajiaoblaaDoorU
import Derived.WalkKit
import Derived.Test.YtblloaajiaoblaaDoorA
import Derived.Test.YtblloaajiaoblaaDoorE22
import Derived.Test.YtblloaajiaoblaaDoorE20
import Derived.Test.YtblloaajiaoblaaDoorE21
import Derived.Test.YtblloaajiaoblaaDoorE19
import Derived.BigCall
namespace Go.Proofs.YtblloaajiaoblaaDoor
theorem oT {p : Prop} [Decidable p] (h : decide p = true) : p := of_decide_eq_true h
theorem oF {p : Prop} [Decidable p] (h : decide p = false) : ¬ p := of_decide_eq_false h
theorem oA {p : Prop} [Decidable p] : (decide p = true) = p := decide_eq_true_eq
theorem oB {p : Prop} [Decidable p] : decide p = false ↔ ¬ p := decide_eq_false_iff_not
theorem oD : (∀ (p : Prop) [Decidable p], (decide p = true) = p) ∧ (∀ (p : Prop) [Decidable p], decide p = false ↔ ¬ p) ∧ ((∀ b : Bool, ((!b) = true) = (b = false)) ∧ (∀ b : Bool, ((!b) = false) = (b = true)) ∧ (∀ a b : Bool, ((a && b) = true) = (a = true ∧ b = true)) ∧ (∀ a b : Bool, ((a || b) = true) = (a = true ∨ b = true)) ∧ (∀ a b : Bool, ((a && b) = false) = (a = false ∨ b = false)) ∧ (∀ a b : Bool, ((a || b) = false) = (a = false ∧ b = false)) ∧ (∀ a b : Int, (¬ a < b) = (b ≤ a)) ∧ (∀ a b : Int, (¬ a ≤ b) = (b < a))) ∧ ((∀ p : Prop, (¬ ¬ p) = p) ∧ (true = false) = False ∧ (false = true) = False ∧ (∀ p : Prop, (p ∨ False) = p) ∧ (∀ p : Prop, (False ∨ p) = p) ∧ (∀ p : Prop, (p ∧ True) = p) ∧ (∀ p : Prop, (True ∧ p) = p) ∧ (¬ True) = False ∧ (¬ False) = True) := ⟨fun _ _ => oA, fun _ _ => oB, dh1, dh0⟩
theorem xF {x : Bool} (h : x = true) (k : x = false) : False := Bool.noConfusion (Eq.trans (Eq.symm h) k)
theorem xI {x : Bool} {A B : Prop} (f : x = true → A) (g : x = false → B) : (x = true → A) ∧ (x = false → B) := ⟨f, g⟩
theorem xT {x : Bool} (h : x = false) (k : x = true) : False := Bool.noConfusion (Eq.trans (Eq.symm h) k)
theorem oZ {p : Prop} (h : p := by (first | exact Chk.mk (by kernel_rfl) | exact True.intro | with_reducible assumption | exact rng64 (by omega) (by omega) | omega | (dsimp only; omega) | (show (_ : Nat) ≤ _; omega) | (simp only [ll1, ll2, ll0]; first | done | omega) | (dsimp only; simp only [ll1, ll2, ll0]; omega))) : p := h
theorem oX (h : False := by first | omega | contradiction | exact xF hfk (by with_reducible assumption) | exact xT hfk (by with_reducible assumption)) {p : Prop} : p := h.elim
theorem oY {p : Prop} (h : p := by first | with_reducible rfl | with_reducible assumption | omega | (simp only [ll1, ll2, ll0]; omega)) : p := h
theorem oW {p : Prop} (h : p := by first | with_reducible assumption | omega | (intro j hj; exact rfl)) : p := h
end Go.Proofs.YtblloaajiaoblaaDoor
set_option maxRecDepth 100000
set_option maxHeartbeats 4000000
set_option linter.unusedVariables false
set_option linter.unusedSimpArgs false
namespace Go.Proofs.YtblloaajiaoblaaDoor
open Go Go.RowKit
def hxc (d : Nat) : UInt8 := UInt8.ofNat (if d < 10 then 48 + d else 87 + d)
def hexF : Nat → Nat → List UInt8
  | 0, _ => []
  | n + 1, u => if u < 16 then [hxc u] else hexF n (u / 16) ++ [hxc (u % 16)]
def hxN : Nat → Nat → List UInt8
  | 0, _ => []
  | n + 1, u => hxN n (u / 16) ++ [hxc (u % 16)]
theorem hexF_le : ∀ (n u : Nat), (hexF n u).length ≤ n
  | 0, _ => Nat.le_refl _
  | n + 1, u => by
    have := hexF_le n (u / 16)
    unfold hexF
    split
    · simp
    · rw [List.length_append, List.length_singleton]; omega
theorem hxN_len : ∀ (n u : Nat), (hxN n u).length = n
  | 0, _ => rfl
  | n + 1, u => by unfold hxN; rw [List.length_append, hxN_len n]; rfl
theorem hxN_0 : ∀ n, hxN n 0 = List.replicate n 48
  | 0 => rfl
  | n + 1 => by
    unfold hxN
    rw [show 0 / 16 = 0 from rfl, hxN_0 n, List.replicate_succ']; rfl
theorem hex_pad : ∀ {n u : Nat}, u < 16 ^ n → List.replicate (n - (hexF n u).length) 48 ++ hexF n u = hxN n u
  | 0, u, h => rfl
  | n + 1, u, h => by
    unfold hexF hxN
    by_cases k : u < 16
    · rw [if_pos k, Nat.div_eq_of_lt k, hxN_0, Nat.mod_eq_of_lt k]; rfl
    · rw [if_neg k]
      have hu : u / 16 < 16 ^ n := by rw [Nat.pow_succ] at h; omega
      have ih := hex_pad hu
      rw [List.length_append, List.length_singleton, Nat.add_sub_add_right, ← List.append_assoc, ih]
theorem hex_begin : hxN 16 14695981039346656037 = [99, 98, 102, 50, 57, 99, 101, 52, 56, 52, 50, 50, 50, 51, 50, 53] := by decide
end Go.Proofs.YtblloaajiaoblaaDoor
namespace Go.Proofs.YtblloaajiaoblaaDoor
open Go Go.RowKit
def hdg (c : UInt8) : Nat := if 48 ≤ c.toNat ∧ c.toNat ≤ 57 then c.toNat - 48 else if 97 ≤ c.toNat ∧ c.toNat ≤ 102 then c.toNat - 87 else 99
def pdg (c : UInt8) : Nat := if 48 ≤ c.toNat ∧ c.toNat ≤ 57 then c.toNat - 48 else if 97 ≤ c.toNat ||| 32 ∧ c.toNat ||| 32 ≤ 122 then (c.toNat ||| 32) - 87 else 99
def pu16 : Nat → List UInt8 → Option Nat
  | a, [] => some a
  | a, c :: r => if 16 ≤ pdg c then none else if 1152921504606846976 ≤ a then none else pu16 (a * 16 + pdg c) r
def hval (l : List UInt8) : Nat := l.foldl (fun a c => a * 16 + hdg c) 0
def hOK (s : List UInt8) : Prop := s.length = 16 ∧ ∀ c ∈ s, hdg c < 16
instance (s : List UInt8) : Decidable (hOK s) := by unfold hOK; exact inferInstance
def rdX (s : List UInt8) : Int := if hOK s then (hval s : Int) else 0
def rdB (s : List UInt8) : Bool := decide (hOK s)
theorem pdg_of : ∀ n : Fin 256, hdg (UInt8.ofNat n.1) < 16 → pdg (UInt8.ofNat n.1) = hdg (UInt8.ofNat n.1) ∧ hxc (hdg (UInt8.ofNat n.1)) = UInt8.ofNat n.1 := by decide
theorem hdg_of : ∀ d : Fin 16, hdg (hxc d.1) = d.1 := by decide
theorem pdg_h {c : UInt8} (h : hdg c < 16) : pdg c = hdg c ∧ hxc (hdg c) = c := by
  have := pdg_of ⟨c.toNat, c.toNat_lt⟩
  rw [show UInt8.ofNat (⟨c.toNat, c.toNat_lt⟩ : Fin 256).1 = c from UInt8.ofNat_toNat] at this
  exact this h
theorem hdg_h {d : Nat} (h : d < 16) : hdg (hxc d) = d := hdg_of ⟨d, h⟩
theorem pu_app : ∀ (l : List UInt8) (a : Nat) (r : List UInt8), pu16 a (l ++ r) = (pu16 a l).bind fun b => pu16 b r
  | [], a, r => rfl
  | c :: l, a, r => by
    show (if 16 ≤ pdg c then none else if 1152921504606846976 ≤ a then none else pu16 (a * 16 + pdg c) (l ++ r)) = (if 16 ≤ pdg c then none else if 1152921504606846976 ≤ a then none else pu16 (a * 16 + pdg c) l).bind _
    split
    · rfl
    · split
      · rfl
      · exact pu_app l _ r
theorem hxN_hex : ∀ (n u : Nat), ∀ c ∈ hxN n u, hdg c < 16
  | 0, _, c, h => by cases h
  | n + 1, u, c, h => by
    unfold hxN at h
    rcases List.mem_append.1 h with k | k
    · exact hxN_hex n _ c k
    · rw [List.mem_singleton.1 k, hdg_h (Nat.mod_lt _ (by decide))]
      exact Nat.mod_lt _ (by decide)
theorem hval_app (l : List UInt8) (c : UInt8) : hval (l ++ [c]) = hval l * 16 + hdg c := by
  unfold hval
  rw [List.foldl_append]
  rfl
theorem pow16 (n : Nat) : 16 ^ (n + 1) = 16 ^ n * 16 := Nat.pow_succ 16 n
theorem pu_hx : ∀ {n u : Nat}, n ≤ 16 → u < 16 ^ n → pu16 0 (hxN n u) = some u
  | 0, u, _, h => by
    have : u = 0 := by have : 16 ^ 0 = 1 := rfl; omega
    subst this; rfl
  | n + 1, u, hn, h => by
    rw [pow16] at h
    unfold hxN
    rw [pu_app, pu_hx (n := n) (u := u / 16) (by omega) (by omega)]
    have hd := hdg_h (Nat.mod_lt u (by decide : 0 < 16))
    have hp := (pdg_h (c := hxc (u % 16)) (by rw [hd]; exact Nat.mod_lt _ (by decide))).1
    have h60 : 16 ^ n ≤ 16 ^ 15 := Nat.pow_le_pow_right (by decide) (by omega)
    have h15 : 16 ^ 15 = 1152921504606846976 := by decide
    show pu16 (u / 16) [hxc (u % 16)] = some u
    unfold pu16
    rw [hp, hd, if_neg (by omega), if_neg (by omega)]
    show some (u / 16 * 16 + u % 16) = some u
    congr 1
    omega
theorem hval_lt : ∀ (n : Nat) (l : List UInt8), l.length = n → (∀ c ∈ l, hdg c < 16) → hval l < 16 ^ n
  | 0, l, h, _ => by
    have : l = [] := List.length_eq_zero_iff.1 h
    subst this; decide
  | n + 1, l, h, hc => by
    obtain ⟨l', c, rfl⟩ : ∃ l' c, l = l' ++ [c] := ⟨l.dropLast, l.getLast (fun e => by subst e; cases h), (List.dropLast_concat_getLast _).symm⟩
    rw [List.length_append, List.length_singleton] at h
    have h1 := hval_lt n l' (by omega) fun x hx => hc x (List.mem_append_left _ hx)
    have h2 := hc c (List.mem_append_right _ (List.mem_singleton.2 rfl))
    rw [hval_app, pow16]
    omega
theorem hx_val : ∀ (n : Nat) (l : List UInt8), l.length = n → (∀ c ∈ l, hdg c < 16) → hxN n (hval l) = l
  | 0, l, h, _ => (List.length_eq_zero_iff.1 h).symm
  | n + 1, l, h, hc => by
    obtain ⟨l', c, rfl⟩ : ∃ l' c, l = l' ++ [c] := ⟨l.dropLast, l.getLast (fun e => by subst e; cases h), (List.dropLast_concat_getLast _).symm⟩
    rw [List.length_append, List.length_singleton] at h
    have h2 := hc c (List.mem_append_right _ (List.mem_singleton.2 rfl))
    unfold hxN
    rw [hval_app, show (hval l' * 16 + hdg c) / 16 = hval l' by omega, show (hval l' * 16 + hdg c) % 16 = hdg c by omega, hx_val n l' (by omega) fun x hx => hc x (List.mem_append_left _ hx), (pdg_h h2).2]
theorem rd_some {s : List UInt8} {x : Nat} (h : pu16 0 s = some x) (e : hxN 16 x = s) : rdX s = (x : Int) ∧ rdB s = true := by
  have ok : hOK s := ⟨by rw [← e]; exact hxN_len 16 x, fun c hc => by rw [← e] at hc; exact hxN_hex 16 x c hc⟩
  have h1 := hx_val 16 s ok.1 ok.2
  have h2 := pu_hx (Nat.le_refl 16) (hval_lt 16 s ok.1 ok.2)
  rw [h1, h] at h2
  have : x = hval s := Option.some.inj h2
  exact ⟨by unfold rdX; rw [if_pos ok, this], decide_eq_true ok⟩
theorem rd_none {s : List UInt8} (h : ∀ x, pu16 0 s = some x → hxN 16 x ≠ s) : rdX s = 0 ∧ rdB s = false := by
  have no : ¬ hOK s := fun ok => h (hval s) (by
    have h1 := hx_val 16 s ok.1 ok.2
    have h2 := pu_hx (Nat.le_refl 16) (hval_lt 16 s ok.1 ok.2)
    rw [h1] at h2
    exact h2) (hx_val 16 s ok.1 ok.2)
  exact ⟨by unfold rdX; rw [if_neg no], decide_eq_false no⟩
theorem rd_back {x : Nat} (h : x < 16 ^ 16) : rdX (hxN 16 x) = (x : Int) ∧ rdB (hxN 16 x) = true := rd_some (pu_hx (Nat.le_refl 16) h) rfl
theorem hval_64 {s : List UInt8} (ok : hOK s) : hval s < 18446744073709551616 := by
  have := hval_lt 16 s ok.1 ok.2
  have e : 16 ^ 16 = 18446744073709551616 := by decide
  omega
end Go.Proofs.YtblloaajiaoblaaDoor
namespace Go.Proofs.YtblloaajiaoblaaDoor
open Go Go.RowKit
def fbS (b : BitVec 64) (v : Int) : BitVec 64 := (b ^^^ BitVec.ofInt 64 v) * 1099511628211#64
def fb0 : BitVec 64 := 14695981039346656037#64
def fbL (b : BitVec 64) (l : List Int) : BitVec 64 := l.foldl fbS b
theorem fbL_app (b : BitVec 64) (l m : List Int) : fbL b (l ++ m) = fbL (fbL b l) m := by simp [fbL, List.foldl_append]
theorem fbL_snoc (b : BitVec 64) (l : List Int) (v : Int) : fbL b (l ++ [v]) = fbS (fbL b l) v := by rw [fbL_app]; rfl
theorem bv_of (b : BitVec 64) : BitVec.ofInt 64 ((b.toNat : Nat) : Int) = b := by
  apply BitVec.eq_of_toNat_eq
  rw [BitVec.toNat_ofInt]
  have := b.isLt
  have e : ((b.toNat : Nat) : Int) % ((2 ^ 64 : Nat) : Int) = ((b.toNat : Nat) : Int) := Int.emod_eq_of_lt (by omega) (by omega)
  rw [e, Int.toNat_natCast]
theorem w64_bv (b : BitVec 64) : IntKind.u64.wrap ((b.toNat : Nat) : Int) = ((b.toNat : Nat) : Int) := by
  have := b.isLt
  exact wrap_rng ⟨by show (0 : Int) ≤ _; omega, by show _ ≤ (18446744073709551615 : Int); omega⟩
theorem w64_mul (a b : BitVec 64) : IntKind.u64.wrap (((a.toNat : Nat) : Int) * ((b.toNat : Nat) : Int)) = (((a * b).toNat : Nat) : Int) := by
  rw [BitVec.toNat_mul, ← Int.natCast_mul]
  have e : ∀ x : Nat, IntKind.u64.wrap (x : Int) = ((x % 2 ^ 64 : Nat) : Int) := fun x => by
    show (x : Int) % (2 ^ 64 : Int) = ((x % 2 ^ 64 : Nat) : Int)
    omega
  exact e _
theorem fb_step (b : BitVec 64) (v : Int) : IntKind.u64.wrap (IntKind.u64.wrap (((BitVec.ofInt 64 ((b.toNat : Nat) : Int) ^^^ BitVec.ofInt 64 v).toNat : Nat) : Int) * 1099511628211) = (((fbS b v).toNat : Nat) : Int) := by
  rw [bv_of, w64_bv]
  exact w64_mul (b ^^^ BitVec.ofInt 64 v) 1099511628211#64
theorem xor_self (a b : BitVec 64) : a ^^^ b ^^^ b = a := by rw [BitVec.xor_assoc, BitVec.xor_self, BitVec.xor_zero]
structure U64 (x : Int) : Prop where
  lo : 0 ≤ x
  hi : x < 18446744073709551616
theorem U64.bv {x : Int} (h : U64 x) : ∃ b : BitVec 64, x = ((b.toNat : Nat) : Int) ∧ BitVec.ofInt 64 x = b := by
  obtain ⟨h0, h1⟩ := h
  obtain ⟨n, rfl⟩ := Int.eq_ofNat_of_zero_le h0
  have hn : n < 2 ^ 64 := by omega
  refine ⟨BitVec.ofNat 64 n, ?_, ?_⟩
  · rw [BitVec.toNat_ofNat, Nat.mod_eq_of_lt hn]
  · have := bv_of (BitVec.ofNat 64 n)
    rw [BitVec.toNat_ofNat, Nat.mod_eq_of_lt hn] at this
    exact this
theorem U64_bv (b : BitVec 64) : U64 ((b.toNat : Nat) : Int) := by
  have := b.isLt
  exact ⟨by omega, by omega⟩
def hxV (x : Int) (b : List Int) : Int := (((fbL (BitVec.ofInt 64 x ^^^ fb0) b ^^^ fb0).toNat : Nat) : Int)
def dgV (b : List Int) : Int := (((fbL fb0 b).toNat : Nat) : Int)
theorem xor_b0 (b : BitVec 64) : IntKind.u64.wrap (((BitVec.ofInt 64 ((b.toNat : Nat) : Int) ^^^ BitVec.ofInt 64 14695981039346656037).toNat : Nat) : Int) = (((b ^^^ fb0).toNat : Nat) : Int) := by
  rw [bv_of, w64_bv]; rfl
end Go.Proofs.YtblloaajiaoblaaDoor
namespace Go.Proofs.YtblloaajiaoblaaDoor
structure R4 where
  x0 : Int
  y0 : Int
  x1 : Int
  y1 : Int
def R4.zero : R4 := ⟨0, 0, 0, 0⟩
@[simp] theorem zero_x0 : R4.zero.x0 = 0 := rfl
@[simp] theorem zero_y0 : R4.zero.y0 = 0 := rfl
@[simp] theorem zero_x1 : R4.zero.x1 = 0 := rfl
@[simp] theorem zero_y1 : R4.zero.y1 = 0 := rfl
def inB (x : Int) : Bool := decide (-2147483648 ≤ x) && decide (x ≤ 2147483648)
def R4.right (r : R4) : Bool := inB r.x0 && inB r.y0 && inB r.x1 && inB r.y1
def R4.empty (r : R4) : Bool := !r.right || decide (r.x1 ≤ r.x0) || decide (r.y1 ≤ r.y0)
def beq8 (a0 a1 a2 a3 b0 b1 b2 b3 : Int) : Bool := a0 == b0 && a1 == b1 && a2 == b2 && a3 == b3
def R4.beq (a b : R4) : Bool := beq8 a.x0 a.y0 a.x1 a.y1 b.x0 b.y0 b.x1 b.y1
end Go.Proofs.YtblloaajiaoblaaDoor
namespace Go.Proofs.YtblloaajiaoblaaDoor
open Go Go.RowKit
def sN (v : AV) : PSpec := fun l => match l with | [] => some ([], v) | _ => none
theorem sN_inv {w : AV} {l : List AV} {obs : List Prop} {v : AV} (h : sN w l = some (obs, v)) : l = [] ∧ v = w := by
  unfold sN at h
  split at h
  · simp only [Option.some.injEq, Prod.mk.injEq] at h; exact ⟨rfl, h.2.symm⟩
  · cases h
end Go.Proofs.YtblloaajiaoblaaDoor
namespace Go.Proofs.YtblloaajiaoblaaDoor
open Go Go.RowKit
theorem byte64 {b : List Int} (h : Bytes b) (i : Nat) : IntKind.u64.wrap (b.getD i 0) = b.getD i 0 := by
  have := h.get i
  exact wrap_rng ⟨by show (0 : Int) ≤ _; omega, by show _ ≤ (18446744073709551615 : Int); omega⟩
theorem fb_take {b : List Int} {i : Nat} (X : BitVec 64) (h : i < b.length) : fbL X (b.take (i + 1)) = fbS (fbL X (b.take i)) (b.getD i 0) := by
  have : b.take (i + 1) = b.take i ++ [b.getD i 0] := by
    rw [List.take_add_one, List.getElem?_eq_getElem h]; simp [List.getD, h]
  rw [this, fbL_snoc]
def putSF : FSpec := fun l es => match l, es with
  | [.ptr 0 0, .roi .u8 b], [.cells 31 [.int .u64 x, .int .i64 n]] => some ([U64 x, Bytes b, 0 ≤ n, n ≤ 1152921504606846976, b.length ≤ 140737488355328], .tup [], [some (.cells 31 [.int .u64 (hxV x b), .int .i64 (n + (b.length : Int))])])
  | _, _ => none
theorem putS_g : GSOK Tryd.prog 27 (fG putSF) := by
  refine fok (S := []) (G := noG) pok_nil noG_ok ⟨Tryd.func27, by kernel_rfl, by kernel_rfl, by kernel_rfl⟩ fun l es obs v es' h ho => ?_
  (unfold putSF at h; split at h; rotate_left; (focus (cases h)); rename_i b x n; simp only [Option.some.injEq, Prod.mk.injEq] at h; obtain ⟨rfl, rfl, rfl⟩ := h; simp only [List.mem_cons, List.not_mem_nil, or_false, forall_eq_or_imp, forall_eq, false_implies, implies_true] at ho)
  obtain ⟨hx, hB, n0, n1, bl⟩ := ho
  obtain ⟨X, rfl, hX⟩ := hx.bv
  refine ⟨Nat.le_of_ble_eq_true rfl, ?_⟩
  have eV : hxV ((X.toNat : Nat) : Int) b = (((fbL (X ^^^ fb0) b ^^^ fb0).toNat : Nat) : Int) := by unfold hxV; rw [hX]
  rw [eV]
  have e0 := xor_b0 X
  have rn : rngI .i64 (n + (b.length : Int)) := rng64 (by omega) (by omega)
  (repeat' (first | (refine xI (fun hfk => ?_) (fun hfk => ?_) <;> ((try (first | replace hfk := oT hfk | replace hfk := oF hfk | simp only [oD, ne_eq, reduceCtorEq] at hfk)); (try exact oX))) | (refine And.intro ?ob ?_; (case ob => (exact oZ))) | exact True.intro | (show _ = _; first | exact oY | exact rfl) | exact oW | (apply And.intro)))
  refine ⟨Nat, fun i => [(0, .ptr 0 0), (1, .roi .u8 b), (4, .int .u64 (((fbL (X ^^^ fb0) (b.take i)).toNat : Nat) : Int)), (12, .roi .u8 b), (13, .int .i64 (b.length : Int)), (14, .int .i64 (i : Int))],
    fun i => ⟨1, [(0, some (.cells 31 [.int .u64 ((X.toNat : Nat) : Int), .int .i64 n]))]⟩,
    fun i => i ≤ b.length, fun i => b.length - i, ⟨0, [some 0], Nat.zero_le _, ?_⟩, fun i hi => ?_⟩
  · (repeat' (first | (refine And.intro ?_ ?_) | exact True.intro | (show _ = _; with_reducible rfl) | exact Chk.mk (by kernel_rfl)))
    all_goals first | exact e0 | rfl
  have hi : i ≤ b.length := hi
  dsimp only
  by_cases hlt : i < b.length
  · have e1 := fb_step (fbL (X ^^^ fb0) (b.take i)) (b.getD i 0)
    rw [← fb_take _ hlt] at e1
    have e2 := byte64 hB i
    have e2' : IntKind.u64.wrap (b.getD (i : Int).toNat 0) = b.getD i 0 := e2
    have ri : rngI .i64 ((i : Int) + 1) := rng64 (by omega) (by omega)
    (repeat' (first | (refine xI (fun hfk => ?_) (fun hfk => ?_) <;> ((try (first | replace hfk := oT hfk | replace hfk := oF hfk | simp only [oD, ne_eq, reduceCtorEq] at hfk)); (try exact oX))) | (refine And.intro ?ob ?_; (case ob => (exact oZ))) | exact True.intro | (show _ = _; first | exact oY | exact rfl) | exact oW | (apply And.intro)))
    refine ⟨i + 1, [some 0], hlt, ?mu, ?_⟩
    case mu => (show b.length - (i + 1) < b.length - i; omega)
    (repeat' (first | (refine And.intro ?_ ?_) | exact True.intro | (show _ = _; with_reducible rfl) | exact Chk.mk (by kernel_rfl)))
    all_goals first | rfl | (rw [e2']; exact e1) | (show (_ : Int) = _; omega)
  · obtain rfl : i = b.length := by omega
    rw [List.take_length]
    have e3 := xor_b0 (fbL (X ^^^ fb0) b)
    (repeat' (first | (refine xI (fun hfk => ?_) (fun hfk => ?_) <;> ((try (first | replace hfk := oT hfk | replace hfk := oF hfk | simp only [oD, ne_eq, reduceCtorEq] at hfk)); (try exact oX))) | (refine And.intro ?ob ?_; (case ob => (exact oZ))) | exact True.intro | (show _ = _; first | exact oY | exact rfl) | exact oW | (apply And.intro)))
    refine ⟨[some 0], ?_⟩
    (repeat' (first | (refine xI (fun hfk => ?_) (fun hfk => ?_) <;> ((try (first | replace hfk := oT hfk | replace hfk := oF hfk | simp only [oD, ne_eq, reduceCtorEq] at hfk)); (try exact oX))) | (refine And.intro ?ob ?_; (case ob => (exact oZ))) | exact True.intro | (show _ = _; first | exact oY | (first | exact e3 | rfl; done) | exact rfl) | exact oW | (apply And.intro)))
abbrev pNw : FSpec := fun l es => match l, es with
  | [], [] => some ([], .ptr 0 0, [some (.cells 31 [.int .u64 0, .int .i64 0])])
  | _, _ => none
theorem newH_g : GSOK Tryd.prog 9 (fG pNw) := by
  refine fok (S := []) (G := noG) pok_nil noG_ok ⟨Tryd.func9, by kernel_rfl, by kernel_rfl, by kernel_rfl⟩ fun l es obs v es' h ho => ?_
  unfold pNw at h
  split at h
  · simp only [Option.some.injEq, Prod.mk.injEq] at h
    obtain ⟨rfl, rfl, rfl⟩ := h
    refine ⟨Nat.le_of_ble_eq_true rfl, ?_⟩
    (repeat' (first | (refine xI (fun hfk => ?_) (fun hfk => ?_) <;> ((try (first | replace hfk := oT hfk | replace hfk := oF hfk | simp only [oD, ne_eq, reduceCtorEq] at hfk)); (try exact oX))) | (refine And.intro ?ob ?_; (case ob => (exact oZ))) | exact True.intro | (show _ = _; first | exact oY | exact rfl) | exact oW | (apply And.intro)))
    refine ⟨[some 0], ?_⟩
    (repeat' (first | (refine xI (fun hfk => ?_) (fun hfk => ?_) <;> ((try (first | replace hfk := oT hfk | replace hfk := oF hfk | simp only [oD, ne_eq, reduceCtorEq] at hfk)); (try exact oX))) | (refine And.intro ?ob ?_; (case ob => (exact oZ))) | exact True.intro | (show _ = _; first | exact oY | exact rfl) | exact oW | (apply And.intro)))
  · cases h
theorem writeH_g : GSOK Tryd.prog 10 (fG putSF) := by
  refine fok (S := []) (G := glook [(27, fG putSF)]) pok_nil (gl_cons putS_g gl_nil) ⟨Tryd.func10, by kernel_rfl, by kernel_rfl, by kernel_rfl⟩ fun l es obs v es' h ho => ?_
  (unfold putSF at h; split at h; rotate_left; (focus (cases h)); rename_i b x n; simp only [Option.some.injEq, Prod.mk.injEq] at h; obtain ⟨rfl, rfl, rfl⟩ := h; simp only [List.mem_cons, List.not_mem_nil, or_false, forall_eq_or_imp, forall_eq, false_implies, implies_true] at ho)
  obtain ⟨hx, hB, n0, n1, bl⟩ := ho
  refine ⟨Nat.le_of_ble_eq_true rfl, ?_⟩
  (repeat' (first | (refine xI (fun hfk => ?_) (fun hfk => ?_) <;> ((try (first | replace hfk := oT hfk | replace hfk := oF hfk | simp only [oD, ne_eq, reduceCtorEq] at hfk)); (try exact oX))) | (refine And.intro ?ob ?_; (case ob => (exact oZ))) | exact True.intro | (show _ = _; first | exact oY | exact rfl) | exact oW | (apply And.intro)))
  (refine ⟨[0], ⟨by kernel_rfl⟩, ?_⟩)
  (repeat' (first | (refine xI (fun hfk => ?_) (fun hfk => ?_) <;> ((try (first | replace hfk := oT hfk | replace hfk := oF hfk | simp only [oD, ne_eq, reduceCtorEq] at hfk)); (try exact oX))) | (refine And.intro ?ob ?_; (case ob => (exact oZ))) | exact True.intro | (show _ = _; first | exact oY | (first | exact hx | exact hB; done) | exact rfl) | exact oW | (apply And.intro)))
  refine ⟨[some 0], ?_⟩
  (repeat' (first | (refine xI (fun hfk => ?_) (fun hfk => ?_) <;> ((try (first | replace hfk := oT hfk | replace hfk := oF hfk | simp only [oD, ne_eq, reduceCtorEq] at hfk)); (try exact oX))) | (refine And.intro ?ob ?_; (case ob => (exact oZ))) | exact True.intro | (show _ = _; first | exact oY | exact rfl) | exact oW | (apply And.intro)))
abbrev sumHS : PSpec := fun l => match l with
  | [.rop (.agg [.int .u64 x, .int .i64 n])] => some ([U64 x], .int .u64 ((((BitVec.ofInt 64 x) ^^^ fb0).toNat : Nat) : Int))
  | [.nilp] => some ([], .int .u64 14695981039346656037)
  | _ => none
theorem sumH_s : SOK Tryd.prog 11 sumHS := by
  refine sok_of (C := mkC 0 [] noG) (mkC_ok pok_nil noG_ok) rfl mixed ⟨Tryd.func11, by kernel_rfl, by kernel_rfl, by kernel_rfl⟩ fun l obs v h ho => ?_
  unfold sumHS at h
  split at h
  · rename_i x n
    simp only [Option.some.injEq, Prod.mk.injEq] at h
    obtain ⟨rfl, rfl⟩ := h
    simp only [List.mem_cons, List.not_mem_nil, or_false, forall_eq_or_imp, forall_eq] at ho
    obtain ⟨X, rfl, hX⟩ := ho.bv
    refine ⟨Nat.le_of_ble_eq_true rfl, ?_⟩
    rw [hX]
    have e3 := xor_b0 X
    (repeat' (first | (refine xI (fun hfk => ?_) (fun hfk => ?_) <;> ((try (first | replace hfk := oT hfk | replace hfk := oF hfk | simp only [oD, ne_eq, reduceCtorEq] at hfk)); (try exact oX))) | (refine And.intro ?ob ?_; (case ob => (exact oZ))) | exact True.intro | (show _ = _; first | exact oY | (first | exact e3 | exact e3.symm | rfl; done) | exact rfl) | exact oW | (apply And.intro)))
  · simp only [Option.some.injEq, Prod.mk.injEq] at h
    obtain ⟨rfl, rfl⟩ := h
    refine ⟨Nat.le_of_ble_eq_true rfl, ?_⟩
    (repeat' (first | (refine xI (fun hfk => ?_) (fun hfk => ?_) <;> ((try (first | replace hfk := oT hfk | replace hfk := oF hfk | simp only [oD, ne_eq, reduceCtorEq] at hfk)); (try exact oX))) | (refine And.intro ?ob ?_; (case ob => (exact oZ))) | exact True.intro | (show _ = _; first | exact oY | exact rfl) | exact oW | (apply And.intro)))
  · cases h
abbrev bytesHS : PSpec := fun l => match l with | [.roi .u8 b] => some ([Bytes b, b.length ≤ 140737488355328], .int .u64 (dgV b)) | _ => none
theorem hx0 (b : List Int) : ((((BitVec.ofInt 64 (hxV 0 b)) ^^^ fb0).toNat : Nat) : Int) = dgV b := by
  unfold hxV dgV
  rw [bv_of, xor_self]
  rfl
theorem bytesH_s : SOK Tryd.prog 7 bytesHS := by
  refine sok_of (C := mkC 0 [(11, sumHS)] (glook [(9, fG pNw), (10, fG putSF)])) (mkC_ok (pok_cons sumH_s pok_nil) (gl_cons newH_g (gl_cons writeH_g gl_nil))) rfl mixed ⟨Tryd.func7, by kernel_rfl, by kernel_rfl, by kernel_rfl⟩ fun l obs v h ho => ?_
  (unfold bytesHS at h; split at h; rotate_left; (focus (cases h)); rename_i b; simp only [Option.some.injEq, Prod.mk.injEq] at h; obtain ⟨rfl, rfl⟩ := h; simp only [List.mem_cons, List.not_mem_nil, or_false, forall_eq_or_imp, forall_eq, false_implies, implies_true] at ho)
  obtain ⟨hB, bl⟩ := ho
  refine ⟨Nat.le_of_ble_eq_true rfl, ?_⟩
  have u0 : U64 0 := ⟨by decide, by decide⟩
  have uv : U64 (hxV 0 b) := U64_bv _
  have e := hx0 b
  (repeat' (first | (refine xI (fun hfk => ?_) (fun hfk => ?_) <;> ((try (first | replace hfk := oT hfk | replace hfk := oF hfk | simp only [oD, ne_eq, reduceCtorEq] at hfk)); (try exact oX))) | (refine And.intro ?ob ?_; (case ob => (exact oZ))) | exact True.intro | (show _ = _; first | exact oY | exact rfl) | exact oW | (apply And.intro)))
  (refine ⟨[], ⟨by kernel_rfl⟩, ?_⟩)
  (repeat' (first | (refine xI (fun hfk => ?_) (fun hfk => ?_) <;> ((try (first | replace hfk := oT hfk | replace hfk := oF hfk | simp only [oD, ne_eq, reduceCtorEq] at hfk)); (try exact oX))) | (refine And.intro ?ob ?_; (case ob => (exact oZ))) | exact True.intro | (show _ = _; first | exact oY | exact rfl) | exact oW | (apply And.intro)))
  (refine ⟨[0], ⟨by kernel_rfl⟩, ?_⟩)
  (repeat' (first | (refine xI (fun hfk => ?_) (fun hfk => ?_) <;> ((try (first | replace hfk := oT hfk | replace hfk := oF hfk | simp only [oD, ne_eq, reduceCtorEq] at hfk)); (try exact oX))) | (refine And.intro ?ob ?_; (case ob => (exact oZ))) | exact True.intro | (show _ = _; first | exact oY | (first | exact u0 | exact hB | exact uv | exact e; done) | exact rfl) | exact oW | (apply And.intro)))
theorem rbytes12_s : SOK Tryd.prog 12 bytesHS := by
  refine sok_of (C := mkC 0 [] noG) (mkC_ok pok_nil noG_ok) rfl mixed ⟨Tryd.func12, by kernel_rfl, by kernel_rfl, by kernel_rfl⟩ fun l obs v h ho => ?_
  (unfold bytesHS at h; split at h; rotate_left; (focus (cases h)); rename_i b; simp only [Option.some.injEq, Prod.mk.injEq] at h; obtain ⟨rfl, rfl⟩ := h; simp only [List.mem_cons, List.not_mem_nil, or_false, forall_eq_or_imp, forall_eq, false_implies, implies_true] at ho)
  obtain ⟨hB, bl⟩ := ho
  refine ⟨Nat.le_of_ble_eq_true rfl, ?_⟩
  (repeat' (first | (refine xI (fun hfk => ?_) (fun hfk => ?_) <;> ((try (first | replace hfk := oT hfk | replace hfk := oF hfk | simp only [oD, ne_eq, reduceCtorEq] at hfk)); (try exact oX))) | (refine And.intro ?ob ?_; (case ob => (exact oZ))) | exact True.intro | (show _ = _; first | exact oY | exact rfl) | exact oW | (apply And.intro)))
  refine ⟨Nat, fun i => [(0, .roi .u8 b), (2, .int .u64 0), (3, .int .u64 (((fbL fb0 (b.take i)).toNat : Nat) : Int)), (4, .int .i64 (i : Int))],
    fun i => ⟨0, []⟩,
    fun i => i ≤ b.length, fun i => b.length - i, ⟨0, [], Nat.zero_le _, ?_⟩, fun i hi => ?_⟩
  · (repeat' (first | (refine And.intro ?_ ?_) | exact True.intro | (show _ = _; with_reducible rfl) | exact Chk.mk (by kernel_rfl)))
    all_goals rfl
  have hi : i ≤ b.length := hi
  dsimp only
  by_cases hlt : i < b.length
  · have e1 := fb_step (fbL fb0 (b.take i)) (b.getD i 0)
    rw [← fb_take _ hlt] at e1
    have e2 := byte64 hB i
    have e2' : IntKind.u64.wrap (b.getD (i : Int).toNat 0) = b.getD i 0 := e2
    have ri : rngI .i64 ((i : Int) + 1) := rng64 (by omega) (by omega)
    (repeat' (first | (refine xI (fun hfk => ?_) (fun hfk => ?_) <;> ((try (first | replace hfk := oT hfk | replace hfk := oF hfk | simp only [oD, ne_eq, reduceCtorEq] at hfk)); (try exact oX))) | (refine And.intro ?ob ?_; (case ob => (exact oZ))) | exact True.intro | (show _ = _; first | exact oY | exact rfl) | exact oW | (apply And.intro)))
    refine ⟨i + 1, [], hlt, ?mu, ?_⟩
    case mu => (show b.length - (i + 1) < b.length - i; omega)
    (repeat' (first | (refine And.intro ?_ ?_) | exact True.intro | (show _ = _; with_reducible rfl) | exact Chk.mk (by kernel_rfl)))
    all_goals first | rfl | (rw [e2']; exact e1) | (show (_ : Int) = _; omega)
  · obtain rfl : i = b.length := by omega
    rw [List.take_length]
    (repeat' (first | (refine xI (fun hfk => ?_) (fun hfk => ?_) <;> ((try (first | replace hfk := oT hfk | replace hfk := oF hfk | simp only [oD, ne_eq, reduceCtorEq] at hfk)); (try exact oX))) | (refine And.intro ?ob ?_; (case ob => (exact oZ))) | exact True.intro | (show _ = _; first | exact oY | exact rfl) | exact oW | (apply And.intro)))
end Go.Proofs.YtblloaajiaoblaaDoor
namespace Go.Proofs.YtblloaajiaoblaaDoor
open Go Go.RowKit
def dstr (T : TypeId → Option TI) (o : Op) (e : Env) (H : AH) : DR := match o with
  | .convert s d x => (match tdq T s, tdq T d, evA e x with
    | .slice es, .str, some v => (match tdq T es, intsOfA H .u8 v with
      | .int .u8, some (obs, l) => some (obs, .str (l.map fun n => UInt8.ofNat n.toNat), [], H.nx)
      | _, _ => none)
    | .str, .slice el, some (.str z) => (match tdq T el with
      | .int .u8 => some ([z.length ≤ 140737488355328], .sl H.nx 1 0 z.length, [(H.nx, some (.ints el .u8 (z.map fun c => (c.toNat : Int))))], H.nx + 1)
      | _ => none)
    | _, _, _ => none)
  | _ => none
def dX5 (T : TypeId → Option TI) (o : Op) (e : Env) (H : AH) : DR := match dstr T o e H with | some r => some r | none => dX4 T o e H
theorem dstr_congr {T : TypeId → Option TI} {o : Op} {e e' : Env} {H : AH} (h : ∀ x ∈ o.operands.toList, evA e x = evA e' x) : dstr T o e H = dstr T o e' H := by
  unfold dstr
  split
  · rename_i s d x
    rw [h x (by simp [Op.operands])]
  · rfl
theorem copyok5 {C : Ctx} (hC : C.X = xop4 C.T) (hD : C.DX = dX5 C.T) : CopyOK C := by
  have c4 := copyok4 (C := { C with X := xop4 C.T, DX := dX4 C.T }) rfl rfl
  refine ⟨fun o e e' H h => by
    have := c4.congr o e e' H h
    rw [hD]; unfold dX5; rw [dstr_congr h]
    show _ = (match dstr C.T o e' H with | some r => some r | none => dX4 C.T o e' H)
    rw [show dX4 C.T o e H = dX4 C.T o e' H from this], ?_⟩
  intro o e H obs v δ nx K h ho hK
  rw [hC]
  rw [hD] at h
  unfold dX5 at h
  split at h
  · rename_i r hr
    cases h
    unfold dstr at hr
    split at hr
    · rename_i s d x
      split at hr
      · rename_i es u hs hd hx
        split at hr
        · rename_i obs' l he hi
          cases hr
          have hb : rowB C.T (.convert s d x) e H = false := by
            unfold rowB
            simp only [hs, hd, hx]
          show xop4 C.T _ e H K
          unfold xop4
          rw [hb]
          show xop2 C.T _ e H K
          unfold xop2
          simp only [xsB2]
          unfold xop
          simp only [hx]
          unfold aconvX
          simp only [hs, hd, he, hi]
          exact obl_intro ho hK
        · cases hr
      · rename_i el z hs hd hx
        split at hr
        · rename_i he
          cases hr
          have hb : rowB C.T (.convert s d x) e H = true := by
            unfold rowB
            simp only [hs, hd, hx]
          show xop4 C.T _ e H K
          unfold xop4
          rw [hb]
          show rowX C.T _ e H K
          unfold rowX
          simp only [hx]
          unfold convS
          simp only [hs, hd, he]
          exact ⟨ho _ (by simp), hK⟩
        · cases hr
      · cases hr
    · cases hr
  · exact c4.out o e H obs v δ nx K h ho hK
noncomputable def mkT (p : Nat) (S : List (FuncId × PSpec)) (G : FuncId → Option GSpec) (D0 D : List (FuncId × FSpec)) (cuts : List Nat) : Ctx := ⟨p, tlook tt, slook S, dG (D0 ++ D) G, xsE (tlook tt), xop4 (tlook tt), fun i => cuts.any (Nat.beq i), dXD (D0 ++ D), dXN0 D0 D, dX5 (tlook tt)⟩
theorem mkT_ok {p : Nat} {S : List (FuncId × PSpec)} {G : FuncId → Option GSpec} {D0 D : List (FuncId × FSpec)} {cuts : List Nat} (hS : POK Tryd.prog (slook S)) (hG : ∀ g s, G g = some s → GSOK Tryd.prog g s) (hD : ∀ g FS, dlook (D0 ++ D) g = some FS → GSOK Tryd.prog g (fG FS)) : COK Tryd.prog (mkT p S G D0 D cuts) :=
  ⟨ttok, hS, gok_of ttok (xok4 ttok rfl) (fun g s h => by
    simp only [mkT, dG] at h
    split at h
    · rename_i FS hd
      cases h
      exact hD g FS hd
    · exact hG g s h), dok_of (D0 ++ D), copyok5 rfl rfl⟩
end Go.Proofs.YtblloaajiaoblaaDoor
namespace Go.Proofs.YtblloaajiaoblaaDoor
open Go Go.RowKit
def fourL (n : Int) : List Int := [n % 256, n / 256 % 256, n / 65536 % 256, n / 16777216 % 256]
theorem four_b (n : Int) : Bytes (fourL n) := fun x hx => by
  unfold fourL at hx
  simp only [List.mem_cons, List.not_mem_nil, or_false] at hx
  omega
theorem U64_hxg (x : Int) (b : List Int) : U64 (hxV x b) := U64_bv _
theorem hx_appg (a b : List Int) : hxV (hxV 0 a) b = hxV 0 (a ++ b) := by
  unfold hxV
  rw [bv_of, xor_self, fbL_app]
theorem w8m (x : Int) : IntKind.u8.wrap x = x % 256 := by
  show (let m := x % (2 ^ 8 : Int); if (false && decide (m ≥ (2 ^ (8 - 1) : Int))) = true then m - (2 ^ 8 : Int) else m) = x % 256
  simp
theorem imB {w h c : Int} {p : List Int} (hp : Bytes p) : Bytes (fourL w ++ fourL h ++ fourL c ++ p) := by
  intro x hx
  rcases List.mem_append.1 hx with hx | hx
  · rcases List.mem_append.1 hx with hx | hx
    · rcases List.mem_append.1 hx with hx | hx
      · exact four_b w x hx
      · exact four_b h x hx
    · exact four_b c x hx
  · exact hp x hx
def szL (w h c : Int) (i : Nat) : List Int := ((([w, h, c].take i).map fourL).flatten)
theorem sz_next (w h c : Int) {i : Nat} (hi : i < 3) : szL w h c (i + 1) = szL w h c i ++ fourL ([w, h, c].getD i 0) := by
  have : i = 0 ∨ i = 1 ∨ i = 2 := by omega
  rcases this with rfl | rfl | rfl <;> simp [szL]
theorem sz_3 (w h c : Int) : szL w h c 3 = fourL w ++ fourL h ++ fourL c := by simp [szL]
theorem sz_len (w h c : Int) {i : Nat} (hi : i ≤ 3) : (szL w h c i).length = 4 * i := by
  have : i = 0 ∨ i = 1 ∨ i = 2 ∨ i = 3 := by omega
  rcases this with rfl | rfl | rfl | rfl <;> simp [szL, fourL]
theorem four_len (n : Int) : (fourL n).length = 4 := rfl
theorem hx_nil0 (w h c : Int) : (0 : Int) = hxV 0 (szL w h c 0) := by
  show (0 : Int) = hxV 0 []
  decide
theorem four_eq (n : Int) : [IntKind.u8.wrap n, IntKind.u8.wrap (n.fdiv (2 ^ min (Int.toNat 8) IntKind.i64.bits)), IntKind.u8.wrap (n.fdiv (2 ^ min (Int.toNat 16) IntKind.i64.bits)), IntKind.u8.wrap (n.fdiv (2 ^ min (Int.toNat 24) IntKind.i64.bits))] = fourL n := by
  rw [show (2 : Int) ^ min (Int.toNat 8) IntKind.i64.bits = 256 from rfl, show (2 : Int) ^ min (Int.toNat 16) IntKind.i64.bits = 65536 from rfl, show (2 : Int) ^ min (Int.toNat 24) IntKind.i64.bits = 16777216 from rfl,
    Int.fdiv_eq_ediv_of_nonneg _ (by decide), Int.fdiv_eq_ediv_of_nonneg _ (by decide), Int.fdiv_eq_ediv_of_nonneg _ (by decide), w8m, w8m, w8m, w8m]
  rfl
abbrev imageHS : PSpec := fun l => match l with | [.agg [.int .i64 w, .int .i64 h, .int .i64 c, .roi .u8 p]] => some ([Bytes p, p.length ≤ 100000000], .int .u64 (dgV (fourL w ++ fourL h ++ fourL c ++ p))) | _ => none
attribute [local irreducible] hxV fourL szL
theorem imageH_s : SOK Tryd.prog 17 imageHS := by
  refine sok_of (C := mkC 0 [(11, sumHS)] (glook [(9, fG pNw), (10, fGv putSF)])) (mkC_ok (pok_cons sumH_s pok_nil) (gl_cons newH_g (gl_cons (gview writeH_g) gl_nil))) rfl mixed ⟨Tryd.func17, by kernel_rfl, by kernel_rfl, by kernel_rfl⟩ fun l obs v h ho => ?_
  (unfold imageHS at h; split at h; rotate_left; (focus (cases h)); rename_i w hh c p; simp only [Option.some.injEq, Prod.mk.injEq] at h; obtain ⟨rfl, rfl⟩ := h; simp only [List.mem_cons, List.not_mem_nil, or_false, forall_eq_or_imp, forall_eq, false_implies, implies_true] at ho)
  obtain ⟨hB, bl⟩ := ho
  refine ⟨Nat.le_of_ble_eq_true rfl, ?_⟩
  (repeat' (first | (refine xI (fun hfk => ?_) (fun hfk => ?_) <;> ((try (first | replace hfk := oT hfk | replace hfk := oF hfk | simp only [oD, ne_eq, reduceCtorEq] at hfk)); (try exact oX))) | (refine And.intro ?ob ?_; (case ob => (exact oZ))) | exact True.intro | (show _ = _; first | exact oY | exact rfl) | exact oW | (apply And.intro)))
  (refine ⟨[], ⟨by kernel_rfl⟩, ?_⟩)
  (repeat' (first | (refine xI (fun hfk => ?_) (fun hfk => ?_) <;> ((try (first | replace hfk := oT hfk | replace hfk := oF hfk | simp only [oD, ne_eq, reduceCtorEq] at hfk)); (try exact oX))) | (refine And.intro ?ob ?_; (case ob => (exact oZ))) | exact True.intro | (show _ = _; first | exact oY | exact rfl) | exact oW | (apply And.intro)))
  refine ⟨Nat, fun i => [(1, .ptr 0 0), (2, .int .u64 0), (3, .ptr 1 0), (4, .fn 10 1 [.ptr 1 0]), (16, .agg [.int .i64 w, .int .i64 hh, .int .i64 c]), (17, .int .i64 (i : Int))],
    fun i => ⟨2, [(0, some (.cells 37 [.int .i64 w, .int .i64 hh, .int .i64 c, .roi .u8 p])), (1, some (.cells 31 [.int .u64 (hxV 0 (szL w hh c i)), .int .i64 ((szL w hh c i).length : Int)]))]⟩,
    fun i => i ≤ 3, fun i => 3 - i, ⟨0, [some 0, some 1], Nat.zero_le _, ?_⟩, fun i hi => ?_⟩
  · have e0 : (0 : Int) = hxV 0 (szL w hh c 0) := hx_nil0 w hh c
    have e1 : (0 : Int) = ((szL w hh c 0).length : Int) := by rw [sz_len w hh c (by omega)]; rfl
    (repeat' (first | (refine And.intro ?_ ?_) | exact True.intro | (show _ = _; with_reducible rfl) | exact Chk.mk (by kernel_rfl)))
    all_goals first | rfl | exact e0 | exact e1
  have hi : i ≤ 3 := hi
  dsimp only
  have uS := U64_hxg 0 (szL w hh c i)
  have lS := sz_len w hh c hi
  by_cases hlt : i < 3
  · have ri : rngI .i64 ((i : Int) + 1) := rng64 (by omega) (by omega)
    have f4 : [IntKind.u8.wrap ([w, hh, c].getD (i : Int).toNat 0), IntKind.u8.wrap (([w, hh, c].getD (i : Int).toNat 0).fdiv (2 ^ min (Int.toNat 8) IntKind.i64.bits)), IntKind.u8.wrap (([w, hh, c].getD (i : Int).toNat 0).fdiv (2 ^ min (Int.toNat 16) IntKind.i64.bits)), IntKind.u8.wrap (([w, hh, c].getD (i : Int).toNat 0).fdiv (2 ^ min (Int.toNat 24) IntKind.i64.bits))] = fourL ([w, hh, c].getD (i : Int).toNat 0) := four_eq ([w, hh, c].getD (i : Int).toNat 0)
    have sn := sz_next w hh c hlt
    have b4 := four_b ([w, hh, c].getD (i : Int).toNat 0)
    have l4 := four_len ([w, hh, c].getD (i : Int).toNat 0)
    have t4 : (List.take 4 (List.drop 0 [IntKind.u8.wrap ([w, hh, c].getD (i : Int).toNat 0), IntKind.u8.wrap (([w, hh, c].getD (i : Int).toNat 0).fdiv (2 ^ min (Int.toNat 8) IntKind.i64.bits)), IntKind.u8.wrap (([w, hh, c].getD (i : Int).toNat 0).fdiv (2 ^ min (Int.toNat 16) IntKind.i64.bits)), IntKind.u8.wrap (([w, hh, c].getD (i : Int).toNat 0).fdiv (2 ^ min (Int.toNat 24) IntKind.i64.bits))])) = fourL ([w, hh, c].getD (i : Int).toNat 0) := by rw [f4, List.drop_zero]; exact List.take_of_length_le (by rw [l4]; exact Nat.le_refl _)
    have bT : Bytes (List.take 4 (List.drop 0 [IntKind.u8.wrap ([w, hh, c].getD (i : Int).toNat 0), IntKind.u8.wrap (([w, hh, c].getD (i : Int).toNat 0).fdiv (2 ^ min (Int.toNat 8) IntKind.i64.bits)), IntKind.u8.wrap (([w, hh, c].getD (i : Int).toNat 0).fdiv (2 ^ min (Int.toNat 16) IntKind.i64.bits)), IntKind.u8.wrap (([w, hh, c].getD (i : Int).toNat 0).fdiv (2 ^ min (Int.toNat 24) IntKind.i64.bits))])) := by rw [t4]; exact b4
    have cT : hxV (hxV 0 (szL w hh c i)) (List.take 4 (List.drop 0 [IntKind.u8.wrap ([w, hh, c].getD (i : Int).toNat 0), IntKind.u8.wrap (([w, hh, c].getD (i : Int).toNat 0).fdiv (2 ^ min (Int.toNat 8) IntKind.i64.bits)), IntKind.u8.wrap (([w, hh, c].getD (i : Int).toNat 0).fdiv (2 ^ min (Int.toNat 16) IntKind.i64.bits)), IntKind.u8.wrap (([w, hh, c].getD (i : Int).toNat 0).fdiv (2 ^ min (Int.toNat 24) IntKind.i64.bits))])) = hxV 0 (szL w hh c (i + 1)) := by rw [t4, hx_appg, sn]; rfl
    have lT : (List.take 4 (List.drop 0 [IntKind.u8.wrap ([w, hh, c].getD (i : Int).toNat 0), IntKind.u8.wrap (([w, hh, c].getD (i : Int).toNat 0).fdiv (2 ^ min (Int.toNat 8) IntKind.i64.bits)), IntKind.u8.wrap (([w, hh, c].getD (i : Int).toNat 0).fdiv (2 ^ min (Int.toNat 16) IntKind.i64.bits)), IntKind.u8.wrap (([w, hh, c].getD (i : Int).toNat 0).fdiv (2 ^ min (Int.toNat 24) IntKind.i64.bits))])).length = 4 := by rw [t4]; exact l4
    have lN := sz_len w hh c (i := i + 1) (by omega)
    have lT2 : ((szL w hh c i).length : Int) + ((List.take 4 (List.drop 0 [IntKind.u8.wrap ([w, hh, c].getD (i : Int).toNat 0), IntKind.u8.wrap (([w, hh, c].getD (i : Int).toNat 0).fdiv (2 ^ min (Int.toNat 8) IntKind.i64.bits)), IntKind.u8.wrap (([w, hh, c].getD (i : Int).toNat 0).fdiv (2 ^ min (Int.toNat 16) IntKind.i64.bits)), IntKind.u8.wrap (([w, hh, c].getD (i : Int).toNat 0).fdiv (2 ^ min (Int.toNat 24) IntKind.i64.bits))])).length : Int) = ((szL w hh c (i + 1)).length : Int) := by rw [lT, lN, lS]; omega
    clear f4 t4 sn b4 l4
    (repeat' (first | (refine xI (fun hfk => ?_) (fun hfk => ?_) <;> ((try (first | replace hfk := oT hfk | replace hfk := oF hfk | simp only [oD, ne_eq, reduceCtorEq] at hfk)); (try exact oX))) | (refine And.intro ?ob ?_; (case ob => (exact oZ))) | exact True.intro | (show _ = _; first | exact oY | exact rfl) | exact oW | (apply And.intro)))
    (refine ⟨[1], [2], ⟨by kernel_rfl⟩, ?_⟩)
    (repeat' (first | (refine xI (fun hfk => ?_) (fun hfk => ?_) <;> ((try (first | replace hfk := oT hfk | replace hfk := oF hfk | simp only [oD, ne_eq, reduceCtorEq] at hfk)); (try exact oX))) | (refine And.intro ?ob ?_; (case ob => (exact oZ))) | exact True.intro | (show _ = _; first | exact oY | (first | exact uS | exact bT; done) | exact rfl) | exact oW | (apply And.intro)))
    refine ⟨i + 1, [some 0, some 1], hlt, ?mu, ?_⟩
    case mu => (show 3 - (i + 1) < 3 - i; omega)
    (repeat' (first | (refine And.intro ?_ ?_) | exact True.intro | (show _ = _; with_reducible rfl) | exact Chk.mk (by kernel_rfl)))
    all_goals first | rfl | exact cT | exact lT2 | (show (_ : Int) = _; omega)
  · obtain rfl : i = 3 := by omega
    rw [sz_3]
    have uP := U64_hxg (hxV 0 (fourL w ++ fourL hh ++ fourL c)) p
    have e := hx0 (fourL w ++ fourL hh ++ fourL c ++ p)
    rw [← hx_appg] at e
    rw [sz_3] at uS lS
    (repeat' (first | (refine xI (fun hfk => ?_) (fun hfk => ?_) <;> ((try (first | replace hfk := oT hfk | replace hfk := oF hfk | simp only [oD, ne_eq, reduceCtorEq] at hfk)); (try exact oX))) | (refine And.intro ?ob ?_; (case ob => (exact oZ))) | exact True.intro | (show _ = _; first | exact oY | exact rfl) | exact oW | (apply And.intro)))
    (refine ⟨[1], [], ⟨by kernel_rfl⟩, ?_⟩)
    (repeat' (first | (refine xI (fun hfk => ?_) (fun hfk => ?_) <;> ((try (first | replace hfk := oT hfk | replace hfk := oF hfk | simp only [oD, ne_eq, reduceCtorEq] at hfk)); (try exact oX))) | (refine And.intro ?ob ?_; (case ob => (exact oZ))) | exact True.intro | (show _ = _; first | exact oY | (first | exact uS | exact uP | exact hB | exact e | rfl; done) | exact rfl) | exact oW | (apply And.intro)))
def xq (n : Int) (i : Nat) : Int := n % 18446744073709551616 / 256 ^ i
theorem w64m (x : Int) : IntKind.u64.wrap x = x % 18446744073709551616 := by
  show (let m := x % (2 ^ 64 : Int); if (false && decide (m ≥ (2 ^ (64 - 1) : Int))) = true then m - (2 ^ 64 : Int) else m) = x % 18446744073709551616
  simp
theorem xq_0 (n : Int) : IntKind.u64.wrap n = xq n 0 := by rw [w64m]; unfold xq; simp
theorem xq_nn (n : Int) (i : Nat) : 0 ≤ xq n i := Int.ediv_nonneg (Int.emod_nonneg _ (by decide)) (Int.le_of_lt (Int.pow_pos (by decide)))
theorem xq_rng (n : Int) (i : Nat) : rngI .u64 (xq n i) := by
  have h0 := xq_nn n i
  have h1 : xq n i ≤ n % 18446744073709551616 := Int.ediv_le_self _ (Int.emod_nonneg _ (by decide))
  exact ⟨by show (0 : Int) ≤ _; omega, by show _ ≤ (18446744073709551615 : Int); omega⟩
theorem xq_next (n : Int) (i : Nat) : (xq n i).tdiv 256 = xq n (i + 1) := by
  rw [Int.tdiv_eq_ediv_of_nonneg (xq_nn n i)]
  unfold xq
  rw [Int.ediv_ediv_of_nonneg (Int.le_of_lt (Int.pow_pos (by decide))), Int.pow_succ]
theorem xq_dig (n : Int) {i : Nat} (h : i < 4) : IntKind.u8.wrap ((xq n i).tmod 256) = (fourL n).getD i 0 := by
  rw [Int.tmod_eq_emod_of_nonneg (xq_nn n i), w8m]
  unfold xq fourL
  have : i = 0 ∨ i = 1 ∨ i = 2 ∨ i = 3 := by omega
  rcases this with rfl | rfl | rfl | rfl
  · show n % 18446744073709551616 / 1 % 256 % 256 = n % 256; omega
  · show n % 18446744073709551616 / 256 % 256 % 256 = n / 256 % 256; omega
  · show n % 18446744073709551616 / 65536 % 256 % 256 = n / 65536 % 256; omega
  · show n % 18446744073709551616 / 16777216 % 256 % 256 = n / 16777216 % 256; omega
theorem four_take (n : Int) {i : Nat} (h : i < 4) : (fourL n).take i ++ [(fourL n).getD i 0] = (fourL n).take (i + 1) := by
  have h4 := four_len n
  rw [List.take_add_one, List.getElem?_eq_getElem (by omega)]; simp [List.getD, h4, h]
def fourF : FSpec := fun l es => match l, es with
  | [.int .i64 n], [] => some ([], .sl 0 1 0 4, [some (.ints 5 .u8 (fourL n))])
  | _, _ => none
attribute [local irreducible] xq
theorem four_g : GSOK Tryd.prog 31 (fG fourF) := by
  refine fok (S := []) (G := noG) pok_nil noG_ok ⟨Tryd.func31, by kernel_rfl, by kernel_rfl, by kernel_rfl⟩ fun l es obs v es' h ho => ?_
  unfold fourF at h
  split at h
  rotate_left
  · cases h
  rename_i n
  simp only [Option.some.injEq, Prod.mk.injEq] at h
  obtain ⟨rfl, rfl, rfl⟩ := h
  refine ⟨Nat.le_of_ble_eq_true rfl, ?_⟩
  have x0 := xq_0 n
  (repeat' (first | (refine xI (fun hfk => ?_) (fun hfk => ?_) <;> ((try (first | replace hfk := oT hfk | replace hfk := oF hfk | simp only [oD, ne_eq, reduceCtorEq] at hfk)); (try exact oX))) | (refine And.intro ?ob ?_; (case ob => (exact oZ))) | exact True.intro | (show _ = _; first | exact oY | exact rfl) | exact oW | (apply And.intro)))
  refine ⟨Nat, fun i => [(2, .nils), (3, .int .u64 (xq n i)), (4, .sl 0 1 0 i), (5, .int .i64 (i : Int))],
    fun i => ⟨1, [(0, some (.ints 5 .u8 ((fourL n).take i)))]⟩,
    fun i => i ≤ 4, fun i => 4 - i, ⟨0, [none], Nat.zero_le _, ?_⟩, fun i hi => ?_⟩
  · (repeat' (first | (refine And.intro ?_ ?_) | exact True.intro | (show _ = _; with_reducible rfl) | exact Chk.mk (by kernel_rfl)))
    all_goals first | rfl | exact x0
  have hi : i ≤ 4 := hi
  dsimp only
  have l4 := four_len n
  have lt : ((fourL n).take i).length = i := by rw [List.length_take, l4]; omega
  by_cases hlt : i < 4
  · have ri : rngI .i64 ((i : Int) + 1) := rng64 (by omega) (by omega)
    have xn := xq_next n i
    have xd := xq_dig n hlt
    have ft := four_take n hlt
    have x0 := xq_nn n i
    have xr : rngI .u64 ((xq n i).tdiv 256) := by
      rw [xn]; exact xq_rng n (i + 1)
    have qa : (fourL n).take i ++ List.take 1 (List.drop 0 [IntKind.u8.wrap ((xq n i).tmod 256)]) = (fourL n).take (i + 1) := by rw [xd, ← ft]; rfl
    have qa2 : (fourL n).take i ++ List.take 1 (List.drop 0 ((fun x => IntKind.u8.wrap ((xq n i).tmod 256) :: x) ([] : List Int))) = (fourL n).take (i + 1) := qa
    have xn2 : IntKind.u64.wrap ((xq n i).tdiv 256) = xq n (i + 1) := by rw [xn]; exact wrap_rng (xq_rng n (i + 1))
    have ll : (List.take i (fourL n)).length + (List.take 1 (List.drop 0 ((fun x => IntKind.u8.wrap ((xq n i).tmod 256) :: x) ([] : List Int)))).length = i + 1 := by rw [lt]; rfl
    clear xd ft
    (repeat' (first | (refine xI (fun hfk => ?_) (fun hfk => ?_) <;> ((try (first | replace hfk := oT hfk | replace hfk := oF hfk | simp only [oD, ne_eq, reduceCtorEq] at hfk)); (try exact oX))) | (refine And.intro ?ob ?_; (case ob => (exact oZ))) | exact True.intro | (show _ = _; first | exact oY | (exact xr; done) | exact rfl) | exact oW | (apply And.intro)))
    refine ⟨i + 1, [some 2], hlt, ?mu, ?_⟩
    case mu => (show 4 - (i + 1) < 4 - i; omega)
    (repeat' (first | (refine And.intro ?_ ?_) | exact True.intro | (show _ = _; with_reducible rfl) | exact Chk.mk (by kernel_rfl)))
    all_goals first | rfl | exact xn2 | exact qa2 | exact ll | (show (_ : Int) = _; omega)
  · obtain rfl : i = 4 := by omega
    have f4 : (fourL n).take 4 = fourL n := List.take_of_length_le (by rw [l4]; exact Nat.le_refl _)
    rw [f4]
    (repeat' (first | (refine xI (fun hfk => ?_) (fun hfk => ?_) <;> ((try (first | replace hfk := oT hfk | replace hfk := oF hfk | simp only [oD, ne_eq, reduceCtorEq] at hfk)); (try exact oX))) | (refine And.intro ?ob ?_; (case ob => (exact oZ))) | exact True.intro | (show _ = _; first | exact oY | exact rfl) | exact oW | (apply And.intro)))
    refine ⟨[some 0], ?_⟩
    (repeat' (first | (refine xI (fun hfk => ?_) (fun hfk => ?_) <;> ((try (first | replace hfk := oT hfk | replace hfk := oF hfk | simp only [oD, ne_eq, reduceCtorEq] at hfk)); (try exact oX))) | (refine And.intro ?ob ?_; (case ob => (exact oZ))) | exact True.intro | (show _ = _; first | exact oY | exact rfl) | exact oW | (apply And.intro)))
theorem rimage_s : SOK Tryd.prog 18 imageHS := by
  refine sok_of (C := mkT 0 [(12, bytesHS)] (glook [(31, fG fourF)]) [] [(31, fourF)] []) (mkT_ok (pok_cons rbytes12_s pok_nil) (gl_cons four_g gl_nil) (dl_cons four_g dl_nil)) rfl mixed ⟨Tryd.func18, by kernel_rfl, by kernel_rfl, by kernel_rfl⟩ fun l obs v h ho => ?_
  (unfold imageHS at h; split at h; rotate_left; (focus (cases h)); rename_i w hh c p; simp only [Option.some.injEq, Prod.mk.injEq] at h; obtain ⟨rfl, rfl⟩ := h; simp only [List.mem_cons, List.not_mem_nil, or_false, forall_eq_or_imp, forall_eq, false_implies, implies_true] at ho)
  obtain ⟨hB, bl⟩ := ho
  refine ⟨Nat.le_of_ble_eq_true rfl, ?_⟩
  have lw := four_len w
  have lh := four_len hh
  have lc := four_len c
  have bI := imB (w := w) (h := hh) (c := c) hB
  have t4 : ∀ n, List.take 4 (List.drop 0 (fourL n)) = fourL n := fun n => by rw [List.drop_zero]; exact List.take_of_length_le (by rw [four_len]; exact Nat.le_refl _)
  have eT : (List.take ((fourL w ++ List.take 4 (List.drop 0 (fourL hh)) ++ List.take 4 (List.drop 0 (fourL c))).length + p.length) (List.drop 0 ((fourL w ++ List.take 4 (List.drop 0 (fourL hh)) ++ List.take 4 (List.drop 0 (fourL c))) ++ p))) = fourL w ++ fourL hh ++ fourL c ++ p := by
    rw [t4, t4, List.drop_zero]
    exact List.take_of_length_le (by rw [List.length_append (bs := p)]; exact Nat.le_refl _)
  have bT : Bytes (List.take ((fourL w ++ List.take 4 (List.drop 0 (fourL hh)) ++ List.take 4 (List.drop 0 (fourL c))).length + p.length) (List.drop 0 ((fourL w ++ List.take 4 (List.drop 0 (fourL hh)) ++ List.take 4 (List.drop 0 (fourL c))) ++ p))) := by rw [eT]; exact bI
  have kT : dgV (List.take ((fourL w ++ List.take 4 (List.drop 0 (fourL hh)) ++ List.take 4 (List.drop 0 (fourL c))).length + p.length) (List.drop 0 ((fourL w ++ List.take 4 (List.drop 0 (fourL hh)) ++ List.take 4 (List.drop 0 (fourL c))) ++ p))) = dgV (fourL w ++ fourL hh ++ fourL c ++ p) := by rw [eT]
  have lT : (List.take ((fourL w ++ List.take 4 (List.drop 0 (fourL hh)) ++ List.take 4 (List.drop 0 (fourL c))).length + p.length) (List.drop 0 ((fourL w ++ List.take 4 (List.drop 0 (fourL hh)) ++ List.take 4 (List.drop 0 (fourL c))) ++ p))).length ≤ 140737488355328 := by
    rw [eT]
    rw [List.length_append, List.length_append, List.length_append, lw, lh, lc]
    omega
  clear t4 eT
  (repeat' (first | (refine xI (fun hfk => ?_) (fun hfk => ?_) <;> ((try (first | replace hfk := oT hfk | replace hfk := oF hfk | simp only [oD, ne_eq, reduceCtorEq] at hfk)); (try exact oX))) | (refine And.intro ?ob ?_; (case ob => (exact oZ))) | exact True.intro | (show _ = _; first | exact oY | exact rfl) | exact oW | (apply And.intro)))
  (refine ⟨[], ⟨by kernel_rfl⟩, ?_⟩)
  (repeat' (first | (refine xI (fun hfk => ?_) (fun hfk => ?_) <;> ((try (first | replace hfk := oT hfk | replace hfk := oF hfk | simp only [oD, ne_eq, reduceCtorEq] at hfk)); (try exact oX))) | (refine And.intro ?ob ?_; (case ob => (exact oZ))) | exact True.intro | (show _ = _; first | exact oY | (first | exact bT | exact lT | exact kT; done) | exact rfl) | exact oW | (apply And.intro)))
structure RxI (x i y : Nat) (t : List UInt8) : Prop where
  len : t.length = i
  eq : hxN (16 - i) y ++ t = hxN 16 x
theorem rx_next {x i y : Nat} {t : List UInt8} (h : RxI x i y t) (hi : i < 16) : RxI x (i + 1) (y / 16) (hxc (y % 16) :: t) := by
  obtain ⟨h1, h2⟩ := h
  obtain ⟨n, hn⟩ : ∃ n, 16 - i = n + 1 := ⟨15 - i, by omega⟩
  rw [hn] at h2
  refine ⟨by rw [List.length_cons, h1], ?_⟩
  rw [show 16 - (i + 1) = n by omega, ← h2, show hxN (n + 1) y = hxN n (y / 16) ++ [hxc (y % 16)] from rfl, List.append_assoc]; rfl
theorem rx_end {x y : Nat} {t : List UInt8} (h : RxI x 16 y t) : t = hxN 16 x := h.eq
theorem dig16 {d : Nat} (h : d < 16) : ((([48, 49, 50, 51, 52, 53, 54, 55, 56, 57, 97, 98, 99, 100, 101, 102] : List UInt8).take (d + 1)).drop d) = [hxc d] := by
  have : d = 0 ∨ d = 1 ∨ d = 2 ∨ d = 3 ∨ d = 4 ∨ d = 5 ∨ d = 6 ∨ d = 7 ∨ d = 8 ∨ d = 9 ∨ d = 10 ∨ d = 11 ∨ d = 12 ∨ d = 13 ∨ d = 14 ∨ d = 15 := by omega
  rcases this with rfl | rfl | rfl | rfl | rfl | rfl | rfl | rfl | rfl | rfl | rfl | rfl | rfl | rfl | rfl | rfl <;> rfl
abbrev rhexS : PSpec := fun l => match l with | [.int .u64 u] => some ([U64 u], .str (hxN 16 u.toNat)) | _ => none
attribute [local irreducible] hxN
theorem rhex_s : SOK Tryd.prog 19 rhexS := by
  refine sok_of (C := mkC 0 [] noG) (mkC_ok pok_nil noG_ok) rfl mixed ⟨Tryd.func19, by kernel_rfl, by kernel_rfl, by kernel_rfl⟩ fun l obs v h ho => ?_
  (unfold rhexS at h; split at h; rotate_left; (focus (cases h)); rename_i u; simp only [Option.some.injEq, Prod.mk.injEq] at h; obtain ⟨rfl, rfl⟩ := h; simp only [List.mem_cons, List.not_mem_nil, or_false, forall_eq_or_imp, forall_eq, false_implies, implies_true] at ho)
  obtain ⟨x, rfl⟩ := Int.eq_ofNat_of_zero_le ho.lo
  rw [Int.toNat_natCast]
  refine ⟨Nat.le_of_ble_eq_true rfl, ?_⟩
  (repeat' (first | (refine xI (fun hfk => ?_) (fun hfk => ?_) <;> ((try (first | replace hfk := oT hfk | replace hfk := oF hfk | simp only [oD, ne_eq, reduceCtorEq] at hfk)); (try exact oX))) | (refine And.intro ?ob ?_; (case ob => (exact oZ))) | exact True.intro | (show _ = _; first | exact oY | exact rfl) | exact oW | (apply And.intro)))
  refine ⟨Nat × Nat × List UInt8, fun g => [(2, .str []), (3, .str g.2.2), (4, .int .u64 (g.2.1 : Int)), (5, .int .i64 (g.1 : Int))],
    fun g => ⟨0, []⟩,
    fun g => g.1 ≤ 16 ∧ U64 (g.2.1 : Int) ∧ RxI x g.1 g.2.1 g.2.2, fun g => 16 - g.1, ⟨(0, x, []), [], ⟨Nat.zero_le _, ho, ⟨rfl, List.append_nil _⟩⟩, ?_⟩, fun g hg => ?_⟩
  · (repeat' (first | (refine And.intro ?_ ?_) | exact True.intro | (show _ = _; with_reducible rfl) | exact Chk.mk (by kernel_rfl)))
    all_goals rfl
  obtain ⟨i, y, t⟩ := g
  obtain ⟨g1, g2, g3⟩ := hg
  have g1 : i ≤ 16 := g1
  have g2 : U64 (y : Int) := g2
  have g3 : RxI x i y t := g3
  dsimp only
  by_cases hlt : i < 16
  · have ri : rngI .i64 ((i : Int) + 1) := rng64 (by omega) (by omega)
    have lt := g3.len
    have gn := rx_next g3 hlt
    have un : U64 ((y / 16 : Nat) : Int) := ⟨by omega, by have := g2.hi; omega⟩
    have em : (y : Int).tmod 16 = ((y % 16 : Nat) : Int) := rfl
    have ed : IntKind.u64.wrap ((y : Int).tdiv 16) = ((y / 16 : Nat) : Int) := by
      rw [show (y : Int).tdiv 16 = ((y / 16 : Nat) : Int) from rfl]
      exact wrap_rng ⟨by show (0 : Int) ≤ _; omega, by have := un.hi; show _ ≤ (18446744073709551615 : Int); omega⟩
    have ea : IntKind.u64.wrap ((y : Int).tmod 16 + 1) = ((y % 16 + 1 : Nat) : Int) := by
      rw [em]
      exact wrap_rng ⟨by show (0 : Int) ≤ _; omega, by show _ ≤ (18446744073709551615 : Int); omega⟩
    have eD : (List.drop ((y : Int).tmod 16).toNat (List.take (IntKind.u64.wrap ((y : Int).tmod 16 + 1)).toNat (ByteArray.mk #[48, 49, 50, 51, 52, 53, 54, 55, 56, 57, 97, 98, 99, 100, 101, 102]).data.toList)) = [hxc (y % 16)] := by
      rw [em, show IntKind.u64.wrap (((y % 16 : Nat) : Int) + 1) = ((y % 16 + 1 : Nat) : Int) from ea, Int.toNat_natCast, Int.toNat_natCast]
      exact dig16 (Nat.mod_lt y (by decide))
    have eL : (List.drop ((y : Int).tmod 16).toNat (List.take (IntKind.u64.wrap ((y : Int).tmod 16 + 1)).toNat (ByteArray.mk #[48, 49, 50, 51, 52, 53, 54, 55, 56, 57, 97, 98, 99, 100, 101, 102]).data.toList)) ++ t = hxc (y % 16) :: t := by rw [eD]; rfl
    have lD : (((List.drop ((y : Int).tmod 16).toNat (List.take (IntKind.u64.wrap ((y : Int).tmod 16 + 1)).toNat (ByteArray.mk #[48, 49, 50, 51, 52, 53, 54, 55, 56, 57, 97, 98, 99, 100, 101, 102]).data.toList)).length + t.length : Nat) : Int) ≤ IntKind.i64.max := by
      rw [eD, lt]
      show ((1 + i : Nat) : Int) ≤ (9223372036854775807 : Int)
      omega
    have p0 : 0 ≤ (y : Int).tmod 16 := by rw [em]; omega
    have p1 : (y : Int).tmod 16 ≤ IntKind.u64.wrap ((y : Int).tmod 16 + 1) := by rw [ea, em]; omega
    have p2 : IntKind.u64.wrap ((y : Int).tmod 16 + 1) ≤ ((ByteArray.mk #[48, 49, 50, 51, 52, 53, 54, 55, 56, 57, 97, 98, 99, 100, 101, 102]).data.toList.length : Int) := by rw [ea]; show _ ≤ (16 : Int); omega
    clear eD em ea
    (repeat' (first | (refine xI (fun hfk => ?_) (fun hfk => ?_) <;> ((try (first | replace hfk := oT hfk | replace hfk := oF hfk | simp only [oD, ne_eq, reduceCtorEq] at hfk)); (try exact oX))) | (refine And.intro ?ob ?_; (case ob => (exact oZ))) | exact True.intro | (show _ = _; first | exact oY | (first | exact lD | exact p0 | exact p1 | exact p2; done) | exact rfl) | exact oW | (apply And.intro)))
    refine ⟨(i + 1, y / 16, hxc (y % 16) :: t), [], ⟨hlt, un, gn⟩, ?mu, ?_⟩
    case mu => (show 16 - (i + 1) < 16 - i; omega)
    (repeat' (first | (refine And.intro ?_ ?_) | exact True.intro | (show _ = _; with_reducible rfl) | exact Chk.mk (by kernel_rfl)))
    all_goals first | rfl | exact ed | exact eL | (show (_ : Int) = _; omega)
  · obtain rfl : i = 16 := by omega
    have e : t = hxN 16 x := rx_end g3
    (repeat' (first | (refine xI (fun hfk => ?_) (fun hfk => ?_) <;> ((try (first | replace hfk := oT hfk | replace hfk := oF hfk | simp only [oD, ne_eq, reduceCtorEq] at hfk)); (try exact oX))) | (refine And.intro ?ob ?_; (case ob => (exact oZ))) | exact True.intro | (show _ = _; first | exact oY | (first | exact e | exact e.symm; done) | exact rfl) | exact oW | (apply And.intro)))
end Go.Proofs.YtblloaajiaoblaaDoor
namespace Go.Proofs.YtblloaajiaoblaaDoor
open Go Go.RowKit
abbrev rdS : PSpec := fun l => match l with | [.str s] => some ([s.length ≤ 1000000], .tup [.int .u64 (rdX s), .bool (rdB s)]) | _ => none
def hw (s : List UInt8) (i : Nat) : Int := (hval (s.take i) % 18446744073709551616 : Nat)
theorem hw_0 {s : List UInt8} : hw s 0 = 0 := rfl
def dk (c : UInt8) (k : Nat) : Int := if hdg c < k then (hdg c : Int) else 99
theorem dk_0 {c : UInt8} : dk c 0 = 99 := rfl
theorem hOK_len {s : List UInt8} (h : hOK s) : s.length = 16 := h.1
theorem rd_no {s : List UInt8} (h : ¬ hOK s) : rdX s = 0 ∧ rdB s = false := ⟨if_neg h, decide_eq_false h⟩
theorem rd_yes {s : List UInt8} (h : hOK s) : rdX s = (hval s : Int) ∧ rdB s = true := ⟨if_pos h, decide_eq_true h⟩
def tb16 (k : Nat) : UInt8 := (ByteArray.mk #[48, 49, 50, 51, 52, 53, 54, 55, 56, 57, 97, 98, 99, 100, 101, 102]).data.toList.getD k 0
theorem tb_hx : ∀ k : Fin 16, tb16 k.1 = hxc k.1 := by decide
theorem dk_hit {c : UInt8} {k : Nat} (hk : k < 16) (h : ((tb16 k).toNat : Int) = (c.toNat : Int)) : (k : Int) = dk c (k + 1) := by
  have e : c = hxc k := by rw [← tb_hx ⟨k, hk⟩]; exact (UInt8.toNat_inj.1 (Int.ofNat_inj.1 h)).symm
  have h2 := hdg_h hk
  unfold dk
  rw [e, h2, if_pos (by omega)]
theorem dk_miss {c : UInt8} {k : Nat} (hk : k < 16) (h : ¬ ((tb16 k).toNat : Int) = (c.toNat : Int)) : dk c k = dk c (k + 1) := by
  have e : hdg c ≠ k := fun e => h (by
    have h2 := (pdg_h (c := c) (by omega)).2
    rw [e] at h2
    rw [tb_hx ⟨k, hk⟩, h2])
  unfold dk
  by_cases k1 : hdg c < k
  · rw [if_pos k1, if_pos (by omega)]
  · rw [if_neg k1, if_neg (by omega)]
theorem dk_no {c : UInt8} {k : Nat} (hk : k = 16) (h : dk c k = 99) : ¬ hdg c < 16 := fun k1 => by
  unfold dk at h
  rw [if_pos (by omega)] at h
  omega
theorem dk_yes {c : UInt8} {k : Nat} (hk : k = 16) (h : ¬ dk c k = 99) : hdg c < 16 ∧ dk c k = (hdg c : Int) := by
  unfold dk at h ⊢
  by_cases k1 : hdg c < k
  · rw [if_pos k1]; exact ⟨by omega, rfl⟩
  · rw [if_neg k1] at h; exact absurd rfl h
theorem u64_k {k : Nat} (hk : k < 16) : IntKind.u64.wrap (k : Int) = (k : Int) := by rw [w64m]; omega
theorem take_1 {s : List UInt8} {i : Nat} (hi : i < s.length) : s.take (i + 1) = s.take i ++ [s.getD i 0] := by
  rw [List.take_add_one, List.getD_eq_getElem?_getD, List.getElem?_eq_getElem hi]
  rfl
theorem hw_next {s : List UInt8} {i : Nat} (hi : i < s.length) : IntKind.u64.wrap (IntKind.u64.wrap (hw s i * 16) + (hdg (s.getD i 0) : Int)) = hw s (i + 1) := by
  unfold hw
  rw [take_1 hi, hval_app, w64m, w64m]
  omega
theorem hOK_no {s : List UInt8} {i : Nat} (hi : i < s.length) (h : ¬ hdg (s.getD i 0) < 16) : ¬ hOK s := fun ok => h (ok.2 _ (by rw [List.getD_eq_getElem?_getD, List.getElem?_eq_getElem hi]; exact List.getElem_mem hi))
theorem hc_next {s : List UInt8} {i : Nat} (hi : i < s.length) (hc : ∀ c ∈ s.take i, hdg c < 16) (h : hdg (s.getD i 0) < 16) : ∀ c ∈ s.take (i + 1), hdg c < 16 := fun c hm => by
  rw [take_1 hi] at hm
  rcases List.mem_append.1 hm with k | k
  · exact hc c k
  · rw [List.mem_singleton.1 k]; exact h
theorem hw_end {s : List UInt8} {i : Nat} (hi : i = s.length) (h : s.length = 16) (hc : ∀ c ∈ s.take i, hdg c < 16) : hw s i = rdX s ∧ true = rdB s := by
  rw [hi, List.take_length] at hc
  have ok : hOK s := ⟨h, hc⟩
  have := hval_64 ok
  obtain ⟨e1, e2⟩ := rd_yes ok
  rw [e1, e2]
  unfold hw
  rw [hi, List.take_length, Nat.mod_eq_of_lt this]
  exact ⟨rfl, rfl⟩
attribute [local irreducible] hdg hval hOK rdX rdB
theorem rread12_s : SOK Tryd.prog 15 rdS := by
  refine sok_of (C := mkC 0 [] noG) (mkC_ok pok_nil noG_ok) rfl mixed ⟨Tryd.func15, by kernel_rfl, by kernel_rfl, by kernel_rfl⟩ fun l obs v h ho => ?_
  (unfold rdS at h; split at h; rotate_left; (focus (cases h)); rename_i s; simp only [Option.some.injEq, Prod.mk.injEq] at h; obtain ⟨rfl, rfl⟩ := h; simp only [List.mem_cons, List.not_mem_nil, or_false, forall_eq_or_imp, forall_eq, false_implies, implies_true] at ho)
  refine ⟨Nat.le_of_ble_eq_true rfl, ?_⟩
  (repeat' (first | (refine xI (fun hfk => ?_) (fun hfk => ?_) <;> ((try (first | replace hfk := oT hfk | replace hfk := oF hfk | simp only [oD, ne_eq, reduceCtorEq] at hfk)); (try exact oX))) | (refine And.intro ?ob ?_; (case ob => (exact oZ))) | exact True.intro | (show _ = _; first | exact oY | exact rfl) | exact oW | (apply And.intro)))
  refine ⟨Nat, fun i => [(0, .str s), (2, .int .u64 0), (3, .fls), (4, .int .u64 (hw s i)), (5, .int .i64 (i : Int))],
    fun i => ⟨0, []⟩,
    fun i => i ≤ s.length ∧ ∀ c ∈ s.take i, hdg c < 16, fun i => s.length - i, ⟨0, [], ⟨Nat.zero_le _, fun c hc => by simp at hc⟩, ?_⟩, fun i hi => ?_⟩
  · (repeat' (first | (refine And.intro ?_ ?_) | exact True.intro | (show _ = _; with_reducible rfl) | exact Chk.mk (by kernel_rfl)))
    all_goals first | rfl | exact hw_0.symm
  obtain ⟨hi, hc⟩ := hi
  (repeat' (first | (refine xI (fun hfk => ?_) (fun hfk => ?_) <;> ((try (first | replace hfk := oT hfk | replace hfk := oF hfk | simp only [oD, ne_eq, reduceCtorEq] at hfk)); (try exact oX))) | (refine And.intro ?ob ?_; (case ob => (exact oZ))) | exact True.intro | (show _ = _; first | exact oY | exact rfl) | exact oW | (apply And.intro)))
  · refine ⟨Nat, fun k => [(0, .str s), (2, .int .u64 0), (3, .fls), (4, .int .u64 (hw s i)), (5, .int .i64 (i : Int)), (6, .int .u64 (dk (s.getD i 0) k)), (7, .int .i64 (k : Int))],
      fun k => ⟨0, []⟩,
      fun k => k ≤ 16, fun k => 16 - k, ⟨0, [], Nat.zero_le _, ?_⟩, fun k hk => ?_⟩
    · (repeat' (first | (refine And.intro ?_ ?_) | exact True.intro | (show _ = _; with_reducible rfl) | exact Chk.mk (by kernel_rfl)))
      all_goals first | rfl | exact dk_0.symm
    have hk : k ≤ 16 := hk
    (repeat' (first | (refine xI (fun hfk => ?_) (fun hfk => ?_) <;> ((try (first | replace hfk := oT hfk | replace hfk := oF hfk | simp only [oD, ne_eq, reduceCtorEq] at hfk)); (try exact oX))) | (refine And.intro ?ob ?_; (case ob => (exact oZ))) | exact True.intro | (show _ = _; first | exact oY | exact rfl) | exact oW | (apply And.intro)))
    · have e := dk_hit (c := s.getD i 0) (k := k) (by omega) hfk
      refine ⟨k + 1, [], ?_, ?_, ?_⟩
      · dsimp only
        omega
      · dsimp only
        omega
      · (repeat' (first | (refine And.intro ?_ ?_) | exact True.intro | (show _ = _; with_reducible rfl) | exact Chk.mk (by kernel_rfl)))
        all_goals first | rfl | exact (u64_k (by omega)).trans e | exact (Int.natCast_succ k).symm | skip
    · have e := dk_miss (c := s.getD i 0) (k := k) (by omega) hfk
      refine ⟨k + 1, [], ?_, ?_, ?_⟩
      · dsimp only
        omega
      · dsimp only
        omega
      · (repeat' (first | (refine And.intro ?_ ?_) | exact True.intro | (show _ = _; with_reducible rfl) | exact Chk.mk (by kernel_rfl)))
        all_goals first | rfl | exact e | exact (Int.natCast_succ k).symm | skip
    · have ek : k = 16 := by omega
      exact (rd_no (hOK_no (i := i) (by omega) (dk_no ek hfk))).1.symm
    · have ek : k = 16 := by omega
      exact (rd_no (hOK_no (i := i) (by omega) (dk_no ek hfk))).2.symm
    · have ek : k = 16 := by omega
      obtain ⟨d1, d2⟩ := dk_yes ek hfk
      have e := hw_next (s := s) (i := i) (by omega)
      refine ⟨i + 1, [], ⟨by omega, hc_next (by omega) hc d1⟩, ?_, ?_⟩
      · dsimp only
        omega
      · (repeat' (first | (refine And.intro ?_ ?_) | exact True.intro | (show _ = _; with_reducible rfl) | exact Chk.mk (by kernel_rfl)))
        all_goals first | rfl | (show _ = _; rw [d2]; exact e) | exact (Int.natCast_succ i).symm | skip
  · exact (rd_no fun ok => hfk (by have := hOK_len ok; omega)).1.symm
  · exact (rd_no fun ok => hfk (by have := hOK_len ok; omega)).2.symm
  · exact (hw_end (by omega) (by omega) hc).1
  · exact (hw_end (by omega) (by omega) hc).2
end Go.Proofs.YtblloaajiaoblaaDoor
namespace Go.Proofs.YtblloaajiaoblaaDoor
open Go Go.RowKit
theorem gl_cell {w : World} {O : Nat → Prop} (h : GL w O) {g i : Nat} {l : List Value} (hm : (g, l) ∈ GLtab) {v : Value} (hi : l[i]? = some v) : w.cell? ⟨g, i, none⟩ = some v := by
  obtain ⟨_, _, ty, fr, e⟩ := h _ hm
  unfold World.cell?
  simp only [e]
  simpa using hi
theorem tz_walk (w : World) (hc : w.cell? ⟨5, 15, none⟩ = some (.int .u8 4)) :
    Calls Tryd.prog 98 #[.int .u64 16] w fun e w' => e = .returned (.int .i64 4) ∧ w' = w := by
  have hk : (IntKind.u64.wrap (bits BinOp.and IntKind.u64 16 (IntKind.u64.wrap (-16)) * 285870213051353865) / 288230376151711744) = 15 := by decide
  have hc2 : w.cell? ⟨5, (IntKind.u64.wrap (bits BinOp.and IntKind.u64 16 (IntKind.u64.wrap (-16)) * 285870213051353865) / 288230376151711744).toNat, none⟩ = some (.int .u8 4) := by rw [hk]; exact hc
  go_enter Tryd.func98, Tryd.ntmps98
  go_wp2
  go_ret
  exact ⟨rfl, rfl⟩
abbrev tzS : PSpec := fun l => match l with | [.int .u64 x] => some ([x = 16], .int .i64 4) | _ => none
theorem tz64_s : SOK Tryd.prog 98 tzS := by
  refine ⟨⟨_, Tryd.func98, by kernel_rfl, by kernel_rfl⟩, fun l obs v h ho w O cl hf hc => ?_⟩
  (unfold tzS at h; split at h; rotate_left; (focus (cases h)); rename_i x; simp only [Option.some.injEq, Prod.mk.injEq] at h; obtain ⟨rfl, rfl⟩ := h; simp only [List.mem_cons, List.not_mem_nil, or_false, forall_eq_or_imp, forall_eq, false_implies, implies_true] at ho)
  subst ho
  obtain ⟨hl, hr⟩ := hc
  match cl, hl with
  | [c], _ =>
    have hc := hr 0 _ _ rfl rfl
    cases hc
    have hcell : w.cell? ⟨5, 15, none⟩ = some (.int .u8 4) := gl_cell hf.2 (List.mem_cons_of_mem _ (List.mem_cons_of_mem _ List.mem_cons_self)) rfl
    refine (tz_walk w hcell).mono fun en w' ⟨he, hw⟩ => ?_
    subst hw
    exact ⟨_, he, Ext.refl _ _, .int _ _⟩
end Go.Proofs.YtblloaajiaoblaaDoor

