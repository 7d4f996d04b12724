/- Texts laid together. No condition. -/
import Derived.Test.YtblloaajiaoblaaDoorU
import Derived.WalkKit
import Derived.Test.YtblloaajiaoblaaDoorA
import Derived.Test.YtblloaajiaoblaaDoorE22
import Derived.Test.YtblloaajiaoblaaDoorE20
import Derived.Test.YtblloaajiaoblaaDoorE21
import Derived.BigCall
namespace Go.Proofs.YtblloaajiaoblaaDoor
theorem oT {p : Prop} [Decidable p] (h : decide p = true) : p := of_decide_eq_true h
theorem oF {p : Prop} [Decidable p] (h : decide p = false) : ¬ p := of_decide_eq_false h
theorem oA {p : Prop} [Decidable p] : (decide p = true) = p := decide_eq_true_eq
theorem oB {p : Prop} [Decidable p] : decide p = false ↔ ¬ p := decide_eq_false_iff_not
theorem xF {x : Bool} (h : x = true) (k : x = false) : False := Bool.noConfusion (Eq.trans (Eq.symm h) k)
theorem xI {x : Bool} {A B : Prop} (f : x = true → A) (g : x = false → B) : (x = true → A) ∧ (x = false → B) := ⟨f, g⟩
theorem xT {x : Bool} (h : x = false) (k : x = true) : False := Bool.noConfusion (Eq.trans (Eq.symm h) k)
theorem oZ {p : Prop} (h : p := by (first | exact Chk.mk (by kernel_rfl) | exact True.intro | with_reducible assumption | exact rng64 (by omega) (by omega) | omega | (dsimp only; omega) | (show (_ : Nat) ≤ _; omega) | (simp only [ll1, ll2, ll0]; first | done | omega) | (dsimp only; simp only [ll1, ll2, ll0]; omega))) : p := h
theorem oX (h : False := by first | omega | contradiction | exact xF hfk (by with_reducible assumption) | exact xT hfk (by with_reducible assumption)) {p : Prop} : p := h.elim
theorem oY {p : Prop} (h : p := by first | with_reducible rfl | with_reducible assumption | omega | (simp only [ll1, ll2, ll0]; omega)) : p := h
theorem oW {p : Prop} (h : p := by first | with_reducible assumption | omega | (intro j hj; exact rfl)) : p := h
end Go.Proofs.YtblloaajiaoblaaDoor
set_option maxRecDepth 100000
set_option linter.unusedVariables false
set_option linter.unusedSimpArgs false
namespace Go.Proofs.YtblloaajiaoblaaDoor
open Go Go.RowKit
set_option maxHeartbeats 4000000
def fbS (b : BitVec 64) (v : Int) : BitVec 64 := (b ^^^ BitVec.ofInt 64 v) * 1099511628211#64
def fb0 : BitVec 64 := 14695981039346656037#64
def fbL (b : BitVec 64) (l : List Int) : BitVec 64 := l.foldl fbS b
theorem fbL_app (b : BitVec 64) (l m : List Int) : fbL b (l ++ m) = fbL (fbL b l) m := by simp [fbL, List.foldl_append]
theorem fbL_snoc (b : BitVec 64) (l : List Int) (v : Int) : fbL b (l ++ [v]) = fbS (fbL b l) v := by rw [fbL_app]; rfl
theorem bv_of (b : BitVec 64) : BitVec.ofInt 64 ((b.toNat : Nat) : Int) = b := by
  apply BitVec.eq_of_toNat_eq
  rw [BitVec.toNat_ofInt]
  have := b.isLt
  have e : ((b.toNat : Nat) : Int) % ((2 ^ 64 : Nat) : Int) = ((b.toNat : Nat) : Int) := Int.emod_eq_of_lt (by omega) (by omega)
  rw [e, Int.toNat_natCast]
theorem w64_bv (b : BitVec 64) : IntKind.u64.wrap ((b.toNat : Nat) : Int) = ((b.toNat : Nat) : Int) := by
  have := b.isLt
  exact wrap_rng ⟨by show (0 : Int) ≤ _; omega, by show _ ≤ (18446744073709551615 : Int); omega⟩
theorem w64_mul (a b : BitVec 64) : IntKind.u64.wrap (((a.toNat : Nat) : Int) * ((b.toNat : Nat) : Int)) = (((a * b).toNat : Nat) : Int) := by
  rw [BitVec.toNat_mul, ← Int.natCast_mul]
  have e : ∀ x : Nat, IntKind.u64.wrap (x : Int) = ((x % 2 ^ 64 : Nat) : Int) := fun x => by
    show (x : Int) % (2 ^ 64 : Int) = ((x % 2 ^ 64 : Nat) : Int)
    omega
  exact e _
theorem fb_step (b : BitVec 64) (v : Int) : IntKind.u64.wrap (IntKind.u64.wrap (((BitVec.ofInt 64 ((b.toNat : Nat) : Int) ^^^ BitVec.ofInt 64 v).toNat : Nat) : Int) * 1099511628211) = (((fbS b v).toNat : Nat) : Int) := by
  rw [bv_of, w64_bv]
  exact w64_mul (b ^^^ BitVec.ofInt 64 v) 1099511628211#64
theorem xor_self (a b : BitVec 64) : a ^^^ b ^^^ b = a := by rw [BitVec.xor_assoc, BitVec.xor_self, BitVec.xor_zero]
structure U64 (x : Int) : Prop where
  lo : 0 ≤ x
  hi : x < 18446744073709551616
theorem U64.bv {x : Int} (h : U64 x) : ∃ b : BitVec 64, x = ((b.toNat : Nat) : Int) ∧ BitVec.ofInt 64 x = b := by
  obtain ⟨h0, h1⟩ := h
  obtain ⟨n, rfl⟩ := Int.eq_ofNat_of_zero_le h0
  have hn : n < 2 ^ 64 := by omega
  refine ⟨BitVec.ofNat 64 n, ?_, ?_⟩
  · rw [BitVec.toNat_ofNat, Nat.mod_eq_of_lt hn]
  · have := bv_of (BitVec.ofNat 64 n)
    rw [BitVec.toNat_ofNat, Nat.mod_eq_of_lt hn] at this
    exact this
theorem U64_bv (b : BitVec 64) : U64 ((b.toNat : Nat) : Int) := by
  have := b.isLt
  exact ⟨by omega, by omega⟩
def hxV (x : Int) (b : List Int) : Int := (((fbL (BitVec.ofInt 64 x ^^^ fb0) b ^^^ fb0).toNat : Nat) : Int)
def dgV (b : List Int) : Int := (((fbL fb0 b).toNat : Nat) : Int)
theorem xor_b0 (b : BitVec 64) : IntKind.u64.wrap (((BitVec.ofInt 64 ((b.toNat : Nat) : Int) ^^^ BitVec.ofInt 64 14695981039346656037).toNat : Nat) : Int) = (((b ^^^ fb0).toNat : Nat) : Int) := by
  rw [bv_of, w64_bv]; rfl
end Go.Proofs.YtblloaajiaoblaaDoor
namespace Go.Proofs.YtblloaajiaoblaaDoor
structure R4 where
  x0 : Int
  y0 : Int
  x1 : Int
  y1 : Int
def R4.zero : R4 := ⟨0, 0, 0, 0⟩
@[simp] theorem zero_x0 : R4.zero.x0 = 0 := rfl
@[simp] theorem zero_y0 : R4.zero.y0 = 0 := rfl
@[simp] theorem zero_x1 : R4.zero.x1 = 0 := rfl
@[simp] theorem zero_y1 : R4.zero.y1 = 0 := rfl
def inB (x : Int) : Bool := decide (-2147483648 ≤ x) && decide (x ≤ 2147483648)
end Go.Proofs.YtblloaajiaoblaaDoor
namespace Go.Proofs.YtblloaajiaoblaaDoor
open Go Go.RowKit
def sN (v : AV) : PSpec := fun l => match l with | [] => some ([], v) | _ => none
theorem sN_inv {w : AV} {l : List AV} {obs : List Prop} {v : AV} (h : sN w l = some (obs, v)) : l = [] ∧ v = w := by
  unfold sN at h
  split at h
  · simp only [Option.some.injEq, Prod.mk.injEq] at h; exact ⟨rfl, h.2.symm⟩
  · cases h
end Go.Proofs.YtblloaajiaoblaaDoor
namespace Go.Proofs.YtblloaajiaoblaaDoor
open Go Go.RowKit
set_option maxHeartbeats 4000000
theorem byte64 {b : List Int} (h : Bytes b) (i : Nat) : IntKind.u64.wrap (b.getD i 0) = b.getD i 0 := by
  have := h.get i
  exact wrap_rng ⟨by show (0 : Int) ≤ _; omega, by show _ ≤ (18446744073709551615 : Int); omega⟩
theorem fb_take {b : List Int} {i : Nat} (X : BitVec 64) (h : i < b.length) : fbL X (b.take (i + 1)) = fbS (fbL X (b.take i)) (b.getD i 0) := by
  have : b.take (i + 1) = b.take i ++ [b.getD i 0] := by
    rw [List.take_add_one, List.getElem?_eq_getElem h]; simp [List.getD, h]
  rw [this, fbL_snoc]
def putHF : FSpec := fun l es => match l, es with
  | [.ptr 0 0, .roi .u8 b], [.cells 31 [.int .u64 x, .int .i64 n]] => some ([U64 x, Bytes b, 0 ≤ n, n ≤ 1152921504606846976, b.length ≤ 140737488355328], .tup [], [some (.cells 31 [.int .u64 (hxV x b), .int .i64 (n + (b.length : Int))])])
  | _, _ => none
theorem putH_g : GSOK Tryd.prog 27 (fG putHF) := by
  refine fok (S := []) (G := noG) pok_nil noG_ok ⟨Tryd.func27, by kernel_rfl, by kernel_rfl, by kernel_rfl⟩ fun l es obs v es' h ho => ?_
  (unfold putHF at h; split at h; rotate_left; (focus (cases h)); rename_i b x n; simp only [Option.some.injEq, Prod.mk.injEq] at h; obtain ⟨rfl, rfl, rfl⟩ := h; simp only [List.mem_cons, List.not_mem_nil, or_false, forall_eq_or_imp, forall_eq, false_implies, implies_true] at ho)
  obtain ⟨hx, hB, n0, n1, bl⟩ := ho
  obtain ⟨X, rfl, hX⟩ := hx.bv
  refine ⟨Nat.le_of_ble_eq_true rfl, ?_⟩
  have eV : hxV ((X.toNat : Nat) : Int) b = (((fbL (X ^^^ fb0) b ^^^ fb0).toNat : Nat) : Int) := by unfold hxV; rw [hX]
  rw [eV]
  have e0 := xor_b0 X
  have rn : rngI .i64 (n + (b.length : Int)) := rng64 (by omega) (by omega)
  (repeat' (first | (refine xI (fun hfk => ?_) (fun hfk => ?_) <;> ((try (first | replace hfk := oT hfk | replace hfk := oF hfk | simp only [oA, oB, dh1, dh0, ne_eq, reduceCtorEq] at hfk)); (try exact oX))) | (refine And.intro ?ob ?_; (case ob => (exact oZ))) | exact True.intro | (show _ = _; first | exact oY | (skip; done) | exact rfl) | exact oW | (apply And.intro)))
  refine ⟨Nat, fun i => [(0, .ptr 0 0), (1, .roi .u8 b), (4, .int .u64 (((fbL (X ^^^ fb0) (b.take i)).toNat : Nat) : Int)), (12, .roi .u8 b), (13, .int .i64 (b.length : Int)), (14, .int .i64 (i : Int))],
    fun i => ⟨1, [(0, some (.cells 31 [.int .u64 ((X.toNat : Nat) : Int), .int .i64 n]))]⟩,
    fun i => i ≤ b.length, fun i => b.length - i, ⟨0, [some 0], Nat.zero_le _, ?_⟩, fun i hi => ?_⟩
  · (repeat' (first | (refine And.intro ?_ ?_) | exact True.intro | (show _ = _; with_reducible rfl) | exact Chk.mk (by kernel_rfl)))
    all_goals first | exact e0 | rfl
  have hi : i ≤ b.length := hi
  dsimp only
  by_cases hlt : i < b.length
  · have e1 := fb_step (fbL (X ^^^ fb0) (b.take i)) (b.getD i 0)
    rw [← fb_take _ hlt] at e1
    have e2 := byte64 hB i
    have e2' : IntKind.u64.wrap (b.getD (i : Int).toNat 0) = b.getD i 0 := e2
    have ri : rngI .i64 ((i : Int) + 1) := rng64 (by omega) (by omega)
    (repeat' (first | (refine xI (fun hfk => ?_) (fun hfk => ?_) <;> ((try (first | replace hfk := oT hfk | replace hfk := oF hfk | simp only [oA, oB, dh1, dh0, ne_eq, reduceCtorEq] at hfk)); (try exact oX))) | (refine And.intro ?ob ?_; (case ob => (exact oZ))) | exact True.intro | (show _ = _; first | exact oY | (skip; done) | exact rfl) | exact oW | (apply And.intro)))
    refine ⟨i + 1, [some 0], hlt, ?mu, ?_⟩
    case mu => (show b.length - (i + 1) < b.length - i; omega)
    (repeat' (first | (refine And.intro ?_ ?_) | exact True.intro | (show _ = _; with_reducible rfl) | exact Chk.mk (by kernel_rfl)))
    all_goals first | rfl | (rw [e2']; exact e1) | (show (_ : Int) = _; omega)
  · obtain rfl : i = b.length := by omega
    rw [List.take_length]
    have e3 := xor_b0 (fbL (X ^^^ fb0) b)
    (repeat' (first | (refine xI (fun hfk => ?_) (fun hfk => ?_) <;> ((try (first | replace hfk := oT hfk | replace hfk := oF hfk | simp only [oA, oB, dh1, dh0, ne_eq, reduceCtorEq] at hfk)); (try exact oX))) | (refine And.intro ?ob ?_; (case ob => (exact oZ))) | exact True.intro | (show _ = _; first | exact oY | (skip; done) | exact rfl) | exact oW | (apply And.intro)))
    refine ⟨[some 0], ?_⟩
    (repeat' (first | (refine xI (fun hfk => ?_) (fun hfk => ?_) <;> ((try (first | replace hfk := oT hfk | replace hfk := oF hfk | simp only [oA, oB, dh1, dh0, ne_eq, reduceCtorEq] at hfk)); (try exact oX))) | (refine And.intro ?ob ?_; (case ob => (exact oZ))) | exact True.intro | (show _ = _; first | exact oY | (first | exact e3 | rfl; done) | exact rfl) | exact oW | (apply And.intro)))
abbrev pNw : FSpec := fun l es => match l, es with
  | [], [] => some ([], .ptr 0 0, [some (.cells 31 [.int .u64 0, .int .i64 0])])
  | _, _ => none
theorem newH_g : GSOK Tryd.prog 9 (fG pNw) := by
  refine fok (S := []) (G := noG) pok_nil noG_ok ⟨Tryd.func9, by kernel_rfl, by kernel_rfl, by kernel_rfl⟩ fun l es obs v es' h ho => ?_
  unfold pNw at h
  split at h
  · simp only [Option.some.injEq, Prod.mk.injEq] at h
    obtain ⟨rfl, rfl, rfl⟩ := h
    refine ⟨Nat.le_of_ble_eq_true rfl, ?_⟩
    (repeat' (first | (refine xI (fun hfk => ?_) (fun hfk => ?_) <;> ((try (first | replace hfk := oT hfk | replace hfk := oF hfk | simp only [oA, oB, dh1, dh0, ne_eq, reduceCtorEq] at hfk)); (try exact oX))) | (refine And.intro ?ob ?_; (case ob => (exact oZ))) | exact True.intro | (show _ = _; first | exact oY | (skip; done) | exact rfl) | exact oW | (apply And.intro)))
    refine ⟨[some 0], ?_⟩
    (repeat' (first | (refine xI (fun hfk => ?_) (fun hfk => ?_) <;> ((try (first | replace hfk := oT hfk | replace hfk := oF hfk | simp only [oA, oB, dh1, dh0, ne_eq, reduceCtorEq] at hfk)); (try exact oX))) | (refine And.intro ?ob ?_; (case ob => (exact oZ))) | exact True.intro | (show _ = _; first | exact oY | (rfl; done) | exact rfl) | exact oW | (apply And.intro)))
  · cases h
theorem writeH_g : GSOK Tryd.prog 10 (fG putHF) := by
  refine fok (S := []) (G := glook [(27, fG putHF)]) pok_nil (gl_cons putH_g gl_nil) ⟨Tryd.func10, by kernel_rfl, by kernel_rfl, by kernel_rfl⟩ fun l es obs v es' h ho => ?_
  (unfold putHF at h; split at h; rotate_left; (focus (cases h)); rename_i b x n; simp only [Option.some.injEq, Prod.mk.injEq] at h; obtain ⟨rfl, rfl, rfl⟩ := h; simp only [List.mem_cons, List.not_mem_nil, or_false, forall_eq_or_imp, forall_eq, false_implies, implies_true] at ho)
  obtain ⟨hx, hB, n0, n1, bl⟩ := ho
  refine ⟨Nat.le_of_ble_eq_true rfl, ?_⟩
  (repeat' (first | (refine xI (fun hfk => ?_) (fun hfk => ?_) <;> ((try (first | replace hfk := oT hfk | replace hfk := oF hfk | simp only [oA, oB, dh1, dh0, ne_eq, reduceCtorEq] at hfk)); (try exact oX))) | (refine And.intro ?ob ?_; (case ob => (exact oZ))) | exact True.intro | (show _ = _; first | exact oY | (skip; done) | exact rfl) | exact oW | (apply And.intro)))
  (refine ⟨[0], ⟨by kernel_rfl⟩, ?_⟩)
  (repeat' (first | (refine xI (fun hfk => ?_) (fun hfk => ?_) <;> ((try (first | replace hfk := oT hfk | replace hfk := oF hfk | simp only [oA, oB, dh1, dh0, ne_eq, reduceCtorEq] at hfk)); (try exact oX))) | (refine And.intro ?ob ?_; (case ob => (exact oZ))) | exact True.intro | (show _ = _; first | exact oY | (first | exact hx | exact hB; done) | exact rfl) | exact oW | (apply And.intro)))
  refine ⟨[some 0], ?_⟩
  (repeat' (first | (refine xI (fun hfk => ?_) (fun hfk => ?_) <;> ((try (first | replace hfk := oT hfk | replace hfk := oF hfk | simp only [oA, oB, dh1, dh0, ne_eq, reduceCtorEq] at hfk)); (try exact oX))) | (refine And.intro ?ob ?_; (case ob => (exact oZ))) | exact True.intro | (show _ = _; first | exact oY | (rfl; done) | exact rfl) | exact oW | (apply And.intro)))
abbrev writeNS : PSpec := fun l => match l with | [.nilp, .roi .u8 b] => some ([], .tup []) | _ => none
theorem writeN_s : SOK Tryd.prog 10 writeNS := by
  refine sok_of (C := mkC 0 [] noG) (mkC_ok pok_nil noG_ok) rfl mixed ⟨Tryd.func10, by kernel_rfl, by kernel_rfl, by kernel_rfl⟩ fun l obs v h ho => ?_
  (unfold writeNS at h; split at h; rotate_left; (focus (cases h)); rename_i b; simp only [Option.some.injEq, Prod.mk.injEq] at h; obtain ⟨rfl, rfl⟩ := h; simp only [List.mem_cons, List.not_mem_nil, or_false, forall_eq_or_imp, forall_eq, false_implies, implies_true] at ho)
  refine ⟨Nat.le_of_ble_eq_true rfl, ?_⟩
  (repeat' (first | (refine xI (fun hfk => ?_) (fun hfk => ?_) <;> ((try (first | replace hfk := oT hfk | replace hfk := oF hfk | simp only [oA, oB, dh1, dh0, ne_eq, reduceCtorEq] at hfk)); (try exact oX))) | (refine And.intro ?ob ?_; (case ob => (exact oZ))) | exact True.intro | (show _ = _; first | exact oY | (rfl; done) | exact rfl) | exact oW | (apply And.intro)))
abbrev sumHS : PSpec := fun l => match l with
  | [.rop (.agg [.int .u64 x, .int .i64 n])] => some ([U64 x], .int .u64 ((((BitVec.ofInt 64 x) ^^^ fb0).toNat : Nat) : Int))
  | [.nilp] => some ([], .int .u64 14695981039346656037)
  | _ => none
theorem sumH_s : SOK Tryd.prog 11 sumHS := by
  refine sok_of (C := mkC 0 [] noG) (mkC_ok pok_nil noG_ok) rfl mixed ⟨Tryd.func11, by kernel_rfl, by kernel_rfl, by kernel_rfl⟩ fun l obs v h ho => ?_
  unfold sumHS at h
  split at h
  · rename_i x n
    simp only [Option.some.injEq, Prod.mk.injEq] at h
    obtain ⟨rfl, rfl⟩ := h
    simp only [List.mem_cons, List.not_mem_nil, or_false, forall_eq_or_imp, forall_eq] at ho
    obtain ⟨X, rfl, hX⟩ := ho.bv
    refine ⟨Nat.le_of_ble_eq_true rfl, ?_⟩
    rw [hX]
    have e3 := xor_b0 X
    (repeat' (first | (refine xI (fun hfk => ?_) (fun hfk => ?_) <;> ((try (first | replace hfk := oT hfk | replace hfk := oF hfk | simp only [oA, oB, dh1, dh0, ne_eq, reduceCtorEq] at hfk)); (try exact oX))) | (refine And.intro ?ob ?_; (case ob => (exact oZ))) | exact True.intro | (show _ = _; first | exact oY | (first | exact e3 | exact e3.symm | rfl; done) | exact rfl) | exact oW | (apply And.intro)))
  · simp only [Option.some.injEq, Prod.mk.injEq] at h
    obtain ⟨rfl, rfl⟩ := h
    refine ⟨Nat.le_of_ble_eq_true rfl, ?_⟩
    (repeat' (first | (refine xI (fun hfk => ?_) (fun hfk => ?_) <;> ((try (first | replace hfk := oT hfk | replace hfk := oF hfk | simp only [oA, oB, dh1, dh0, ne_eq, reduceCtorEq] at hfk)); (try exact oX))) | (refine And.intro ?ob ?_; (case ob => (exact oZ))) | exact True.intro | (show _ = _; first | exact oY | (rfl; done) | exact rfl) | exact oW | (apply And.intro)))
  · cases h
abbrev lenHS : PSpec := fun l => match l with
  | [.rop (.agg [.int .u64 x, .int .i64 n])] => some ([], .int .i64 n)
  | [.nilp] => some ([], .int .i64 0)
  | _ => none
theorem lenH_s : SOK Tryd.prog 13 lenHS := by
  refine sok_of (C := mkC 0 [] noG) (mkC_ok pok_nil noG_ok) rfl mixed ⟨Tryd.func13, by kernel_rfl, by kernel_rfl, by kernel_rfl⟩ fun l obs v h ho => ?_
  unfold lenHS at h
  split at h
  · rename_i x n
    simp only [Option.some.injEq, Prod.mk.injEq] at h
    obtain ⟨rfl, rfl⟩ := h
    refine ⟨Nat.le_of_ble_eq_true rfl, ?_⟩
    (repeat' (first | (refine xI (fun hfk => ?_) (fun hfk => ?_) <;> ((try (first | replace hfk := oT hfk | replace hfk := oF hfk | simp only [oA, oB, dh1, dh0, ne_eq, reduceCtorEq] at hfk)); (try exact oX))) | (refine And.intro ?ob ?_; (case ob => (exact oZ))) | exact True.intro | (show _ = _; first | exact oY | (rfl; done) | exact rfl) | exact oW | (apply And.intro)))
  · simp only [Option.some.injEq, Prod.mk.injEq] at h
    obtain ⟨rfl, rfl⟩ := h
    refine ⟨Nat.le_of_ble_eq_true rfl, ?_⟩
    (repeat' (first | (refine xI (fun hfk => ?_) (fun hfk => ?_) <;> ((try (first | replace hfk := oT hfk | replace hfk := oF hfk | simp only [oA, oB, dh1, dh0, ne_eq, reduceCtorEq] at hfk)); (try exact oX))) | (refine And.intro ?ob ?_; (case ob => (exact oZ))) | exact True.intro | (show _ = _; first | exact oY | (rfl; done) | exact rfl) | exact oW | (apply And.intro)))
  · cases h
abbrev bytesHS : PSpec := fun l => match l with | [.roi .u8 b] => some ([Bytes b, b.length ≤ 140737488355328], .int .u64 (dgV b)) | _ => none
theorem hx0 (b : List Int) : ((((BitVec.ofInt 64 (hxV 0 b)) ^^^ fb0).toNat : Nat) : Int) = dgV b := by
  unfold hxV dgV
  rw [bv_of, xor_self]
  rfl
theorem bytesH_s : SOK Tryd.prog 7 bytesHS := by
  refine sok_of (C := mkC 0 [(11, sumHS)] (glook [(9, fG pNw), (10, fG putHF)])) (mkC_ok (pok_cons sumH_s pok_nil) (gl_cons newH_g (gl_cons writeH_g gl_nil))) rfl mixed ⟨Tryd.func7, by kernel_rfl, by kernel_rfl, by kernel_rfl⟩ fun l obs v h ho => ?_
  (unfold bytesHS at h; split at h; rotate_left; (focus (cases h)); rename_i b; simp only [Option.some.injEq, Prod.mk.injEq] at h; obtain ⟨rfl, rfl⟩ := h; simp only [List.mem_cons, List.not_mem_nil, or_false, forall_eq_or_imp, forall_eq, false_implies, implies_true] at ho)
  obtain ⟨hB, bl⟩ := ho
  refine ⟨Nat.le_of_ble_eq_true rfl, ?_⟩
  have u0 : U64 0 := ⟨by decide, by decide⟩
  have uv : U64 (hxV 0 b) := U64_bv _
  have e := hx0 b
  (repeat' (first | (refine xI (fun hfk => ?_) (fun hfk => ?_) <;> ((try (first | replace hfk := oT hfk | replace hfk := oF hfk | simp only [oA, oB, dh1, dh0, ne_eq, reduceCtorEq] at hfk)); (try exact oX))) | (refine And.intro ?ob ?_; (case ob => (exact oZ))) | exact True.intro | (show _ = _; first | exact oY | (skip; done) | exact rfl) | exact oW | (apply And.intro)))
  (refine ⟨[], ⟨by kernel_rfl⟩, ?_⟩)
  (repeat' (first | (refine xI (fun hfk => ?_) (fun hfk => ?_) <;> ((try (first | replace hfk := oT hfk | replace hfk := oF hfk | simp only [oA, oB, dh1, dh0, ne_eq, reduceCtorEq] at hfk)); (try exact oX))) | (refine And.intro ?ob ?_; (case ob => (exact oZ))) | exact True.intro | (show _ = _; first | exact oY | (skip; done) | exact rfl) | exact oW | (apply And.intro)))
  (refine ⟨[0], ⟨by kernel_rfl⟩, ?_⟩)
  (repeat' (first | (refine xI (fun hfk => ?_) (fun hfk => ?_) <;> ((try (first | replace hfk := oT hfk | replace hfk := oF hfk | simp only [oA, oB, dh1, dh0, ne_eq, reduceCtorEq] at hfk)); (try exact oX))) | (refine And.intro ?ob ?_; (case ob => (exact oZ))) | exact True.intro | (show _ = _; first | exact oY | (first | exact u0 | exact hB | exact uv | exact e; done) | exact rfl) | exact oW | (apply And.intro)))
theorem rbytes12_s : SOK Tryd.prog 12 bytesHS := by
  refine sok_of (C := mkC 0 [] noG) (mkC_ok pok_nil noG_ok) rfl mixed ⟨Tryd.func12, by kernel_rfl, by kernel_rfl, by kernel_rfl⟩ fun l obs v h ho => ?_
  (unfold bytesHS at h; split at h; rotate_left; (focus (cases h)); rename_i b; simp only [Option.some.injEq, Prod.mk.injEq] at h; obtain ⟨rfl, rfl⟩ := h; simp only [List.mem_cons, List.not_mem_nil, or_false, forall_eq_or_imp, forall_eq, false_implies, implies_true] at ho)
  obtain ⟨hB, bl⟩ := ho
  refine ⟨Nat.le_of_ble_eq_true rfl, ?_⟩
  (repeat' (first | (refine xI (fun hfk => ?_) (fun hfk => ?_) <;> ((try (first | replace hfk := oT hfk | replace hfk := oF hfk | simp only [oA, oB, dh1, dh0, ne_eq, reduceCtorEq] at hfk)); (try exact oX))) | (refine And.intro ?ob ?_; (case ob => (exact oZ))) | exact True.intro | (show _ = _; first | exact oY | (skip; done) | exact rfl) | exact oW | (apply And.intro)))
  refine ⟨Nat, fun i => [(0, .roi .u8 b), (2, .int .u64 0), (3, .int .u64 (((fbL fb0 (b.take i)).toNat : Nat) : Int)), (4, .int .i64 (i : Int))],
    fun i => ⟨0, []⟩,
    fun i => i ≤ b.length, fun i => b.length - i, ⟨0, [], Nat.zero_le _, ?_⟩, fun i hi => ?_⟩
  · (repeat' (first | (refine And.intro ?_ ?_) | exact True.intro | (show _ = _; with_reducible rfl) | exact Chk.mk (by kernel_rfl)))
    all_goals rfl
  have hi : i ≤ b.length := hi
  dsimp only
  by_cases hlt : i < b.length
  · have e1 := fb_step (fbL fb0 (b.take i)) (b.getD i 0)
    rw [← fb_take _ hlt] at e1
    have e2 := byte64 hB i
    have e2' : IntKind.u64.wrap (b.getD (i : Int).toNat 0) = b.getD i 0 := e2
    have ri : rngI .i64 ((i : Int) + 1) := rng64 (by omega) (by omega)
    (repeat' (first | (refine xI (fun hfk => ?_) (fun hfk => ?_) <;> ((try (first | replace hfk := oT hfk | replace hfk := oF hfk | simp only [oA, oB, dh1, dh0, ne_eq, reduceCtorEq] at hfk)); (try exact oX))) | (refine And.intro ?ob ?_; (case ob => (exact oZ))) | exact True.intro | (show _ = _; first | exact oY | (skip; done) | exact rfl) | exact oW | (apply And.intro)))
    refine ⟨i + 1, [], hlt, ?mu, ?_⟩
    case mu => (show b.length - (i + 1) < b.length - i; omega)
    (repeat' (first | (refine And.intro ?_ ?_) | exact True.intro | (show _ = _; with_reducible rfl) | exact Chk.mk (by kernel_rfl)))
    all_goals first | rfl | (rw [e2']; exact e1) | (show (_ : Int) = _; omega)
  · obtain rfl : i = b.length := by omega
    rw [List.take_length]
    (repeat' (first | (refine xI (fun hfk => ?_) (fun hfk => ?_) <;> ((try (first | replace hfk := oT hfk | replace hfk := oF hfk | simp only [oA, oB, dh1, dh0, ne_eq, reduceCtorEq] at hfk)); (try exact oX))) | (refine And.intro ?ob ?_; (case ob => (exact oZ))) | exact True.intro | (show _ = _; first | exact oY | (rfl; done) | exact rfl) | exact oW | (apply And.intro)))
end Go.Proofs.YtblloaajiaoblaaDoor
namespace Go.Proofs.YtblloaajiaoblaaDoor
open Go Go.RowKit
set_option maxHeartbeats 4000000
def hxc (d : Nat) : UInt8 := UInt8.ofNat (if d < 10 then 48 + d else 87 + d)
def hexF : Nat → Nat → List UInt8
  | 0, _ => []
  | n + 1, u => if u < 16 then [hxc u] else hexF n (u / 16) ++ [hxc (u % 16)]
def hxN : Nat → Nat → List UInt8
  | 0, _ => []
  | n + 1, u => hxN n (u / 16) ++ [hxc (u % 16)]
theorem hexF_le : ∀ (n u : Nat), (hexF n u).length ≤ n
  | 0, _ => Nat.le_refl _
  | n + 1, u => by
    have := hexF_le n (u / 16)
    unfold hexF
    split
    · simp
    · rw [List.length_append, List.length_singleton]; omega
theorem hxN_0 : ∀ n, hxN n 0 = List.replicate n 48
  | 0 => rfl
  | n + 1 => by
    unfold hxN
    rw [show 0 / 16 = 0 from rfl, hxN_0 n, List.replicate_succ']; rfl
theorem hex_pad : ∀ {n u : Nat}, u < 16 ^ n → List.replicate (n - (hexF n u).length) 48 ++ hexF n u = hxN n u
  | 0, u, h => rfl
  | n + 1, u, h => by
    unfold hexF hxN
    by_cases k : u < 16
    · rw [if_pos k, Nat.div_eq_of_lt k, hxN_0, Nat.mod_eq_of_lt k]; rfl
    · rw [if_neg k]
      have hu : u / 16 < 16 ^ n := by rw [Nat.pow_succ] at h; omega
      have ih := hex_pad hu
      rw [List.length_append, List.length_singleton, Nat.add_sub_add_right, ← List.append_assoc, ih]
theorem hex_begin : hxN 16 14695981039346656037 = [99, 98, 102, 50, 57, 99, 101, 52, 56, 52, 50, 50, 50, 51, 50, 53] := by decide
end Go.Proofs.YtblloaajiaoblaaDoor
namespace Go.Proofs.YtblloaajiaoblaaDoor
open Go Go.RowKit
set_option maxHeartbeats 4000000
theorem gl_cell {w : World} {O : Nat → Prop} (h : GL w O) {g i : Nat} {l : List Value} (hm : (g, l) ∈ GLtab) {v : Value} (hi : l[i]? = some v) : w.cell? ⟨g, i, none⟩ = some v := by
  obtain ⟨_, _, ty, fr, e⟩ := h _ hm
  unfold World.cell?
  simp only [e]
  simpa using hi
theorem tz_walk (w : World) (hc : w.cell? ⟨5, 15, none⟩ = some (.int .u8 4)) :
    Calls Tryd.prog 98 #[.int .u64 16] w fun e w' => e = .returned (.int .i64 4) ∧ w' = w := by
  have hk : (IntKind.u64.wrap (bits BinOp.and IntKind.u64 16 (IntKind.u64.wrap (-16)) * 285870213051353865) / 288230376151711744) = 15 := by decide
  have hc2 : w.cell? ⟨5, (IntKind.u64.wrap (bits BinOp.and IntKind.u64 16 (IntKind.u64.wrap (-16)) * 285870213051353865) / 288230376151711744).toNat, none⟩ = some (.int .u8 4) := by rw [hk]; exact hc
  go_enter Tryd.func98, Tryd.ntmps98
  go_wp2
  go_ret
  exact ⟨rfl, rfl⟩
abbrev tzS : PSpec := fun l => match l with | [.int .u64 x] => some ([x = 16], .int .i64 4) | _ => none
theorem tz64_s : SOK Tryd.prog 98 tzS := by
  refine ⟨⟨_, Tryd.func98, by kernel_rfl, by kernel_rfl⟩, fun l obs v h ho w O cl hf hc => ?_⟩
  (unfold tzS at h; split at h; rotate_left; (focus (cases h)); rename_i x; simp only [Option.some.injEq, Prod.mk.injEq] at h; obtain ⟨rfl, rfl⟩ := h; simp only [List.mem_cons, List.not_mem_nil, or_false, forall_eq_or_imp, forall_eq, false_implies, implies_true] at ho)
  subst ho
  obtain ⟨hl, hr⟩ := hc
  match cl, hl with
  | [c], _ =>
    have hc := hr 0 _ _ rfl rfl
    cases hc
    have hcell : w.cell? ⟨5, 15, none⟩ = some (.int .u8 4) := gl_cell hf.2 (List.mem_cons_of_mem _ (List.mem_cons_of_mem _ List.mem_cons_self)) rfl
    refine (tz_walk w hcell).mono fun en w' ⟨he, hw⟩ => ?_
    subst hw
    exact ⟨_, he, Ext.refl _ _, .int _ _⟩
end Go.Proofs.YtblloaajiaoblaaDoor

