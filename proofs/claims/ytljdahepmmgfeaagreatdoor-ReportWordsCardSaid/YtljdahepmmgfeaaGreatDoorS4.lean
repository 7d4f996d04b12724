/- Texts laid together. No condition. -/
import Derived.Test.YtljdahepmmgfeaaGreatDoorS3
set_option maxRecDepth 100000
set_option linter.unusedVariables false
set_option linter.unusedSimpArgs false
namespace Go.Proofs.YtljdahepmmgfeaaGreatDoor
open Go Go.RowKit
set_option maxHeartbeats 4000000
theorem lowV_snoc : ∀ (l : List Int) (x : Int), lowV (l ++ [x]) = lowV l + x * 256 ^ l.length
  | [], x => by simp [lowV]
  | d :: l, x => by
    rw [List.cons_append, lowV, lowV, lowV_snoc l x, List.length_cons, Int.pow_succ]
    rw [Int.mul_add, Int.mul_comm (256 ^ l.length) 256, ← Int.mul_assoc, ← Int.mul_assoc, Int.mul_comm 256 x]
    omega
theorem or_put {a v : Int} {i : Nat} (hi : i < 4) (h0 : 0 ≤ a) (h1 : a < 256 ^ i) (h2 : 0 ≤ v) (h3 : v ≤ 255) :
    IntKind.u32.wrap (BitVec.ofInt IntKind.u32.bits a ||| BitVec.ofInt IntKind.u32.bits (IntKind.u32.wrap (v * 2 ^ min (8 * (i : Int)).toNat IntKind.u32.bits))).toNat = a + v * 256 ^ i := by
  obtain ⟨n, rfl⟩ := Int.eq_ofNat_of_zero_le h0
  obtain ⟨m, rfl⟩ := Int.eq_ofNat_of_zero_le h2
  have hm : m < 256 := by omega
  have e8 : (8 * (i : Int)).toNat = 8 * i := by omega
  have hb : IntKind.u32.bits = 32 := rfl
  have p0 : (256 : Int) ^ i = 2 ^ (8 * i) := by rw [Int.pow_mul]; rfl
  have p1 : (256 : Nat) ^ i = 2 ^ (8 * i) := by rw [Nat.pow_mul]
  have hn : n < 2 ^ (8 * i) := by
    rw [p0] at h1
    exact_mod_cast h1
  have hP : 2 ^ (8 * i) ≤ 2 ^ 24 := Nat.pow_le_pow_right (by omega) (by omega)
  have hQ : m * 2 ^ (8 * i) ≤ 255 * 2 ^ (8 * i) := Nat.mul_le_mul_right _ (by omega)
  have hR : (2 : Nat) ^ 24 = 16777216 := rfl
  have hM : m * 2 ^ (8 * i) < 4294967296 := by omega
  have hS : n + m * 2 ^ (8 * i) < 4294967296 := by omega
  rw [e8, hb, Nat.min_eq_left (by omega), p0]
  have w1 : IntKind.u32.wrap ((m : Int) * 2 ^ (8 * i)) = ((m * 2 ^ (8 * i) : Nat) : Int) := by
    have h : (m : Int) * 2 ^ (8 * i) = ((m * 2 ^ (8 * i) : Nat) : Int) := by push_cast; rfl
    rw [h]; exact u32_id (Int.natCast_nonneg _) (Int.ofNat_lt.2 hM)
  rw [w1]
  have b1 : BitVec.ofInt 32 (n : Int) = BitVec.ofNat 32 n := rfl
  have b2 : BitVec.ofInt 32 ((m * 2 ^ (8 * i) : Nat) : Int) = BitVec.ofNat 32 (m * 2 ^ (8 * i)) := rfl
  rw [b1, b2, BitVec.toNat_or, BitVec.toNat_ofNat, BitVec.toNat_ofNat, Nat.mod_eq_of_lt (show n < 2 ^ 32 by omega), Nat.mod_eq_of_lt (show m * 2 ^ (8 * i) < 2 ^ 32 by omega)]
  have e : n ||| m * 2 ^ (8 * i) = n + m * 2 ^ (8 * i) := by
    rw [← Nat.shiftLeft_eq, Nat.or_comm, ← Nat.shiftLeft_add_eq_or_of_lt hn, Nat.add_comm]
  rw [e, u32_id (Int.natCast_nonneg _) (Int.ofNat_lt.2 hS)]
  push_cast; rfl
def clowF : FSpec := fun l es => match l, es with
  | [.ptr 0 0, .int .i64 k], [.cells 120 [.sl 1 1 0 n, .int .i64 a], .ints 5 .u8 b] =>
    some ([n = b.length, 0 ≤ a, a ≤ b.length, b.length ≤ 140737488355328, ∀ i, 0 ≤ b.getD i 0 ∧ b.getD i 0 ≤ 255], .tup [.int .u32 (if lowC k (cR b a).length = 0 then lowV ((cR b a).take k.toNat) else 0), .int .i64 (lowC k (cR b a).length)], [some (cutE n (a + if lowC k (cR b a).length = 0 then k else 0)), some (bE b)])
  | _, _ => none
theorem clow_g : GSOK Tryz.prog 91 (fG clowF) := by
  refine fok (S := []) (G := glook [(53, fG takeF)]) pok_nil (gl_cons take_g gl_nil) ⟨Tryz.func91, by kernel_rfl, by kernel_rfl, by kernel_rfl⟩ fun l es obs v es' h ho => ?_
  (unfold clowF at h; split at h; rotate_left; (focus (cases h)); rename_i k n a b; simp only [Option.some.injEq, Prod.mk.injEq] at h; obtain ⟨rfl, rfl, rfl⟩ := h; simp only [List.mem_cons, List.not_mem_nil, or_false, forall_eq_or_imp, forall_eq, false_implies, implies_true] at ho)
  obtain ⟨rfl, ho1, ho2, ho3, ho4⟩ := ho
  refine ⟨Nat.le_of_ble_eq_true rfl, ?_⟩
  have el : (cR b a).length = b.length - a.toNat := by simp
  by_cases k1 : k < 1
  · have e : lowC k (cR b a).length = 10 := if_pos (Or.inl k1)
    rw [e]
    (repeat' (first | (refine xI (fun hfk => ?_) (fun hfk => ?_) <;> ((try (first | replace hfk := oT hfk | replace hfk := oF hfk | simp only [oA, oB, dh1, dh0, ne_eq, reduceCtorEq] at hfk)); (try exact oX))) | (refine And.intro ?ob ?_; (case ob => (exact oZ))) | exact True.intro | (show _ = _; first | exact oY | (skip; done) | exact rfl) | exact oW | (apply And.intro)))
    refine ⟨[some 0, some 1], ?_⟩
    (repeat' (first | (refine xI (fun hfk => ?_) (fun hfk => ?_) <;> ((try (first | replace hfk := oT hfk | replace hfk := oF hfk | simp only [oA, oB, dh1, dh0, ne_eq, reduceCtorEq] at hfk)); (try exact oX))) | (refine And.intro ?ob ?_; (case ob => (exact oZ))) | exact True.intro | (show _ = _; first | exact oY | (first | rfl | (show (_ : Int) = _; omega); done) | exact rfl) | exact oW | (apply And.intro)))
  by_cases k2 : 4 < k
  · have e : lowC k (cR b a).length = 10 := if_pos (Or.inr k2)
    rw [e]
    (repeat' (first | (refine xI (fun hfk => ?_) (fun hfk => ?_) <;> ((try (first | replace hfk := oT hfk | replace hfk := oF hfk | simp only [oA, oB, dh1, dh0, ne_eq, reduceCtorEq] at hfk)); (try exact oX))) | (refine And.intro ?ob ?_; (case ob => (exact oZ))) | exact True.intro | (show _ = _; first | exact oY | (skip; done) | exact rfl) | exact oW | (apply And.intro)))
    refine ⟨[some 0, some 1], ?_⟩
    (repeat' (first | (refine xI (fun hfk => ?_) (fun hfk => ?_) <;> ((try (first | replace hfk := oT hfk | replace hfk := oF hfk | simp only [oA, oB, dh1, dh0, ne_eq, reduceCtorEq] at hfk)); (try exact oX))) | (refine And.intro ?ob ?_; (case ob => (exact oZ))) | exact True.intro | (show _ = _; first | exact oY | (first | rfl | (show (_ : Int) = _; omega); done) | exact rfl) | exact oW | (apply And.intro)))
  by_cases k3 : ((cR b a).length : Int) < k
  · have e : lowC k (cR b a).length = 20 := by unfold lowC; rw [if_neg (by omega), if_pos k3]
    have t0 : takeC ((b.length : Int) - a) k = 20 := by unfold takeC; rw [if_neg (by omega), if_pos (by omega)]
    have t1 : takeL (cR b a) k = [] := by unfold takeL takeC; rw [if_neg (by omega : ¬ k < 0), if_pos k3, if_neg (by decide)]
    have t2 : ((takeL (cR b a) k).length : Int) = 0 := by rw [t1]; rfl
    rw [e]
    (repeat' (first | (refine xI (fun hfk => ?_) (fun hfk => ?_) <;> ((try (first | replace hfk := oT hfk | replace hfk := oF hfk | simp only [oA, oB, dh1, dh0, ne_eq, reduceCtorEq] at hfk)); (try exact oX))) | (refine And.intro ?ob ?_; (case ob => (exact oZ))) | exact True.intro | (show _ = _; first | exact oY | (skip; done) | exact rfl) | exact oW | (apply And.intro)))
    (refine ⟨[0, 1], ⟨by kernel_rfl⟩, ?_⟩)
    (repeat' (first | (refine xI (fun hfk => ?_) (fun hfk => ?_) <;> ((try (first | replace hfk := oT hfk | replace hfk := oF hfk | simp only [oA, oB, dh1, dh0, ne_eq, reduceCtorEq] at hfk)); (try exact oX))) | (refine And.intro ?ob ?_; (case ob => (exact oZ))) | exact True.intro | (show _ = _; first | exact oY | (skip; done) | exact rfl) | exact oW | (apply And.intro)))
    refine ⟨[some 0, some 1], ?_⟩
    (repeat' (first | (refine xI (fun hfk => ?_) (fun hfk => ?_) <;> ((try (first | replace hfk := oT hfk | replace hfk := oF hfk | simp only [oA, oB, dh1, dh0, ne_eq, reduceCtorEq] at hfk)); (try exact oX))) | (refine And.intro ?ob ?_; (case ob => (exact oZ))) | exact True.intro | (show _ = _; first | exact oY | (first | rfl | (show (_ : Int) = _; omega); done) | exact rfl) | exact oW | (apply And.intro)))
  have e : lowC k (cR b a).length = 0 := by unfold lowC; rw [if_neg (by omega), if_neg k3]
  have t0 : takeC ((b.length : Int) - a) k = 0 := by unfold takeC; rw [if_neg (by omega), if_neg (by omega)]
  have t1 : takeL (cR b a) k = (cR b a).take k.toNat := by unfold takeL takeC; rw [if_neg (by omega : ¬ k < 0), if_neg k3, if_pos rfl]
  obtain ⟨L, hL⟩ : ∃ L, takeL (cR b a) k = L := ⟨_, rfl⟩
  have hLl : L.length = k.toNat := by rw [← hL, t1, List.length_take]; omega
  have hLi : (L.length : Int) = k := by omega
  have hLe : (takeL (cR b a) k).length = L.length := congrArg List.length hL
  have hLf : ((takeL (cR b a) k).length : Int) = L.length := by rw [hLe]
  have hM : ∀ j, 0 ≤ L.getD j 0 ∧ L.getD j 0 ≤ 255 := by
    intro j
    rw [← hL, t1]
    by_cases hj : j < k.toNat
    · have := cR_get (b := b) (a := a) (i := j) (by omega)
      rw [take_getD hj, ← this]; exact ho4 _
    · have : ((cR b a).take k.toNat).length ≤ j := by rw [List.length_take]; omega
      rw [List.getD, List.getElem?_eq_none this]; exact ⟨Int.le_refl _, by decide⟩
  have hMm : ∀ x ∈ L, 0 ≤ x ∧ x ≤ 255 := fun x hx => by
    obtain ⟨j, hj, rfl⟩ := List.getElem_of_mem hx
    have := hM j
    rwa [List.getD, List.getElem?_eq_getElem hj] at this
  rw [e, if_pos rfl, if_pos rfl, ← t1, hL]
  (repeat' (first | (refine xI (fun hfk => ?_) (fun hfk => ?_) <;> ((try (first | replace hfk := oT hfk | replace hfk := oF hfk | simp only [oA, oB, dh1, dh0, ne_eq, reduceCtorEq] at hfk)); (try exact oX))) | (refine And.intro ?ob ?_; (case ob => (exact oZ))) | exact True.intro | (show _ = _; first | exact oY | (skip; done) | exact rfl) | exact oW | (apply And.intro)))
  (refine ⟨[0, 1], ⟨by kernel_rfl⟩, ?_⟩)
  (repeat' (first | (refine xI (fun hfk => ?_) (fun hfk => ?_) <;> ((try (first | replace hfk := oT hfk | replace hfk := oF hfk | simp only [oA, oB, dh1, dh0, ne_eq, reduceCtorEq] at hfk)); (try exact oX))) | (refine And.intro ?ob ?_; (case ob => (exact oZ))) | exact True.intro | (show _ = _; first | exact oY | (skip; done) | exact rfl) | exact oW | (apply And.intro)))
  refine ⟨Nat, fun i => [(0, .ptr 0 0), (1, .int .i64 k), (8, .int .u32 (lowV (L.take i))), (26, .sl 2 1 0 L.length), (27, .int .i64 (L.length : Int)), (28, .int .i64 (i : Int))],
    fun i => ⟨3, [(0, some (cutE b.length (a + k))), (1, some (bE b)), (2, some (bE L))]⟩,
    fun i => i ≤ L.length, fun i => L.length - i, ⟨0, [some 0, some 1, some 2], Nat.zero_le _, ?_⟩, fun i hi => ?_⟩
  · (repeat' (first | (refine And.intro ?_ ?_) | exact True.intro | (show _ = _; with_reducible rfl) | exact Chk.mk (by kernel_rfl)))
    all_goals first | exact hL | exact hLe | exact hLf | rfl | (show (_ : Int) = _; omega)
  have hi : i ≤ L.length := hi
  by_cases hlt : i < L.length
  · have ri : rngI .i64 ((i : Int) + 1) := rng64 (by omega) (by omega)
    have r8 : rngI .i64 (8 * (i : Int)) := rng64 (by omega) (by omega)
    have gm := hM (0 + (i : Int).toNat)
    have gi := hM i
    obtain ⟨a0, a1⟩ := lowV_bd (l := L.take i) fun x hx => hMm x (List.mem_of_mem_take hx)
    rw [List.length_take, Nat.min_eq_left (by omega)] at a1
    have w8 : IntKind.u64.wrap (8 * (i : Int)) = 8 * (i : Int) := w64 (by omega) (by omega)
    have wv : IntKind.u32.wrap (L.getD (0 + (i : Int).toNat) 0) = L.getD i 0 := by
      rw [show 0 + (i : Int).toNat = i by omega]; exact u32_id (by omega) (by omega)
    have st : IntKind.u32.wrap (BitVec.ofInt IntKind.u32.bits (lowV (L.take i)) ||| BitVec.ofInt IntKind.u32.bits (IntKind.u32.wrap (IntKind.u32.wrap (L.getD (0 + (i : Int).toNat) 0) * 2 ^ min (IntKind.u64.wrap (8 * (i : Int))).toNat IntKind.u32.bits))).toNat = lowV (L.take (i + 1)) := by
      rw [w8, wv, or_put (by omega) a0 a1 gi.1 gi.2, take_succ' hlt, lowV_snoc, List.length_take, Nat.min_eq_left (by omega)]
    have sh : 0 ≤ IntKind.u64.wrap (8 * (i : Int)) := by rw [w8]; omega
    (repeat' (first | (refine xI (fun hfk => ?_) (fun hfk => ?_) <;> ((try (first | replace hfk := oT hfk | replace hfk := oF hfk | simp only [oA, oB, dh1, dh0, ne_eq, reduceCtorEq] at hfk)); (try exact oX))) | (refine And.intro ?ob ?_; (case ob => (exact oZ))) | exact True.intro | (show _ = _; first | exact oY | (skip; done) | exact rfl) | exact oW | (apply And.intro)))
    (refine ⟨i + 1, [some 0, some 1, some 2], ?_, ?mu, ?_⟩; (case mu => ((try dsimp only); omega)))
    · exact hlt
    (repeat' (first | (refine And.intro ?_ ?_) | exact True.intro | (show _ = _; with_reducible rfl) | exact Chk.mk (by kernel_rfl)))
    all_goals first | rfl | exact st | (show (_ : Int) = _; omega)
  · have eL : lowV (L.take i) = lowV L := by rw [List.take_of_length_le (by omega)]
    (repeat' (first | (refine xI (fun hfk => ?_) (fun hfk => ?_) <;> ((try (first | replace hfk := oT hfk | replace hfk := oF hfk | simp only [oA, oB, dh1, dh0, ne_eq, reduceCtorEq] at hfk)); (try exact oX))) | (refine And.intro ?ob ?_; (case ob => (exact oZ))) | exact True.intro | (show _ = _; first | exact oY | (skip; done) | exact rfl) | exact oW | (apply And.intro)))
    refine ⟨[some 0, some 1], ?_⟩
    (repeat' (first | (refine xI (fun hfk => ?_) (fun hfk => ?_) <;> ((try (first | replace hfk := oT hfk | replace hfk := oF hfk | simp only [oA, oB, dh1, dh0, ne_eq, reduceCtorEq] at hfk)); (try exact oX))) | (refine And.intro ?ob ?_; (case ob => (exact oZ))) | exact True.intro | (show _ = _; first | exact oY | (first | exact eL | rfl | (show (_ : Int) = _; omega); done) | exact rfl) | exact oW | (apply And.intro)))
end Go.Proofs.YtljdahepmmgfeaaGreatDoor
namespace Go.Proofs.YtljdahepmmgfeaaGreatDoor
open Go Go.RowKit
set_option maxHeartbeats 4000000
theorem low_rng {b : List Int} (hb : ∀ i, 0 ≤ b.getD i 0 ∧ b.getD i 0 ≤ 255) {n : Int} (hn : n ≤ 4) : 0 ≤ lowV (b.take n.toNat) ∧ lowV (b.take n.toNat) < 4294967296 := by
  have hm : ∀ x ∈ b.take n.toNat, 0 ≤ x ∧ x ≤ 255 := fun x hx => by
    obtain ⟨j, hj, rfl⟩ := List.getElem_of_mem (List.mem_of_mem_take hx)
    have := hb j
    rwa [List.getD, List.getElem?_eq_getElem hj] at this
  obtain ⟨h1, h2⟩ := lowV_bd hm
  have := p256 (L := (b.take n.toNat).length) (by rw [List.length_take]; omega)
  omega
end Go.Proofs.YtljdahepmmgfeaaGreatDoor
namespace Go.Proofs.YtljdahepmmgfeaaGreatDoor
open Go Go.RowKit
attribute [local go_sem] Oper.semAt_some
section
variable {P : Program} {R R' : PN} {w W : World} {F Ob : Nat → Prop} {W0 : World} {H : AH} {O O' : Nat → Prop}
theorem kw_cells {cap : List AV} (h : KWof cap H R R' O' W) {i b : Nat} {t : TypeId} {l : List AV} (hi : H.get i = some (.cells t l)) (hm : i ∈ nmsL cap) (hR : R[i]? = some (some b)) :
    ∀ j x, l[j]? = some x → ∃ v, W.cell? ⟨b, j, none⟩ = some v ∧ v.oneCell' = true ∧ Rep R' W O' x v := by
  obtain ⟨hRR, F', Ob', W0', H', hH, rfl, hs⟩ := h
  have hi' : H'.get i = some (.cells t l) := by
    have key : ∀ l : List Nat, i ∈ l → sameE l H H' → H'.get i = H.get i := by
      intro l
      induction l with
      | nil => intro h; cases h
      | cons a l ih =>
        intro h ⟨k1, k2⟩
        rcases List.mem_cons.1 h with rfl | h
        · exact k1
        · exact ih h k2
    rw [key _ hm hs, hi]
  obtain ⟨b', h1, h2⟩ := hH.ent i _ hi'
  rw [hRR i _ hR] at h1
  cases h1
  obtain ⟨vs, fr, h3, h4, h5, h6⟩ := h2
  intro j x hj
  have hlt : j < vs.length := by rw [← h5]; exact (List.getElem?_eq_some_iff.1 hj).1
  obtain ⟨k1, k2⟩ := h6 j x vs[j] hj (by simp [hlt])
  exact ⟨vs[j], by simp [World.cell?, h3, hlt], k1, k2⟩
def Pieces (R : PN) (W : World) (O : Nat → Prop) (pc : Nat → Nat → AV) (m : Nat) (sv : Value) : Prop :=
  (m = 0 ∧ ∃ A c, sv = .slice A 0 c) ∨ ∃ b off c, sv = .slice (some ⟨b, off, none⟩) m c ∧ m ≤ c ∧ c ≤ maxLen ∧ ∀ lo hi, lo ≤ hi → hi ≤ m → Rep R W O (pc lo (hi - lo)) (.slice (some ⟨b, off + lo, none⟩) (hi - lo) (hi - lo))
theorem pieces_roi {k : IntKind} {l : List Int} {v : Value} (h : Rep R W O (.roi k l) v) : Pieces R W O (fun lo n => .roi k ((l.drop lo).take n)) l.length v := by
  cases h with
  | roinil => exact .inl ⟨rfl, none, 0, rfl⟩
  | roiz _ a c hc => exact .inl ⟨rfl, _, _, rfl⟩
  | roi _ _ b off c hn hc hO hb hcell =>
    refine .inr ⟨b, off, c, rfl, hn, hc, fun lo hi h1 h2 => ?_⟩
    have hl : ((l.drop lo).take (hi - lo)).length = hi - lo := by simp; omega
    have := Rep.roi (R := R) (w := W) (O := O) k ((l.drop lo).take (hi - lo)) b (off + lo) (hi - lo) (by omega) (by omega) hO hb (fun j x hj => by
      have hj1 : j < hi - lo := by have := (List.getElem?_eq_some_iff.1 hj).1; omega
      rw [List.getElem?_take_of_lt hj1, List.getElem?_drop] at hj
      rw [Nat.add_assoc]
      exact hcell _ x hj)
    rw [hl] at this
    exact this
theorem pieces_sl {i o m : Nat} {v : Value} (h : Rep R W O (.sl i 1 o m) v) : Pieces R W O (fun lo n => .sl i 1 (o + lo) n) m v := by
  cases h with
  | slnil _ _ _ h => exact .inl ⟨rfl, none, 0, rfl⟩
  | sl _ _ _ _ b c off s h hn hc ho hs hl =>
    by_cases hm : m = 0
    · subst hm; exact .inl ⟨rfl, _, _, rfl⟩
    · refine .inr ⟨b, off, c, rfl, hn, hc, fun lo hi h1 h2 => ?_⟩
      have := ho (by omega)
      exact .sl i 1 (o + lo) (hi - lo) b (hi - lo) (off + lo) s h (Nat.le_refl _) (by omega) (fun _ => by omega) hs (by omega)
end
set_option maxRecDepth 100000 in
set_option maxHeartbeats 4000000 in
theorem chunk1_in (l b1 b2 m : Nat) (n : Int) (hn : 1 ≤ n) (hm : (m : Int) + n ≤ 9223372036854775807) (pc : Nat → Nat → AV) (J : Nat → PN → (Nat → Prop) → World → Prop) (Jx : World → Prop) (d : Nat)
    (hq : ∀ k R O w w', J k R O w → Ext NoO w w' → J k R O w')
    (hkw : ∀ k R O W, J k R O W → ∃ sv, W.cell? ⟨b1, 0, none⟩ = some sv ∧ Pieces R W O pc m sv ∧ W.cell? ⟨b2, 0, none⟩ = some (.int .i64 n))
    (hY : ∀ k R O W (args : List Value), k * n.toNat < m → J k R O W → CRel R W O [pc (k * n.toNat) (min n.toNat (m - k * n.toNat))] args → YieldAt Fence.wide d Tryz.prog l args.toArray W fun e W' => (e = .returned (.bool true) ∧ ∃ R' O', J (k + 1) R' O' W') ∨ (e = .returned (.bool false) ∧ Jx W'))
    (W : World) (h0 : ∃ R O, J 0 R O W) :
    CallsIn Fence.wide (d + 1) Tryz.prog 118 #[.func (.yield l) #[] #[], .pointer (some ⟨b1, 0, none⟩), .pointer (some ⟨b2, 0, none⟩)] W fun e W' => (∃ v, e = .returned v) ∧ ((∃ k R O, m ≤ k * n.toNat ∧ (k = 0 ∨ (k - 1) * n.toNat < m) ∧ J k R O W') ∨ Jx W') := by
  refine callsIn_of_wp Tryz.func118 rfl trivial ?_ rfl
  simp only [Tryz.ntmps118, List.size_toArray, List.length_cons, List.length_nil, Nat.reduceAdd, Nat.reduceSub, Array.replicate_succ, Array.replicate_zero, List.push_toArray, List.append_toArray, List.nil_append, List.cons_append]
  obtain ⟨R0, O0, h0⟩ := h0
  gi_wp2
  gi_loopw [4] (fun i wr => ∃ (k : Nat) (R : PN) (O : Nat → Prop), (k = 0 ∨ (k - 1) * n.toNat < m) ∧ i = .int .i64 ((k * n.toNat : Nat) : Int) ∧ J k R O wr)
    (fun i _ => m + n.toNat - (intOf i).toNat)
  case atStart => exact ⟨0, R0, O0, .inl rfl, by simp, h0⟩
  case round =>
    obtain ⟨k, R, O, hk, rfl, hJ⟩ := hrel
    obtain ⟨sv, hc1, hpc, hc2⟩ := hkw k R O wr hJ
    generalize hK : k * n.toNat = K at *
    by_cases hlt : K < m
    · rcases hpc with ⟨rfl, _⟩ | ⟨b, off, c, rfl, hmc, hcm, hpc⟩
      · omega
      have hY' := hY k R O wr.drew
      rw [hK] at hY'
      by_cases hcase : n ≤ ((m - K : Nat) : Int)
      · obtain ⟨fn, tmps, assign, body, hy, hR⟩ := hY' [.slice (some ⟨b, off + K, none⟩) (((K : Int) + n).toNat - K) (((K : Int) + n).toNat - K)] hlt (hq _ _ _ _ _ hJ (Ext.drew _ _)) (by
          have e : min n.toNat (m - K) = ((K : Int) + n).toNat - K := by omega
          rw [e]
          exact crel_cons ((hpc K ((K : Int) + n).toNat (by omega) (by omega)).mono (fun _ _ k => k) (Ext.drew O _) (fun _ _ k => k)) crel_nil)
        gi_wp2
        gi_region
        all_goals gi_wp2
        all_goals first
          | (exfalso; omega)
          | skip
        refine hR.mono ?_
        rintro e W3 (⟨rfl, R', O', hJ3⟩ | ⟨rfl, hJx3⟩)
        · obtain ⟨sv', hc1', _, hc2'⟩ := hkw (k + 1) R' O' W3 hJ3
          gi_wp2
          go_roundw
          case rel =>
            refine ⟨k + 1, R', O', .inr (by rw [Nat.add_sub_cancel, hK]; exact hlt), ?_, hJ3⟩
            rw [Nat.add_mul, hK, Nat.one_mul]
            congr 1
            omega
          case measure => simp [intOf]; omega
        · gi_wp2
          refine ⟨rfl, _, results_none rfl _ _ _, ⟨_, rfl⟩, .inr hJx3⟩
      · obtain ⟨fn, tmps, assign, body, hy, hR⟩ := hY' [.slice (some ⟨b, off + K, none⟩) (m - K) (m - K)] hlt (hq _ _ _ _ _ hJ (Ext.drew _ _)) (by
          have e : min n.toNat (m - K) = m - K := by omega
          rw [e]
          exact crel_cons ((hpc K m (by omega) (by omega)).mono (fun _ _ k => k) (Ext.drew O _) (fun _ _ k => k)) crel_nil)
        gi_wp2
        gi_region
        all_goals gi_wp2
        all_goals first
          | (exfalso; omega)
          | skip
        refine hR.mono ?_
        rintro e W3 (⟨rfl, R', O', hJ3⟩ | ⟨rfl, hJx3⟩)
        · obtain ⟨sv', hc1', _, hc2'⟩ := hkw (k + 1) R' O' W3 hJ3
          gi_wp2
          go_roundw
          case rel =>
            refine ⟨k + 1, R', O', .inr (by rw [Nat.add_sub_cancel, hK]; exact hlt), ?_, hJ3⟩
            rw [Nat.add_mul, hK, Nat.one_mul]
            congr 1
            omega
          case measure => simp [intOf]; omega
        · gi_wp2
          refine ⟨rfl, _, results_none rfl _ _ _, ⟨_, rfl⟩, .inr hJx3⟩
    · rcases hpc with ⟨rfl, A, c, rfl⟩ | ⟨b, off, c, rfl, hmc, hcm, hpc⟩
      · gi_wp2
        exact ⟨rfl, _, results_none rfl _ _ _, ⟨_, rfl⟩, .inl ⟨k, R, O, by omega, by rw [hK] at *; exact hk, hJ⟩⟩
      · gi_wp2
        exact ⟨rfl, _, results_none rfl _ _ _, ⟨_, rfl⟩, .inl ⟨k, R, O, by omega, hk, hJ⟩⟩
theorem ceil_lt {k n m : Nat} (hn : 0 < n) (h : k * n < m) : k < (m + n - 1) / n := by
  have : k + 1 ≤ (m + n - 1) / n := (Nat.le_div_iff_mul_le hn).2 (by rw [Nat.add_mul]; omega)
  omega
theorem ceil_eq {k n m : Nat} (hn : 0 < n) (h1 : m ≤ k * n) (h2 : k = 0 ∨ (k - 1) * n < m) : k = (m + n - 1) / n := by
  have a : ¬ (k < (m + n - 1) / n) := fun h => by
    have := (Nat.le_div_iff_mul_le hn).1 (Nat.succ_le_of_lt h)
    rw [Nat.succ_mul] at this
    omega
  rcases h2 with rfl | h2
  · exact (Nat.eq_zero_of_not_pos a).symm
  · have := ceil_lt hn h2
    omega
theorem take_min (l : List Int) (n : Nat) : l.take (min n l.length) = l.take n := by
  rcases Nat.le_total n l.length with h | h
  · rw [Nat.min_eq_left h]
  · rw [Nat.min_eq_right h, List.take_of_length_le (Nat.le_refl _), List.take_of_length_le h]
def chunkRS : RSpec := fun cap H => match cap with
  | [.ptr i 0, .ptr j 0] => (match H.get i, H.get j with
    | some (.cells _ [.roi k l]), some (.cells _ [.int .i64 n]) => some ([1 ≤ n, (l.length : Int) + n ≤ 9223372036854775807], (l.length + n.toNat - 1) / n.toNat, fun q => [.roi k ((l.drop (q * n.toNat)).take n.toNat)])
    | some (.cells _ [.sl a 1 o m]), some (.cells _ [.int .i64 n]) => some ([1 ≤ n, (m : Int) + n ≤ 9223372036854775807], (m + n.toNat - 1) / n.toNat, fun q => [.sl a 1 (o + q * n.toNat) (min n.toNat (m - q * n.toNat))])
    | _, _ => none)
  | _ => none
theorem chunk_core {i j : Nat} {x : AV} {n : Int} {m : Nat} {pc : Nat → Nat → AV} {H : AH} {t1 t2 : TypeId} (hi : H.get i = some (.cells t1 [x])) (hj : H.get j = some (.cells t2 [.int .i64 n])) (hn : 1 ≤ n) (hm : (m : Int) + n ≤ 9223372036854775807)
    (hpc : ∀ (R : PN) (W : World) (O : Nat → Prop) (v : Value), Rep R W O x v → Pieces R W O pc m v) {R : PN} {w : World} {O : Nat → Prop} {lb : List Value} (hc : CRel R w O [.ptr i 0, .ptr j 0] lb) {items : Nat → List AV} (hit : ∀ q, items q = [pc (q * n.toNat) (min n.toNat (m - q * n.toNat))]) :
    IterOK Tryz.prog 118 lb.toArray ((m + n.toNat - 1) / n.toNat) items (KWof [.ptr i 0, .ptr j 0] H R) := by
  intro d l J Jx W hq hqx hkw hY h0
  have e1 := hc.1
  obtain ⟨v1, v2, rfl⟩ : ∃ v1 v2, lb = [v1, v2] := by match lb, e1 with | [a, b], _ => exact ⟨a, b, rfl⟩
  have r1 := hc.2 0 _ v1 rfl rfl
  have r2 := hc.2 1 _ v2 rfl rfl
  cases r1 with
  | ptr _ _ b1 hb1 =>
  cases r2 with
  | ptr _ _ b2 hb2 =>
  refine (chunk1_in l b1 b2 m n hn hm pc J Jx d hq (fun k R' O' W' hJ => ?_) (fun k R' O' W' args hk hJ ha => ?_) W h0).mono ?_
  · have kw := hkw k R' O' W' hJ
    obtain ⟨v, k1, k2, k3⟩ := kw_cells kw hi (by simp [nmsL, nms0]) hb1 0 x rfl
    obtain ⟨u, q1, q2, q3⟩ := kw_cells kw hj (by simp [nmsL, nms0]) hb2 0 (.int .i64 n) rfl
    cases q3
    exact ⟨v, k1, hpc _ _ _ _ k3, q1⟩
  · exact hY k R' O' W' args (ceil_lt (by omega) hk) hJ (by rw [hit]; exact ha)
  · rintro e W' ⟨hv, ⟨k, R', O', h1, h2, h3⟩ | h⟩
    · have := ceil_eq (by omega) h1 h2
      subst this
      exact ⟨hv, .inl ⟨R', O', h3⟩⟩
    · exact ⟨hv, .inr h⟩
theorem chunk_it : RSOK Tryz.prog 118 chunkRS := by
  refine ⟨⟨_, Tryz.func118, by kernel_rfl, by kernel_rfl⟩, fun cap H obs N items hs ho F Ob W0 R w lb hH hc => ?_⟩
  unfold chunkRS at hs
  split at hs
  · split at hs
    · rename_i hi hj
      simp only [Option.some.injEq, Prod.mk.injEq] at hs
      obtain ⟨rfl, rfl, rfl⟩ := hs
      refine chunk_core (pc := fun lo n => .roi _ ((List.drop lo _).take n)) hi hj (ho _ (by simp)) (ho _ (by simp)) (fun R W O v h => pieces_roi h) hc (fun q => ?_)
      rw [← List.length_drop, take_min]
    · rename_i hi hj
      simp only [Option.some.injEq, Prod.mk.injEq] at hs
      obtain ⟨rfl, rfl, rfl⟩ := hs
      exact chunk_core hi hj (ho _ (by simp)) (ho _ (by simp)) (fun R W O v h => pieces_sl h) hc (fun q => rfl)
    · cases hs
  · cases hs
end Go.Proofs.YtljdahepmmgfeaaGreatDoor
namespace Go.Proofs.YtljdahepmmgfeaaGreatDoor
open Go Go.RowKit
def rlook : List (FuncId × RSpec) → FuncId → Option RSpec
  | [], _ => none
  | (g, s) :: r, f => bif Nat.beq g f then some s else rlook r f
theorem rl_nil : ∀ g s, rlook [] g = some s → RSOK Tryz.prog g s := fun g s h => by cases h
theorem rl_cons {g : FuncId} {s : RSpec} {r : List (FuncId × RSpec)} (h : RSOK Tryz.prog g s) (k : ∀ g s, rlook r g = some s → RSOK Tryz.prog g s) : ∀ f t, rlook ((g, s) :: r) f = some t → RSOK Tryz.prog f t := fun f t ht => by
  unfold rlook at ht
  cases hb : Nat.beq g f
  · rw [hb] at ht; exact k f t ht
  · rw [hb] at ht
    cases ht
    have := beq_iff.1 hb
    subst this
    exact h
theorem fokR {S : List (FuncId × PSpec)} {G : FuncId → Option GSpec} {RT : FuncId → Option RSpec} (cuts : List Nat) (hS : POK Tryz.prog (slook S)) (hG : ∀ g s, G g = some s → GSOK Tryz.prog g s) (hRT : ∀ g s, RT g = some s → RSOK Tryz.prog g s) {g : FuncId} {fn : Func} (hf : FnOK Tryz.prog g fn) (hr : (match fn.body with | some c => rgB fn.ntmps c | none => false) = true) {FS : FSpec}
    (h : ∀ l es obs v es', FS l es = some (obs, v, es') → (∀ p ∈ obs, p) → l.length ≤ fn.ntmps ∧ vcFnR (mkK es.length S G cuts) RT fn l ⟨es.length, num 0 (es.map some)⟩ (RetF es.length v es')) : GSOK Tryz.prog g (fG FS) :=
  fok_snd hf fun l es obs v es' hF hob => by
    obtain ⟨h1, h2⟩ := h _ _ _ _ _ hF hob
    exact snd_ofR (mkK_ok hS hG) hRT mixed hf hr h1 h2
def chunkF : FSpec := fun l es => match l, es with
  | [.roi .u8 p, .int .i64 n], [] => some ([1 ≤ n], .fn 118 0 [.ptr 0 0, .ptr 1 0], [some (.cells 22 [.roi .u8 p]), some (.cells 3 [.int .i64 n])])
  | [.sl 0 1 o m, .int .i64 n], [.ints 5 .u8 p] => some ([1 ≤ n], .fn 118 0 [.ptr 1 0, .ptr 2 0], [some (.ints 5 .u8 p), some (.cells 22 [.sl 0 1 o m]), some (.cells 3 [.int .i64 n])])
  | _, _ => none
theorem chunk_g : GSOK Tryz.prog 93 (fG chunkF) := by
  refine fok (S := []) (G := noG) pok_nil noG_ok ⟨Tryz.func93, by kernel_rfl, by kernel_rfl, by kernel_rfl⟩ fun l es obs v es' h ho => ?_
  unfold chunkF at h
  split at h
  · rename_i p n
    simp only [Option.some.injEq, Prod.mk.injEq] at h
    obtain ⟨rfl, rfl, rfl⟩ := h
    simp only [List.mem_cons, List.not_mem_nil, or_false, forall_eq] at ho
    refine ⟨Nat.le_of_ble_eq_true rfl, ?_⟩
    (repeat' (first | (refine xI (fun hfk => ?_) (fun hfk => ?_) <;> ((try (first | replace hfk := oT hfk | replace hfk := oF hfk | simp only [oA, oB, dh1, dh0, ne_eq, reduceCtorEq] at hfk)); (try exact oX))) | (refine And.intro ?ob ?_; (case ob => (exact oZ))) | exact True.intro | (show _ = _; first | exact oY | (skip; done) | exact rfl) | exact oW | (apply And.intro)))
    refine ⟨[some 0, some 1], ?_⟩
    (repeat' (first | (refine xI (fun hfk => ?_) (fun hfk => ?_) <;> ((try (first | replace hfk := oT hfk | replace hfk := oF hfk | simp only [oA, oB, dh1, dh0, ne_eq, reduceCtorEq] at hfk)); (try exact oX))) | (refine And.intro ?ob ?_; (case ob => (exact oZ))) | exact True.intro | (show _ = _; first | exact oY | (skip; done) | exact rfl) | exact oW | (apply And.intro)))
  · rename_i o m n p
    simp only [Option.some.injEq, Prod.mk.injEq] at h
    obtain ⟨rfl, rfl, rfl⟩ := h
    simp only [List.mem_cons, List.not_mem_nil, or_false, forall_eq] at ho
    refine ⟨Nat.le_of_ble_eq_true rfl, ?_⟩
    (repeat' (first | (refine xI (fun hfk => ?_) (fun hfk => ?_) <;> ((try (first | replace hfk := oT hfk | replace hfk := oF hfk | simp only [oA, oB, dh1, dh0, ne_eq, reduceCtorEq] at hfk)); (try exact oX))) | (refine And.intro ?ob ?_; (case ob => (exact oZ))) | exact True.intro | (show _ = _; first | exact oY | (skip; done) | exact rfl) | exact oW | (apply And.intro)))
    refine ⟨[some 0, some 1, some 2], ?_⟩
    (repeat' (first | (refine xI (fun hfk => ?_) (fun hfk => ?_) <;> ((try (first | replace hfk := oT hfk | replace hfk := oF hfk | simp only [oA, oB, dh1, dh0, ne_eq, reduceCtorEq] at hfk)); (try exact oX))) | (refine And.intro ?ob ?_; (case ob => (exact oZ))) | exact True.intro | (show _ = _; first | exact oY | (skip; done) | exact rfl) | exact oW | (apply And.intro)))
  · cases h
def swapTo (L : List Int) (o c : Nat) : Nat → List Int
  | 0 => L
  | k + 1 => ((swapTo L o c k).set (o + k * c) ((swapTo L o c k).getD (o + k * c + 2) 0)).set (o + k * c + 2) ((swapTo L o c k).getD (o + k * c) 0)
theorem swapTo_len (L : List Int) (o c : Nat) : ∀ k, (swapTo L o c k).length = L.length
  | 0 => rfl
  | k + 1 => by simp [swapTo, swapTo_len L o c k]
theorem ceil_mul {w c : Nat} (hc : 0 < c) : (w * c + c - 1) / c = w := by
  rw [show w * c + c - 1 = (c - 1) + c * w by rw [Nat.mul_comm]; omega, Nat.add_mul_div_left _ _ hc, Nat.div_eq_of_lt (by omega), Nat.zero_add]
def turnF : FSpec := fun l es => match l, es with
  | [.sl 0 1 o m, .int .i64 c], [.ints 5 .u8 L] => some ([3 ≤ c, m = (m / c.toNat) * c.toNat, o + m ≤ L.length, (m : Int) + c ≤ 9223372036854775807], .tup [], [some (.ints 5 .u8 (swapTo L o c.toNat (m / c.toNat)))])
  | _, _ => none
theorem turn_g : GSOK Tryz.prog 60 (fG turnF) := by
  refine fokR (S := []) (G := glook [(93, fG chunkF)]) (RT := rlook [(118, chunkRS)]) [] pok_nil (gl_cons chunk_g gl_nil) (rl_cons chunk_it rl_nil) ⟨Tryz.func60, by kernel_rfl, by kernel_rfl, by kernel_rfl⟩ (by kernel_rfl) fun l es obs v es' h ho => ?_
  (unfold turnF at h; split at h; rotate_left; (focus (cases h)); rename_i o m c L; simp only [Option.some.injEq, Prod.mk.injEq] at h; obtain ⟨rfl, rfl, rfl⟩ := h; simp only [List.mem_cons, List.not_mem_nil, or_false, forall_eq_or_imp, forall_eq, false_implies, implies_true] at ho)
  obtain ⟨ho1, ho2, ho3, ho4⟩ := ho
  refine ⟨Nat.le_of_ble_eq_true rfl, ?_⟩
  (repeat' (first | (refine xI (fun hfk => ?_) (fun hfk => ?_) <;> ((try (first | replace hfk := oT hfk | replace hfk := oF hfk | simp only [oA, oB, dh1, dh0, ne_eq, reduceCtorEq] at hfk)); (try exact oX))) | (refine And.intro ?ob ?_; (case ob => (exact oZ))) | exact True.intro | (show _ = _; first | exact oY | (skip; done) | exact rfl) | exact oW | (apply And.intro)))
  (refine ⟨[0], ⟨by kernel_rfl⟩, ?_⟩)
  (repeat' (first | (refine xI (fun hfk => ?_) (fun hfk => ?_) <;> ((try (first | replace hfk := oT hfk | replace hfk := oF hfk | simp only [oA, oB, dh1, dh0, ne_eq, reduceCtorEq] at hfk)); (try exact oX))) | (refine And.intro ?ob ?_; (case ob => (exact oZ))) | exact True.intro | (show _ = _; first | exact oY | (skip; done) | exact rfl) | exact oW | (apply And.intro)))
  refine ⟨[(7, .fn 118 0 [.ptr 1 0, .ptr 2 0])], ⟨3, [(0, some (.ints 5 .u8 L)), (1, some (.cells 22 [.sl 0 1 o m])), (2, some (.cells 3 [.int .i64 c]))]⟩, [some 0, some 1, some 2], ?_, ?_⟩
  · (repeat' (first | (refine xI (fun hfk => ?_) (fun hfk => ?_) <;> ((try (first | replace hfk := oT hfk | replace hfk := oF hfk | simp only [oA, oB, dh1, dh0, ne_eq, reduceCtorEq] at hfk)); (try exact oX))) | (refine And.intro ?ob ?_; (case ob => (exact oZ))) | exact True.intro | (show _ = _; first | exact oY | (skip; done) | exact rfl) | exact oW | (apply And.intro)))
  have e0 : (m + c.toNat - 1) / c.toNat = m / c.toNat := by
    have := ceil_mul (w := m / c.toNat) (c := c.toNat) (by omega)
    rwa [← ho2] at this
  rw [← e0]
  rw [← e0] at ho2
  refine ⟨by omega, by omega, fun k => rfl, Unit, fun k _ => ⟨3, [(0, some (.ints 5 .u8 (swapTo L o c.toNat k))), (1, some (.cells 22 [.sl 0 1 o m])), (2, some (.cells 3 [.int .i64 c]))]⟩, fun k _ => True, ⟨(), [some 0, some 1, some 2], trivial, ?_⟩, fun k _ _ => ⟨rfl, rfl, trivial⟩, fun k hk _ _ => ?_, fun _ _ => ?_⟩
  · (repeat' (first | (refine xI (fun hfk => ?_) (fun hfk => ?_) <;> ((try (first | replace hfk := oT hfk | replace hfk := oF hfk | simp only [oA, oB, dh1, dh0, ne_eq, reduceCtorEq] at hfk)); (try exact oX))) | (refine And.intro ?ob ?_; (case ob => (exact oZ))) | exact True.intro | (show _ = _; first | exact oY | (skip; done) | exact rfl) | exact oW | (apply And.intro)))
  · have hlen := swapTo_len L o c.toNat k
    have hk2 : k * c.toNat + c.toNat ≤ m := by
      have := Nat.mul_le_mul_right c.toNat (Nat.succ_le_of_lt hk)
      rw [Nat.succ_mul] at this
      omega
    (repeat' (first | (refine xI (fun hfk => ?_) (fun hfk => ?_) <;> ((try (first | replace hfk := oT hfk | replace hfk := oF hfk | simp only [oA, oB, dh1, dh0, ne_eq, reduceCtorEq] at hfk)); (try exact oX))) | (refine And.intro ?ob ?_; (case ob => (exact oZ))) | exact True.intro | (show _ = _; first | exact oY | ((simp only [List.length_set]; omega); done) | exact rfl) | exact oW | (apply And.intro)))
    refine ⟨(), [some 0, some 1, some 2], trivial, ?_⟩
    (repeat' (first | (refine xI (fun hfk => ?_) (fun hfk => ?_) <;> ((try (first | replace hfk := oT hfk | replace hfk := oF hfk | simp only [oA, oB, dh1, dh0, ne_eq, reduceCtorEq] at hfk)); (try exact oX))) | (refine And.intro ?ob ?_; (case ob => (exact oZ))) | exact True.intro | (show _ = _; first | exact oY | (skip; done) | exact rfl) | exact oW | (apply And.intro)))
  · (repeat' (first | (refine xI (fun hfk => ?_) (fun hfk => ?_) <;> ((try (first | replace hfk := oT hfk | replace hfk := oF hfk | simp only [oA, oB, dh1, dh0, ne_eq, reduceCtorEq] at hfk)); (try exact oX))) | (refine And.intro ?ob ?_; (case ob => (exact oZ))) | exact True.intro | (show _ = _; first | exact oY | (skip; done) | exact rfl) | exact oW | (apply And.intro)))
    refine ⟨[some 0], ?_⟩
    (repeat' (first | (refine xI (fun hfk => ?_) (fun hfk => ?_) <;> ((try (first | replace hfk := oT hfk | replace hfk := oF hfk | simp only [oA, oB, dh1, dh0, ne_eq, reduceCtorEq] at hfk)); (try exact oX))) | (refine And.intro ?ob ?_; (case ob => (exact oZ))) | exact True.intro | (show _ = _; first | exact oY | (skip; done) | exact rfl) | exact oW | (apply And.intro)))
end Go.Proofs.YtljdahepmmgfeaaGreatDoor
namespace Go.Proofs.YtljdahepmmgfeaaGreatDoor
open Go Go.RowKit
theorem list_getD {p q : List Int} (hl : p.length = q.length) (h : ∀ j, j < p.length → p.getD j 0 = q.getD j 0) : p = q := by
  refine List.ext_getElem hl fun j h1 h2 => ?_
  have := h j h1
  simpa [List.getD, h1, h2] using this
def madeF : FSpec := fun l es => match l, es with
  | [.int .i64 w, .int .i64 h, .int .i64 c, .sl 0 1 0 n], [.ints 5 .u8 p] => some ([], .agg [.int .i64 w, .int .i64 h, .int .i64 c, .sl 0 1 0 n], [some (.ints 5 .u8 p)])
  | _, _ => none
theorem made_g : GSOK Tryz.prog 69 (fG madeF) := by
  refine fok (S := []) (G := noG) pok_nil noG_ok ⟨Tryz.func69, by kernel_rfl, by kernel_rfl, by kernel_rfl⟩ fun l es obs v es' h ho => ?_
  unfold madeF at h
  split at h
  · rename_i w hh c n p
    simp only [Option.some.injEq, Prod.mk.injEq] at h
    obtain ⟨rfl, rfl, rfl⟩ := h
    refine ⟨Nat.le_of_ble_eq_true rfl, ?_⟩
    refine ⟨[some 0], ?_⟩
    (repeat' (first | apply And.intro | intro h)); (all_goals (try exact Chk.mk (by kernel_rfl)))
    (all_goals (try first | assumption | exact rfl | exact True.intro | contradiction | (exfalso; simp only [decide_eq_true_eq, decide_eq_false_iff_not, Bool.not_eq_true', Bool.not_eq_false', Bool.and_eq_true, Bool.or_eq_true, Bool.and_eq_false_iff, Bool.or_eq_false_iff, Int.not_lt, Int.not_le, ne_eq, Classical.not_not] at *; omega)))
  · cases h
end Go.Proofs.YtljdahepmmgfeaaGreatDoor
namespace Go.Proofs.YtljdahepmmgfeaaGreatDoor
open Go Go.RowKit
def spl (L : List Int) (o : Nat) (q : List Int) : List Int := L.take o ++ (q ++ L.drop (o + q.length))
theorem spl_len {L q : List Int} {o : Nat} (h : o + q.length ≤ L.length) : (spl L o q).length = L.length := by
  simp only [spl, List.length_append, List.length_take, List.length_drop]; omega
theorem spl_set {L q : List Int} {o i : Nat} {v : Int} (hi : i < q.length) (ho : o ≤ L.length) : (spl L o q).set (o + i) v = spl L o (q.set i v) := by
  have hl : (L.take o).length = o := by rw [List.length_take]; omega
  unfold spl
  rw [List.set_append_right _ _ (by omega), hl, Nat.add_sub_cancel_left, List.set_append_left _ _ hi, List.length_set]
theorem spl_get {L q : List Int} {o i : Nat} (hi : i < q.length) (ho : o ≤ L.length) : (spl L o q).getD (o + i) 0 = q.getD i 0 := by
  have hl : (L.take o).length = o := by rw [List.length_take]; omega
  unfold spl
  rw [List.getD_eq_getElem?_getD, List.getD_eq_getElem?_getD, List.getElem?_append_right (by omega), hl, Nat.add_sub_cancel_left, List.getElem?_append_left hi]
def piece (p : List Int) (c k : Nat) : List Int := (p.drop (k * c)).take c
theorem prod_of {a b n : Nat} (h : a < b) : a * n + n ≤ b * n := by
  have := Nat.mul_le_mul_right n (Nat.succ_le_of_lt h)
  rwa [Nat.succ_mul] at this
end Go.Proofs.YtljdahepmmgfeaaGreatDoor
namespace Go.Proofs.YtljdahepmmgfeaaGreatDoor
open Go Go.RowKit
set_option maxHeartbeats 4000000
def up4 (n : Int) : Int := (n + 3) / 4 * 4
theorem up4_bd (n : Int) : n ≤ up4 n ∧ up4 n ≤ n + 3 ∧ up4 n % 4 = 0 := by unfold up4; omega
theorem not3 (n : Nat) (h : n < 18446744073709551616) : (BitVec.ofNat 64 n &&& ~~~ BitVec.ofNat 64 3).toNat = n / 4 * 4 := by
  have e : n / 4 * 4 = (n >>> 2) <<< 2 := by rw [Nat.shiftRight_eq_div_pow, Nat.shiftLeft_eq]
  rw [e]
  apply Nat.eq_of_testBit_eq
  intro i
  rw [Nat.testBit_shiftLeft, Nat.testBit_shiftRight, ← BitVec.getLsbD]
  rw [BitVec.getLsbD_and, BitVec.getLsbD_not, BitVec.getLsbD_ofNat, BitVec.getLsbD_ofNat]
  have h3 : ∀ i, Nat.testBit 3 i = decide (i < 2) := by
    intro i
    match i with
    | 0 => rfl
    | 1 => rfl
    | i + 2 => rw [Nat.testBit_succ, Nat.testBit_succ]; simp
  rw [h3]
  by_cases h2 : i < 2
  · simp [h2]
    intro k; omega
  · by_cases h64 : i < 64
    · have : 2 + (i - 2) = i := by omega
      simp [h2, h64, this, show 2 ≤ i by omega]
    · have hz : n.testBit i = false := Nat.testBit_lt_two_pow (Nat.lt_of_lt_of_le h (Nat.le_trans (by decide : 18446744073709551616 ≤ 2 ^ 64) (Nat.pow_le_pow_right (by decide) (by omega))))
      have : 2 + (i - 2) = i := by omega
      simp [h64, this, hz]
theorem andnot3 {n : Int} (h0 : 0 ≤ n) (h1 : n < 4294967296) : IntKind.i64.wrap (BitVec.ofInt IntKind.i64.bits n &&& ~~~ BitVec.ofInt IntKind.i64.bits 3).toNat = n / 4 * 4 := by
  obtain ⟨m, rfl⟩ := Int.eq_ofNat_of_zero_le h0
  have hb : IntKind.i64.bits = 64 := rfl
  rw [hb]
  have b1 : BitVec.ofInt 64 (m : Int) = BitVec.ofNat 64 m := rfl
  have b2 : BitVec.ofInt 64 3 = BitVec.ofNat 64 3 := rfl
  rw [b1, b2, not3 m (by omega), wrap_rng ⟨by show (-9223372036854775808 : Int) ≤ _; omega, by show _ ≤ (9223372036854775807 : Int); omega⟩]
  omega
def strV (w c : Int) : Int := if w < 1 ∨ 32768 < w ∨ (c ≠ 3 ∧ c ≠ 4) then 0 else up4 (w * c)
abbrev strideS : PSpec := fun l => match l with | [.int .i64 w, .int .i64 c] => some ([], .int .i64 (strV w c)) | _ => none
theorem stride_s : SOK Tryz.prog 57 strideS := by
  refine sok_of (C := mkC 0 [] noG) (mkC_ok pok_nil noG_ok) rfl mixed ⟨Tryz.func57, by kernel_rfl, by kernel_rfl, by kernel_rfl⟩ fun l obs v h ho => ?_
  (unfold strideS at h; split at h; rotate_left; (focus (cases h)); rename_i w c; simp only [Option.some.injEq, Prod.mk.injEq] at h; obtain ⟨rfl, rfl⟩ := h; simp only [List.mem_cons, List.not_mem_nil, or_false, forall_eq_or_imp, forall_eq, false_implies, implies_true] at ho)
  refine ⟨Nat.le_of_ble_eq_true rfl, ?_⟩
  by_cases h : w < 1 ∨ 32768 < w ∨ (c ≠ 3 ∧ c ≠ 4)
  · have e : strV w c = 0 := if_pos h
    rw [e]
    (repeat' (first | (refine xI (fun hfk => ?_) (fun hfk => ?_) <;> ((try (first | replace hfk := oT hfk | replace hfk := oF hfk | simp only [oA, oB, dh1, dh0, ne_eq, reduceCtorEq] at hfk)); (try exact oX))) | (refine And.intro ?ob ?_; (case ob => (exact oZ))) | exact True.intro | (show _ = _; first | exact oY | (rfl; done) | exact rfl) | exact oW | (apply And.intro)))
  · have e : strV w c = up4 (w * c) := if_neg h
    have hc : c = 3 ∨ c = 4 := by omega
    have hb : 3 ≤ w * c ∧ w * c ≤ 131072 := by rcases hc with k | k <;> subst k <;> omega
    have r1 : rngI .i64 (w * c) := rng64 (by omega) (by omega)
    have r2 : rngI .i64 (w * c + 3) := rng64 (by omega) (by omega)
    have e2 := andnot3 (n := w * c + 3) (by omega) (by omega)
    rw [e]
    (repeat' (first | (refine xI (fun hfk => ?_) (fun hfk => ?_) <;> ((try (first | replace hfk := oT hfk | replace hfk := oF hfk | simp only [oA, oB, dh1, dh0, ne_eq, reduceCtorEq] at hfk)); (try exact oX))) | (refine And.intro ?ob ?_; (case ob => (exact oZ))) | exact True.intro | (show _ = _; first | exact oY | (exact e2; done) | exact rfl) | exact oW | (apply And.intro)))
abbrev rstrS : PSpec := fun l => match l with | [.int .i64 w, .int .i64 c] => some ([0 ≤ w * c, w * c ≤ 4294967296], .int .i64 (up4 (w * c))) | _ => none
theorem rstr_s : SOK Tryz.prog 72 rstrS := by
  refine sok_of (C := mkC 0 [] noG) (mkC_ok pok_nil noG_ok) rfl mixed ⟨Tryz.func72, by kernel_rfl, by kernel_rfl, by kernel_rfl⟩ fun l obs v h ho => ?_
  (unfold rstrS at h; split at h; rotate_left; (focus (cases h)); rename_i w c; simp only [Option.some.injEq, Prod.mk.injEq] at h; obtain ⟨rfl, rfl⟩ := h; simp only [List.mem_cons, List.not_mem_nil, or_false, forall_eq_or_imp, forall_eq, false_implies, implies_true] at ho)
  obtain ⟨h0, h1⟩ := ho
  refine ⟨Nat.le_of_ble_eq_true rfl, ?_⟩
  have hb := up4_bd (w * c)
  have r1 : rngI .i64 (w * c) := rng64 (by omega) (by omega)
  (repeat' (first | (refine xI (fun hfk => ?_) (fun hfk => ?_) <;> ((try (first | replace hfk := oT hfk | replace hfk := oF hfk | simp only [oA, oB, dh1, dh0, ne_eq, reduceCtorEq] at hfk)); (try exact oX))) | (refine And.intro ?ob ?_; (case ob => (exact oZ))) | exact True.intro | (show _ = _; first | exact oY | (skip; done) | exact rfl) | exact oW | (apply And.intro)))
  refine ⟨Nat, fun i => [(5, .int .i64 (w * c + (i : Int)))], fun i => ⟨0, []⟩, fun i => w * c + (i : Int) ≤ up4 (w * c), fun i => 4 - i, ⟨0, [], by show w * c + 0 ≤ _; omega, ?_⟩, fun i hi => ?_⟩
  · (repeat' (first | (refine And.intro ?_ ?_) | exact True.intro | (show _ = _; with_reducible rfl) | exact Chk.mk (by kernel_rfl)))
    all_goals (show (_ : Int) = _; omega)
  have hi : w * c + (i : Int) ≤ up4 (w * c) := hi
  have hm : (w * c + (i : Int)).tmod 4 = (w * c + (i : Int)) % 4 := Int.tmod_eq_emod_of_nonneg (by omega)
  by_cases he : w * c + (i : Int) = up4 (w * c)
  · have hz : (w * c + (i : Int)).tmod 4 = 0 := by rw [hm, he]; exact hb.2.2
    (repeat' (first | (refine xI (fun hfk => ?_) (fun hfk => ?_) <;> ((try (first | replace hfk := oT hfk | replace hfk := oF hfk | simp only [oA, oB, dh1, dh0, ne_eq, reduceCtorEq] at hfk)); (try exact oX))) | (refine And.intro ?ob ?_; (case ob => (exact oZ))) | exact True.intro | (show _ = _; first | exact oY | (exact he; done) | exact rfl) | exact oW | (apply And.intro)))
  · have hz : ¬ (w * c + (i : Int)).tmod 4 = 0 := by rw [hm]; unfold up4 at he hi hb; omega
    have r2 : rngI .i64 (w * c + (i : Int) + 1) := rng64 (by omega) (by omega)
    (repeat' (first | (refine xI (fun hfk => ?_) (fun hfk => ?_) <;> ((try (first | replace hfk := oT hfk | replace hfk := oF hfk | simp only [oA, oB, dh1, dh0, ne_eq, reduceCtorEq] at hfk)); (try exact oX))) | (refine And.intro ?ob ?_; (case ob => (exact oZ))) | exact True.intro | (show _ = _; first | exact oY | (skip; done) | exact rfl) | exact oW | (apply And.intro)))
    refine ⟨i + 1, [], ?_, ?mu, ?_⟩
    case mu => (show 4 - (i + 1) < 4 - i; omega)
    · show w * c + ((i + 1 : Nat) : Int) ≤ _; omega
    (repeat' (first | (refine And.intro ?_ ?_) | exact True.intro | (show _ = _; with_reducible rfl) | exact Chk.mk (by kernel_rfl)))
    all_goals (show (_ : Int) = _; omega)
def lw (b : List Int) (a n : Int) : Int := lowV ((b.drop a.toNat).take n.toNat)
abbrev rlw16S : PSpec := fun l => match l with | [.roi .u8 b, .int .i64 a, .int .i64 n] => some ([0 ≤ a, 0 ≤ n, n ≤ 4, a + n ≤ b.length, Byt b], .int .i64 (lw b a n)) | _ => none
theorem rlw16_s : SOK Tryz.prog 71 rlw16S := by
  refine sok_of (C := mkC 0 [] noG) (mkC_ok pok_nil noG_ok) rfl mixed ⟨Tryz.func71, by kernel_rfl, by kernel_rfl, by kernel_rfl⟩ fun l obs v h ho => ?_
  (unfold rlw16S at h; split at h; rotate_left; (focus (cases h)); rename_i b a n; simp only [Option.some.injEq, Prod.mk.injEq] at h; obtain ⟨rfl, rfl⟩ := h; simp only [List.mem_cons, List.not_mem_nil, or_false, forall_eq_or_imp, forall_eq, false_implies, implies_true] at ho)
  obtain ⟨a0, n0, n4, han, hb⟩ := ho
  have bl := hb.le
  refine ⟨Nat.le_of_ble_eq_true rfl, ?_⟩
  obtain ⟨L, hL⟩ : ∃ L, (b.drop a.toNat).take n.toNat = L := ⟨_, rfl⟩
  have hLl : L.length = n.toNat := by rw [← hL, List.length_take, List.length_drop]; omega
  have hLg : ∀ j, j < n.toNat → L.getD j 0 = b.getD (a.toNat + j) 0 := fun j hj => by rw [← hL, take_getD hj, drop_getD]
  have hM : ∀ x ∈ L, 0 ≤ x ∧ x ≤ 255 := fun x hx => by
    obtain ⟨j, hj, rfl⟩ := List.getElem_of_mem hx
    have := hLg j (by omega)
    rw [List.getD, List.getElem?_eq_getElem hj] at this
    simp only [Option.getD_some] at this
    rw [this]; exact hb.bd _
  have hv : lw b a n = lowV L := by unfold lw; rw [hL]
  rw [hv]
  (repeat' (first | (refine xI (fun hfk => ?_) (fun hfk => ?_) <;> ((try (first | replace hfk := oT hfk | replace hfk := oF hfk | simp only [oA, oB, dh1, dh0, ne_eq, reduceCtorEq] at hfk)); (try exact oX))) | (refine And.intro ?ob ?_; (case ob => (exact oZ))) | exact True.intro | (show _ = _; first | exact oY | (skip; done) | exact rfl) | exact oW | (apply And.intro)))
  refine ⟨Nat, fun k => [(0, .roi .u8 b), (1, .int .i64 a), (7, .int .i64 (lowV (L.drop k))), (8, .int .i64 ((k : Int) - 1))], fun k => ⟨0, []⟩, fun k => k ≤ n.toNat, fun k => k, ⟨n.toNat, [], Nat.le_refl _, ?_⟩, fun k hk => ?_⟩
  · have e0 : (0 : Int) = lowV (L.drop n.toNat) := by rw [List.drop_of_length_le (by omega)]; rfl
    (repeat' (first | (refine And.intro ?_ ?_) | exact True.intro | (show _ = _; with_reducible rfl) | exact Chk.mk (by kernel_rfl)))
    all_goals first | exact e0 | rfl | (show (_ : Int) = _; omega)
  have hk : k ≤ n.toNat := hk
  cases k with
  | zero =>
    have e0 : lowV (L.drop 0) = lowV L := by rw [List.drop_zero]
    (repeat' (first | (refine xI (fun hfk => ?_) (fun hfk => ?_) <;> ((try (first | replace hfk := oT hfk | replace hfk := oF hfk | simp only [oA, oB, dh1, dh0, ne_eq, reduceCtorEq] at hfk)); (try exact oX))) | (refine And.intro ?ob ?_; (case ob => (exact oZ))) | exact True.intro | (show _ = _; first | exact oY | (exact e0; done) | exact rfl) | exact oW | (apply And.intro)))
  | succ j =>
    have hx := lowV_drop (l := L) (i := j) (by omega)
    obtain ⟨c0, c1⟩ := lowV_bd (l := L.drop (j + 1)) fun x hx => hM x (List.mem_of_mem_drop hx)
    have pw := p256 (L := (L.drop (j + 1)).length) (by rw [List.length_drop]; omega)
    have gb := hb.bd (a.toNat + j)
    rw [hLg j (by omega)] at hx
    have et : (a + (((j + 1 : Nat) : Int) - 1)).toNat = a.toNat + j := by omega
    have w3 : lowV (L.drop (j + 1)) * 256 + b.getD (a + (((j + 1 : Nat) : Int) - 1)).toNat 0 = lowV (L.drop j) := by rw [et, hx]; omega
    have r1 : rngI .i64 (lowV (L.drop (j + 1)) * 256) := rng64 (by omega) (by omega)
    have r2 : rngI .i64 (a + (((j + 1 : Nat) : Int) - 1)) := rng64 (by omega) (by omega)
    have r3 : rngI .i64 (b.getD (a + (((j + 1 : Nat) : Int) - 1)).toNat 0) := by rw [et]; exact rng64 (by omega) (by omega)
    have r4 : rngI .i64 (lowV (L.drop (j + 1)) * 256 + b.getD (a + (((j + 1 : Nat) : Int) - 1)).toNat 0) := by rw [et]; exact rng64 (by omega) (by omega)
    have rj : rngI .i64 (((j + 1 : Nat) : Int) - 1 - 1) := rng64 (by omega) (by omega)
    (repeat' (first | (refine xI (fun hfk => ?_) (fun hfk => ?_) <;> ((try (first | replace hfk := oT hfk | replace hfk := oF hfk | simp only [oA, oB, dh1, dh0, ne_eq, reduceCtorEq] at hfk)); (try exact oX))) | (refine And.intro ?ob ?_; (case ob => (exact oZ))) | exact True.intro | (show _ = _; first | exact oY | (skip; done) | exact rfl) | exact oW | (apply And.intro)))
    refine ⟨j, [], by omega, ?mu, ?_⟩
    case mu => (show j < j + 1; omega)
    (repeat' (first | (refine And.intro ?_ ?_) | exact True.intro | (show _ = _; with_reducible rfl) | exact Chk.mk (by kernel_rfl)))
    all_goals first | exact w3 | rfl | (show (_ : Int) = _; omega)
def wtb : List (Int × Int × Int) := [(6, 4, 0), (10, 4, 54), (14, 4, 40), (26, 2, 1), (30, 4, 0), (46, 4, 0), (50, 4, 0)]
abbrev wtG (j : Nat) : Int × Int × Int := wtb.getD j (0, 0, 0)
abbrev wantsA : AV := .ro 3 7 (fun j => .agg [.int .i64 (wtG j).1, .int .i64 (wtG j).2.1, .int .i64 (wtG j).2.2])
theorem wants_s : SOK Tryz.prog 101 (sN wantsA) := by
  refine sok_of (C := mkC 0 [] noG) (mkC_ok pok_nil noG_ok) rfl mixed ⟨Tryz.func101, by kernel_rfl, by kernel_rfl, by kernel_rfl⟩ fun l obs v h ho => ?_
  obtain ⟨rfl, rfl, rfl⟩ := sN_inv h
  refine ⟨Nat.le_of_ble_eq_true rfl, ?_⟩
  (repeat' (first | (refine xI (fun hfk => ?_) (fun hfk => ?_) <;> ((try (first | replace hfk := oT hfk | replace hfk := oF hfk | simp only [oA, oB, dh1, dh0, ne_eq, reduceCtorEq] at hfk)); (try exact oX))) | (refine And.intro ?ob ?_; (case ob => (exact oZ))) | exact True.intro | (show _ = _; first | exact oY | (skip; done) | exact rfl) | exact oW | (apply And.intro)))
  intro j hj
  have : j = 0 ∨ j = 1 ∨ j = 2 ∨ j = 3 ∨ j = 4 ∨ j = 5 ∨ j = 6 := by omega
  rcases this with k | k | k | k | k | k | k <;> subst k <;> rfl
theorem wt_in {j : Nat} (h : j < 7) : 0 ≤ (wtG j).1 ∧ 0 ≤ (wtG j).2.1 ∧ (wtG j).2.1 ≤ 4 ∧ (wtG j).1 + (wtG j).2.1 ≤ 54 := by
  have : j = 0 ∨ j = 1 ∨ j = 2 ∨ j = 3 ∨ j = 4 ∨ j = 5 ∨ j = 6 := by omega
  rcases this with k | k | k | k | k | k | k <;> subst k <;> decide
def frm0 (b : List Int) : Prop := lw b 6 4 = 0 ∧ lw b 10 4 = 54 ∧ lw b 14 4 = 40 ∧ lw b 26 2 = 1 ∧ lw b 30 4 = 0 ∧ lw b 46 4 = 0 ∧ lw b 50 4 = 0
instance (b : List Int) : Decidable (frm0 b) := by unfold frm0; exact inferInstance
theorem frm0_iff {b : List Int} : frm0 b ↔ ∀ j, j < 7 → lw b (wtG j).1 (wtG j).2.1 = (wtG j).2.2 := by
  constructor
  · rintro ⟨h0, h1, h2, h3, h4, h5, h6⟩ j hj
    have : j = 0 ∨ j = 1 ∨ j = 2 ∨ j = 3 ∨ j = 4 ∨ j = 5 ∨ j = 6 := by omega
    rcases this with k | k | k | k | k | k | k <;> subst k <;> assumption
  · intro h
    exact ⟨h 0 (by omega), h 1 (by omega), h 2 (by omega), h 3 (by omega), h 4 (by omega), h 5 (by omega), h 6 (by omega)⟩
def hdE (b : List Int) : Int :=
  if b.length = 0 ∨ (b.length = 1 ∧ b.getD 0 0 = 66) then 20 else if b.getD 0 0 ≠ 66 ∨ (1 < b.length ∧ b.getD 1 0 ≠ 77) then 21
  else if b.length < 54 then 20 else if frm0 b ∧ (lw b 28 2 = 24 ∨ lw b 28 2 = 32) then 0 else 21
abbrev rform16S : PSpec := fun l => match l with | [.roi .u8 b] => some ([Byt b], .int .i64 (hdE b)) | _ => none
theorem rform16_s : SOK Tryz.prog 70 rform16S := by
  refine sok_of (C := mkC 0 [(71, rlw16S), (101, sN wantsA)] noG) (mkC_ok (pok_cons rlw16_s (pok_cons wants_s pok_nil)) noG_ok) rfl mixed ⟨Tryz.func70, by kernel_rfl, by kernel_rfl, by kernel_rfl⟩ fun l obs v h ho => ?_
  (unfold rform16S at h; split at h; rotate_left; (focus (cases h)); rename_i b; simp only [Option.some.injEq, Prod.mk.injEq] at h; obtain ⟨rfl, rfl⟩ := h; simp only [List.mem_cons, List.not_mem_nil, or_false, forall_eq_or_imp, forall_eq, false_implies, implies_true] at ho)
  have hb := ho
  have bl := hb.le
  refine ⟨Nat.le_of_ble_eq_true rfl, ?_⟩
  have g0 : b.getD (0 : Int).toNat 0 = b.getD 0 0 := rfl
  have g1 : b.getD (1 : Int).toNat 0 = b.getD 1 0 := rfl
  by_cases k1 : b.length = 0 ∨ (b.length = 1 ∧ b.getD 0 0 = 66)
  · have e : hdE b = 20 := if_pos k1
    rw [e]
    (repeat' (first | (refine xI (fun hfk => ?_) (fun hfk => ?_) <;> ((try (first | replace hfk := oT hfk | replace hfk := oF hfk | simp only [oA, oB, dh1, dh0, ne_eq, reduceCtorEq] at hfk)); (try exact oX))) | (refine And.intro ?ob ?_; (case ob => (exact oZ))) | exact True.intro | (show _ = _; first | exact oY | (rfl; done) | exact rfl) | exact oW | (apply And.intro)))
  by_cases k2 : b.getD 0 0 ≠ 66 ∨ (1 < b.length ∧ b.getD 1 0 ≠ 77)
  · have e : hdE b = 21 := by unfold hdE; rw [if_neg k1, if_pos k2]
    rw [e]
    (repeat' (first | (refine xI (fun hfk => ?_) (fun hfk => ?_) <;> ((try (first | replace hfk := oT hfk | replace hfk := oF hfk | simp only [oA, oB, dh1, dh0, ne_eq, reduceCtorEq] at hfk)); (try exact oX))) | (refine And.intro ?ob ?_; (case ob => (exact oZ))) | exact True.intro | (show _ = _; first | exact oY | (rfl; done) | exact rfl) | exact oW | (apply And.intro)))
  by_cases k3 : b.length < 54
  · have e : hdE b = 20 := by unfold hdE; rw [if_neg k1, if_neg k2, if_pos k3]
    rw [e]
    (repeat' (first | (refine xI (fun hfk => ?_) (fun hfk => ?_) <;> ((try (first | replace hfk := oT hfk | replace hfk := oF hfk | simp only [oA, oB, dh1, dh0, ne_eq, reduceCtorEq] at hfk)); (try exact oX))) | (refine And.intro ?ob ?_; (case ob => (exact oZ))) | exact True.intro | (show _ = _; first | exact oY | (rfl; done) | exact rfl) | exact oW | (apply And.intro)))
  have e : hdE b = if frm0 b ∧ (lw b 28 2 = 24 ∨ lw b 28 2 = 32) then 0 else 21 := by unfold hdE; rw [if_neg k1, if_neg k2, if_neg k3]
  rw [e]
  (repeat' (first | (refine xI (fun hfk => ?_) (fun hfk => ?_) <;> ((try (first | replace hfk := oT hfk | replace hfk := oF hfk | simp only [oA, oB, dh1, dh0, ne_eq, reduceCtorEq] at hfk)); (try exact oX))) | (refine And.intro ?ob ?_; (case ob => (exact oZ))) | exact True.intro | (show _ = _; first | exact oY | (skip; done) | exact rfl) | exact oW | (apply And.intro)))
  all_goals
    refine ⟨Nat, fun i => [(0, .roi .u8 b), (37, wantsA), (38, .int .i64 7), (39, .int .i64 (i : Int))], fun i => ⟨0, []⟩, fun i => i ≤ 7 ∧ ∀ j, j < i → lw b (wtG j).1 (wtG j).2.1 = (wtG j).2.2, fun i => 7 - i, ⟨0, [], ⟨by omega, fun j hj => by omega⟩, ?_⟩, fun i hi => ?_⟩
    · (repeat' (first | (refine And.intro ?_ ?_) | exact True.intro | (show _ = _; with_reducible rfl) | exact Chk.mk (by kernel_rfl)))
      all_goals first | (intro j hj; rfl) | rfl
    obtain ⟨i1, i2⟩ := hi
    have i1 : i ≤ 7 := i1
    by_cases hlt : i < 7
    · obtain ⟨q1, q2, q3, q4⟩ := wt_in hlt
      have q1' : 0 ≤ (wtG (i : Int).toNat).1 := q1
      have q2' : 0 ≤ (wtG (i : Int).toNat).2.1 := q2
      have q3' : (wtG (i : Int).toNat).2.1 ≤ 4 := q3
      have q4' : (wtG (i : Int).toNat).1 + (wtG (i : Int).toNat).2.1 ≤ b.length := Int.le_trans q4 (by omega)
      have ri : rngI .i64 ((i : Int) + 1) := rng64 (by omega) (by omega)
      by_cases hx : lw b (wtG i).1 (wtG i).2.1 = (wtG i).2.2
      · have hx' : ¬ lw b (wtG (i : Int).toNat).1 (wtG (i : Int).toNat).2.1 ≠ (wtG (i : Int).toNat).2.2 := fun k => k hx
        (repeat' (first | (refine xI (fun hfk => ?_) (fun hfk => ?_) <;> ((try (first | replace hfk := oT hfk | replace hfk := oF hfk | simp only [oA, oB, dh1, dh0, ne_eq, reduceCtorEq] at hfk)); (try exact oX))) | (refine And.intro ?ob ?_; (case ob => (exact oZ))) | exact True.intro | (show _ = _; first | exact oY | (exact hb; done) | exact rfl) | exact oW | (apply And.intro)))
        refine ⟨i + 1, [], ⟨hlt, fun j hj => ?_⟩, ?mu, ?_⟩
        case mu => (show 7 - (i + 1) < 7 - i; omega)
        · by_cases hji : j = i
          · subst hji; exact hx
          · exact i2 j (by omega)
        (repeat' (first | (refine And.intro ?_ ?_) | exact True.intro | (show _ = _; with_reducible rfl) | exact Chk.mk (by kernel_rfl)))
        all_goals first | (intro j hj; rfl) | rfl | (show (_ : Int) = _; omega)
      · have hx' : lw b (wtG (i : Int).toNat).1 (wtG (i : Int).toNat).2.1 ≠ (wtG (i : Int).toNat).2.2 := hx
        rw [if_neg (show ¬ (frm0 b ∧ (lw b 28 2 = 24 ∨ lw b 28 2 = 32)) from fun k => hx (frm0_iff.1 k.1 i hlt))]
        (repeat' (first | (refine xI (fun hfk => ?_) (fun hfk => ?_) <;> ((try (first | replace hfk := oT hfk | replace hfk := oF hfk | simp only [oA, oB, dh1, dh0, ne_eq, reduceCtorEq] at hfk)); (try exact oX))) | (refine And.intro ?ob ?_; (case ob => (exact oZ))) | exact True.intro | (show _ = _; first | exact oY | (exact hb; done) | exact rfl) | exact oW | (apply And.intro)))
    · have hf : frm0 b := frm0_iff.2 fun j hj => i2 j (by omega)
      by_cases h24 : lw b 28 2 = 24
      · rw [if_pos ⟨hf, .inl h24⟩]
        (repeat' (first | (refine xI (fun hfk => ?_) (fun hfk => ?_) <;> ((try (first | replace hfk := oT hfk | replace hfk := oF hfk | simp only [oA, oB, dh1, dh0, ne_eq, reduceCtorEq] at hfk)); (try exact oX))) | (refine And.intro ?ob ?_; (case ob => (exact oZ))) | exact True.intro | (show _ = _; first | exact oY | (exact hb; done) | exact rfl) | exact oW | (apply And.intro)))
      · by_cases h32 : lw b 28 2 = 32
        · rw [if_pos ⟨hf, .inr h32⟩]
          (repeat' (first | (refine xI (fun hfk => ?_) (fun hfk => ?_) <;> ((try (first | replace hfk := oT hfk | replace hfk := oF hfk | simp only [oA, oB, dh1, dh0, ne_eq, reduceCtorEq] at hfk)); (try exact oX))) | (refine And.intro ?ob ?_; (case ob => (exact oZ))) | exact True.intro | (show _ = _; first | exact oY | (exact hb; done) | exact rfl) | exact oW | (apply And.intro)))
        · rw [if_neg (show ¬ (frm0 b ∧ (lw b 28 2 = 24 ∨ lw b 28 2 = 32)) from fun k => k.2.elim h24 h32)]
          (repeat' (first | (refine xI (fun hfk => ?_) (fun hfk => ?_) <;> ((try (first | replace hfk := oT hfk | replace hfk := oF hfk | simp only [oA, oB, dh1, dh0, ne_eq, reduceCtorEq] at hfk)); (try exact oX))) | (refine And.intro ?ob ?_; (case ob => (exact oZ))) | exact True.intro | (show _ = _; first | exact oY | (exact hb; done) | exact rfl) | exact oW | (apply And.intro)))
end Go.Proofs.YtljdahepmmgfeaaGreatDoor
namespace Go.Proofs.YtljdahepmmgfeaaGreatDoor
open Go Go.RowKit
set_option maxHeartbeats 4000000
abbrev hdownS : PSpec := fun l => match l with | [.rop (.agg [.int .u32 x0, .int .u32 x1, .int .u32 x2, .int .u32 x3, .int .u32 x4, .int .u32 x5, .int .u32 x6, .int .u32 x7, .int .u32 x8, .int .u32 x9, .int .u32 x10, .int .u32 x11, .int .u32 x12, .int .u32 x13])] => some ([], .bool (decide (2147483648 ≤ x5))) | _ => none
theorem hdown_s : SOK Tryz.prog 59 hdownS := by
  refine sok_of (C := mkC 0 [] noG) (mkC_ok pok_nil noG_ok) rfl mixed ⟨Tryz.func59, by kernel_rfl, by kernel_rfl, by kernel_rfl⟩ fun l obs v h ho => ?_
  (unfold hdownS at h; split at h; rotate_left; (focus (cases h)); rename_i x0 x1 x2 x3 x4 x5 x6 x7 x8 x9 x10 x11 x12 x13; simp only [Option.some.injEq, Prod.mk.injEq] at h; obtain ⟨rfl, rfl⟩ := h; simp only [List.mem_cons, List.not_mem_nil, or_false, forall_eq_or_imp, forall_eq, false_implies, implies_true] at ho)
  refine ⟨Nat.le_of_ble_eq_true rfl, ?_⟩
  (repeat' (first | (refine xI (fun hfk => ?_) (fun hfk => ?_) <;> ((try (first | replace hfk := oT hfk | replace hfk := oF hfk | simp only [oA, oB, dh1, dh0, ne_eq, reduceCtorEq] at hfk)); (try exact oX))) | (refine And.intro ?ob ?_; (case ob => (exact oZ))) | exact True.intro | (show _ = _; first | exact oY | (rfl; done) | exact rfl) | exact oW | (apply And.intro)))
def hrV (x : Int) : Int := if 2147483648 ≤ x then 4294967296 - x else x
abbrev hrowsS : PSpec := fun l => match l with | [.rop (.agg [.int .u32 x0, .int .u32 x1, .int .u32 x2, .int .u32 x3, .int .u32 x4, .int .u32 x5, .int .u32 x6, .int .u32 x7, .int .u32 x8, .int .u32 x9, .int .u32 x10, .int .u32 x11, .int .u32 x12, .int .u32 x13])] => some ([0 ≤ x5, x5 < 4294967296], .int .u32 (hrV x5)) | _ => none
theorem hrows_s : SOK Tryz.prog 92 hrowsS := by
  refine sok_of (C := mkC 0 [(59, hdownS)] noG) (mkC_ok (pok_cons hdown_s pok_nil) noG_ok) rfl mixed ⟨Tryz.func92, by kernel_rfl, by kernel_rfl, by kernel_rfl⟩ fun l obs v h ho => ?_
  (unfold hrowsS at h; split at h; rotate_left; (focus (cases h)); rename_i x0 x1 x2 x3 x4 x5 x6 x7 x8 x9 x10 x11 x12 x13; simp only [Option.some.injEq, Prod.mk.injEq] at h; obtain ⟨rfl, rfl⟩ := h; simp only [List.mem_cons, List.not_mem_nil, or_false, forall_eq_or_imp, forall_eq, false_implies, implies_true] at ho)
  refine ⟨Nat.le_of_ble_eq_true rfl, ?_⟩
  obtain ⟨h0, h1⟩ := ho
  by_cases hd : 2147483648 ≤ x5
  · have e : hrV x5 = 4294967296 - x5 := if_pos hd
    have e2 : IntKind.u32.wrap (0 - x5) = 4294967296 - x5 := by
      have : IntKind.u32.wrap (0 - x5) = (0 - x5) % 4294967296 := by simp [IntKind.wrap, IntKind.signed, IntKind.bits]
      omega
    rw [e]
    (repeat' (first | (refine xI (fun hfk => ?_) (fun hfk => ?_) <;> ((try (first | replace hfk := oT hfk | replace hfk := oF hfk | simp only [oA, oB, dh1, dh0, ne_eq, reduceCtorEq] at hfk)); (try exact oX))) | (refine And.intro ?ob ?_; (case ob => (exact oZ))) | exact True.intro | (show _ = _; first | exact oY | (exact e2; done) | exact rfl) | exact oW | (apply And.intro)))
  · have e : hrV x5 = x5 := if_neg hd
    rw [e]
    (repeat' (first | (refine xI (fun hfk => ?_) (fun hfk => ?_) <;> ((try (first | replace hfk := oT hfk | replace hfk := oF hfk | simp only [oA, oB, dh1, dh0, ne_eq, reduceCtorEq] at hfk)); (try exact oX))) | (refine And.intro ?ob ?_; (case ob => (exact oZ))) | exact True.intro | (show _ = _; first | exact oY | (rfl; done) | exact rfl) | exact oW | (apply And.intro)))
def shC (w r : Int) : Int := if w = 0 ∨ r = 0 then 12 else if 32768 < w ∨ 32768 < r ∨ 4194304 < w * r then 30 else 0
def shI (k w : Int) : Int := if k = 0 then w else 0
abbrev hshapeS : PSpec := fun l => match l with | [.rop (.agg [.int .u32 x0, .int .u32 x1, .int .u32 x2, .int .u32 x3, .int .u32 x4, .int .u32 x5, .int .u32 x6, .int .u32 x7, .int .u32 x8, .int .u32 x9, .int .u32 x10, .int .u32 x11, .int .u32 x12, .int .u32 x13])] => some ([0 ≤ x4, x4 < 4294967296, 0 ≤ x5, x5 < 4294967296, x7 = 24 ∨ x7 = 32], .tup [.agg [.int .i64 (shI (shC x4 (hrV x5)) x4), .int .i64 (shI (shC x4 (hrV x5)) (hrV x5)), .int .i64 (shI (shC x4 (hrV x5)) (x7 / 8)), .nils], .int .i64 (shC x4 (hrV x5))]) | _ => none
theorem hshape_s : SOK Tryz.prog 56 hshapeS := by
  refine sok_of (C := mkC 0 [(92, hrowsS)] noG) (mkC_ok (pok_cons hrows_s pok_nil) noG_ok) rfl mixed ⟨Tryz.func56, by kernel_rfl, by kernel_rfl, by kernel_rfl⟩ fun l obs v h ho => ?_
  (unfold hshapeS at h; split at h; rotate_left; (focus (cases h)); rename_i x0 x1 x2 x3 x4 x5 x6 x7 x8 x9 x10 x11 x12 x13; simp only [Option.some.injEq, Prod.mk.injEq] at h; obtain ⟨rfl, rfl⟩ := h; simp only [List.mem_cons, List.not_mem_nil, or_false, forall_eq_or_imp, forall_eq, false_implies, implies_true] at ho)
  refine ⟨Nat.le_of_ble_eq_true rfl, ?_⟩
  obtain ⟨w0, w1, r0', r1', h7⟩ := ho
  obtain ⟨r, hr⟩ : ∃ r, hrV x5 = r := ⟨_, rfl⟩
  have r01 : 0 ≤ r ∧ r < 4294967296 := by rw [← hr]; unfold hrV; split <;> omega
  obtain ⟨r0, r1⟩ := r01
  rw [hr]
  by_cases k1 : x4 = 0 ∨ r = 0
  · have e : shC x4 r = 12 := if_pos k1
    rw [e]
    rcases Classical.em (x4 = 0) with k | k
    · (repeat' (first | (refine xI (fun hfk => ?_) (fun hfk => ?_) <;> ((try (first | replace hfk := oT hfk | replace hfk := oF hfk | simp only [oA, oB, dh1, dh0, ne_eq, reduceCtorEq] at hfk)); (try exact oX))) | (refine And.intro ?ob ?_; (case ob => (exact oZ))) | exact True.intro | (show _ = _; first | exact oY | (rfl; done) | exact rfl) | exact oW | (apply And.intro)))
    · have k2 : hrV x5 = 0 := by omega
      (repeat' (first | (refine xI (fun hfk => ?_) (fun hfk => ?_) <;> ((try (first | replace hfk := oT hfk | replace hfk := oF hfk | simp only [oA, oB, dh1, dh0, ne_eq, reduceCtorEq] at hfk)); (try exact oX))) | (refine And.intro ?ob ?_; (case ob => (exact oZ))) | exact True.intro | (show _ = _; first | exact oY | (rfl; done) | exact rfl) | exact oW | (apply And.intro)))
  by_cases k2 : 32768 < x4 ∨ 32768 < r
  · have e : shC x4 r = 30 := by unfold shC; rw [if_neg k1, if_pos (by omega)]
    rw [e]
    rcases Classical.em (32768 < x4) with k | k
    · (repeat' (first | (refine xI (fun hfk => ?_) (fun hfk => ?_) <;> ((try (first | replace hfk := oT hfk | replace hfk := oF hfk | simp only [oA, oB, dh1, dh0, ne_eq, reduceCtorEq] at hfk)); (try exact oX))) | (refine And.intro ?ob ?_; (case ob => (exact oZ))) | exact True.intro | (show _ = _; first | exact oY | (rfl; done) | exact rfl) | exact oW | (apply And.intro)))
    · have k3 : 32768 < hrV x5 := by omega
      (repeat' (first | (refine xI (fun hfk => ?_) (fun hfk => ?_) <;> ((try (first | replace hfk := oT hfk | replace hfk := oF hfk | simp only [oA, oB, dh1, dh0, ne_eq, reduceCtorEq] at hfk)); (try exact oX))) | (refine And.intro ?ob ?_; (case ob => (exact oZ))) | exact True.intro | (show _ = _; first | exact oY | (rfl; done) | exact rfl) | exact oW | (apply And.intro)))
  have p1 : 0 ≤ x4 * r := Int.mul_nonneg (by omega) (by omega)
  have p2 : x4 * r ≤ 32768 * 32768 := Int.le_trans (Int.mul_le_mul_of_nonneg_right (by omega) (by omega)) (Int.mul_le_mul_of_nonneg_left (by omega) (by omega))
  have ep : IntKind.u32.wrap (x4 * hrV x5) = x4 * r := by rw [hr]; exact u32_id (by omega) (by omega)
  by_cases k3 : 4194304 < x4 * r
  · have e : shC x4 r = 30 := by unfold shC; rw [if_neg k1, if_pos (by omega)]
    rw [e]
    (repeat' (first | (refine xI (fun hfk => ?_) (fun hfk => ?_) <;> ((try (first | replace hfk := oT hfk | replace hfk := oF hfk | simp only [oA, oB, dh1, dh0, ne_eq, reduceCtorEq] at hfk)); (try exact oX))) | (refine And.intro ?ob ?_; (case ob => (exact oZ))) | exact True.intro | (show _ = _; first | exact oY | (rfl; done) | exact rfl) | exact oW | (apply And.intro)))
  have e : shC x4 r = 0 := by unfold shC; rw [if_neg k1, if_neg (by omega)]
  have g1 : rngI .i64 x4 := rng64 (by omega) (by omega)
  have g2 : rngI .i64 (hrV x5) := rng64 (by omega) (by omega)
  have g3 : IntKind.u32.wrap (x7.tdiv 8) = x7 / 8 := by rcases h7 with k | k <;> subst k <;> decide
  have g4 : rngI .i64 (IntKind.u32.wrap (x7.tdiv 8)) := by rw [g3]; exact rng64 (by omega) (by omega)
  have s1 : shI 0 x4 = x4 := rfl
  have s2 : shI 0 r = r := rfl
  have s3 : shI 0 (x7 / 8) = x7 / 8 := rfl
  rw [e, s1, s2, s3]
  (repeat' (first | (refine xI (fun hfk => ?_) (fun hfk => ?_) <;> ((try (first | replace hfk := oT hfk | replace hfk := oF hfk | simp only [oA, oB, dh1, dh0, ne_eq, reduceCtorEq] at hfk)); (try exact oX))) | (refine And.intro ?ob ?_; (case ob => (exact oZ))) | exact True.intro | (show _ = _; first | exact oY | (first | exact hr | exact g3 | rfl; done) | exact rfl) | exact oW | (apply And.intro)))
def fmP (x1 x2 x3 x6 x7 x8 x12 x13 : Int) : Prop := x1 = 0 ∧ x8 = 0 ∧ x12 = 0 ∧ x13 = 0 ∧ x2 = 54 ∧ x3 = 40 ∧ x6 = 1 ∧ (x7 = 24 ∨ x7 = 32)
instance (x1 x2 x3 x6 x7 x8 x12 x13 : Int) : Decidable (fmP x1 x2 x3 x6 x7 x8 x12 x13) := by unfold fmP; exact inferInstance
abbrev hformS : PSpec := fun l => match l with | [.rop (.agg [.int .u32 x0, .int .u32 x1, .int .u32 x2, .int .u32 x3, .int .u32 x4, .int .u32 x5, .int .u32 x6, .int .u32 x7, .int .u32 x8, .int .u32 x9, .int .u32 x10, .int .u32 x11, .int .u32 x12, .int .u32 x13])] => some ([], .bool (decide (fmP x1 x2 x3 x6 x7 x8 x12 x13))) | _ => none
theorem hform_s : SOK Tryz.prog 55 hformS := by
  refine sok_of (C := mkC 0 [] noG) (mkC_ok pok_nil noG_ok) rfl mixed ⟨Tryz.func55, by kernel_rfl, by kernel_rfl, by kernel_rfl⟩ fun l obs v h ho => ?_
  (unfold hformS at h; split at h; rotate_left; (focus (cases h)); rename_i x0 x1 x2 x3 x4 x5 x6 x7 x8 x9 x10 x11 x12 x13; simp only [Option.some.injEq, Prod.mk.injEq] at h; obtain ⟨rfl, rfl⟩ := h; simp only [List.mem_cons, List.not_mem_nil, or_false, forall_eq_or_imp, forall_eq, false_implies, implies_true] at ho)
  refine ⟨Nat.le_of_ble_eq_true rfl, ?_⟩
  (repeat' (first | (refine xI (fun hfk => ?_) (fun hfk => ?_) <;> ((try (first | replace hfk := oT hfk | replace hfk := oF hfk | simp only [oA, oB, dh1, dh0, ne_eq, reduceCtorEq] at hfk)); (try exact oX))) | (refine And.intro ?ob ?_; (case ob => (exact oZ))) | exact True.intro | (show _ = _; first | exact oY | (skip; done) | exact rfl) | exact oW | (apply And.intro)))
  refine ⟨Nat, fun i => [(0, .rop (.agg [.int .u32 x0, .int .u32 x1, .int .u32 x2, .int .u32 x3, .int .u32 x4, .int .u32 x5, .int .u32 x6, .int .u32 x7, .int .u32 x8, .int .u32 x9, .int .u32 x10, .int .u32 x11, .int .u32 x12, .int .u32 x13])), (21, .agg [.int .u32 x1, .int .u32 x8, .int .u32 x12, .int .u32 x13]), (22, .int .i64 (i : Int))], fun i => ⟨0, []⟩, fun i => i ≤ 4 ∧ ∀ j, j < i → [x1, x8, x12, x13].getD j 0 = 0, fun i => 4 - i, ⟨0, [], ⟨by omega, fun j hj => by omega⟩, ?_⟩, fun i hi => ?_⟩
  · (repeat' (first | (refine And.intro ?_ ?_) | exact True.intro | (show _ = _; with_reducible rfl) | exact Chk.mk (by kernel_rfl)))
    all_goals rfl
  obtain ⟨i1, i2⟩ := hi
  have i1 : i ≤ 4 := i1
  by_cases hlt : i < 4
  · have ri : rngI .i64 ((i : Int) + 1) := rng64 (by omega) (by omega)
    by_cases hx : [x1, x8, x12, x13].getD i 0 = 0
    · have hx' : ¬ [x1, x8, x12, x13].getD (i : Int).toNat 0 ≠ 0 := fun k => k hx
      (repeat' (first | (refine xI (fun hfk => ?_) (fun hfk => ?_) <;> ((try (first | replace hfk := oT hfk | replace hfk := oF hfk | simp only [oA, oB, dh1, dh0, ne_eq, reduceCtorEq] at hfk)); (try exact oX))) | (refine And.intro ?ob ?_; (case ob => (exact oZ))) | exact True.intro | (show _ = _; first | exact oY | (skip; done) | exact rfl) | exact oW | (apply And.intro)))
      refine ⟨i + 1, [], ⟨hlt, fun j hj => ?_⟩, ?mu, ?_⟩
      case mu => (show 4 - (i + 1) < 4 - i; omega)
      · by_cases hji : j = i
        · subst hji; exact hx
        · exact i2 j (by omega)
      (repeat' (first | (refine And.intro ?_ ?_) | exact True.intro | (show _ = _; with_reducible rfl) | exact Chk.mk (by kernel_rfl)))
      all_goals first | rfl | (show (_ : Int) = _; omega)
    · have hx' : [x1, x8, x12, x13].getD (i : Int).toNat 0 ≠ 0 := hx
      have hn : decide (fmP x1 x2 x3 x6 x7 x8 x12 x13) = false := decide_eq_false fun k => by
        obtain ⟨a1, a2, a3, a4, _⟩ := k
        have : i = 0 ∨ i = 1 ∨ i = 2 ∨ i = 3 := by omega
        rcases this with q | q | q | q <;> subst q
        · exact hx a1
        · exact hx a2
        · exact hx a3
        · exact hx a4
      rw [hn]
      (repeat' (first | (refine xI (fun hfk => ?_) (fun hfk => ?_) <;> ((try (first | replace hfk := oT hfk | replace hfk := oF hfk | simp only [oA, oB, dh1, dh0, ne_eq, reduceCtorEq] at hfk)); (try exact oX))) | (refine And.intro ?ob ?_; (case ob => (exact oZ))) | exact True.intro | (show _ = _; first | exact oY | (rfl; done) | exact rfl) | exact oW | (apply And.intro)))
  · have a1 : x1 = 0 := i2 0 (by omega)
    have a2 : x8 = 0 := i2 1 (by omega)
    have a3 : x12 = 0 := i2 2 (by omega)
    have a4 : x13 = 0 := i2 3 (by omega)
    by_cases b1 : x2 = 54
    · by_cases b2 : x3 = 40
      · by_cases b3 : x6 = 1
        · by_cases b4 : x7 = 24
          · have hn : decide (fmP x1 x2 x3 x6 x7 x8 x12 x13) = true := decide_eq_true ⟨a1, a2, a3, a4, b1, b2, b3, .inl b4⟩
            rw [hn]
            (repeat' (first | (refine xI (fun hfk => ?_) (fun hfk => ?_) <;> ((try (first | replace hfk := oT hfk | replace hfk := oF hfk | simp only [oA, oB, dh1, dh0, ne_eq, reduceCtorEq] at hfk)); (try exact oX))) | (refine And.intro ?ob ?_; (case ob => (exact oZ))) | exact True.intro | (show _ = _; first | exact oY | (rfl; done) | exact rfl) | exact oW | (apply And.intro)))
          · have hn : decide (fmP x1 x2 x3 x6 x7 x8 x12 x13) = decide (x7 = 32) := decide_eq_decide.2 ⟨fun k => k.2.2.2.2.2.2.2.elim (fun k => absurd k b4) id, fun k => ⟨a1, a2, a3, a4, b1, b2, b3, .inr k⟩⟩
            rw [hn]
            (repeat' (first | (refine xI (fun hfk => ?_) (fun hfk => ?_) <;> ((try (first | replace hfk := oT hfk | replace hfk := oF hfk | simp only [oA, oB, dh1, dh0, ne_eq, reduceCtorEq] at hfk)); (try exact oX))) | (refine And.intro ?ob ?_; (case ob => (exact oZ))) | exact True.intro | (show _ = _; first | exact oY | (rfl; done) | exact rfl) | exact oW | (apply And.intro)))
        · have hn : decide (fmP x1 x2 x3 x6 x7 x8 x12 x13) = false := decide_eq_false fun k => b3 k.2.2.2.2.2.2.1
          rw [hn]
          (repeat' (first | (refine xI (fun hfk => ?_) (fun hfk => ?_) <;> ((try (first | replace hfk := oT hfk | replace hfk := oF hfk | simp only [oA, oB, dh1, dh0, ne_eq, reduceCtorEq] at hfk)); (try exact oX))) | (refine And.intro ?ob ?_; (case ob => (exact oZ))) | exact True.intro | (show _ = _; first | exact oY | (rfl; done) | exact rfl) | exact oW | (apply And.intro)))
      · have hn : decide (fmP x1 x2 x3 x6 x7 x8 x12 x13) = false := decide_eq_false fun k => b2 k.2.2.2.2.2.1
        rw [hn]
        (repeat' (first | (refine xI (fun hfk => ?_) (fun hfk => ?_) <;> ((try (first | replace hfk := oT hfk | replace hfk := oF hfk | simp only [oA, oB, dh1, dh0, ne_eq, reduceCtorEq] at hfk)); (try exact oX))) | (refine And.intro ?ob ?_; (case ob => (exact oZ))) | exact True.intro | (show _ = _; first | exact oY | (rfl; done) | exact rfl) | exact oW | (apply And.intro)))
    · have hn : decide (fmP x1 x2 x3 x6 x7 x8 x12 x13) = false := decide_eq_false fun k => b1 k.2.2.2.2.1
      rw [hn]
      (repeat' (first | (refine xI (fun hfk => ?_) (fun hfk => ?_) <;> ((try (first | replace hfk := oT hfk | replace hfk := oF hfk | simp only [oA, oB, dh1, dh0, ne_eq, reduceCtorEq] at hfk)); (try exact oX))) | (refine And.intro ?ob ?_; (case ob => (exact oZ))) | exact True.intro | (show _ = _; first | exact oY | (rfl; done) | exact rfl) | exact oW | (apply And.intro)))
abbrev hsumsS : PSpec := fun l => match l with | [.rop (.agg [.int .u32 x0, .int .u32 x1, .int .u32 x2, .int .u32 x3, .int .u32 x4, .int .u32 x5, .int .u32 x6, .int .u32 x7, .int .u32 x8, .int .u32 x9, .int .u32 x10, .int .u32 x11, .int .u32 x12, .int .u32 x13]), .int .i64 all] => some ([54 ≤ all, all < 4294967296], .bool (decide (x0 = all ∧ (x9 = 0 ∨ x9 = all - 54)))) | _ => none
theorem hsums_s : SOK Tryz.prog 58 hsumsS := by
  refine sok_of (C := mkC 0 [] noG) (mkC_ok pok_nil noG_ok) rfl mixed ⟨Tryz.func58, by kernel_rfl, by kernel_rfl, by kernel_rfl⟩ fun l obs v h ho => ?_
  (unfold hsumsS at h; split at h; rotate_left; (focus (cases h)); rename_i x0 x1 x2 x3 x4 x5 x6 x7 x8 x9 x10 x11 x12 x13 all; simp only [Option.some.injEq, Prod.mk.injEq] at h; obtain ⟨rfl, rfl⟩ := h; simp only [List.mem_cons, List.not_mem_nil, or_false, forall_eq_or_imp, forall_eq, false_implies, implies_true] at ho)
  refine ⟨Nat.le_of_ble_eq_true rfl, ?_⟩
  obtain ⟨h0, h1⟩ := ho
  have r1 : rngI .i64 (all - 54) := rng64 (by omega) (by omega)
  have e1 : IntKind.u32.wrap (all - 54) = all - 54 := u32_id (by omega) (by omega)
  have e2 : IntKind.u32.wrap all = all := u32_id (by omega) h1
  by_cases b1 : x0 = all
  · by_cases b2 : x9 = 0
    · have hn : decide (x0 = all ∧ (x9 = 0 ∨ x9 = all - 54)) = true := decide_eq_true ⟨b1, .inl b2⟩
      rw [hn]
      (repeat' (first | (refine xI (fun hfk => ?_) (fun hfk => ?_) <;> ((try (first | replace hfk := oT hfk | replace hfk := oF hfk | simp only [oA, oB, dh1, dh0, ne_eq, reduceCtorEq] at hfk)); (try exact oX))) | (refine And.intro ?ob ?_; (case ob => (exact oZ))) | exact True.intro | (show _ = _; first | exact oY | (rfl; done) | exact rfl) | exact oW | (apply And.intro)))
    · have hn : decide (x9 = IntKind.u32.wrap (all - 54)) = decide (x0 = all ∧ (x9 = 0 ∨ x9 = all - 54)) := by
        rw [e1]; exact decide_eq_decide.2 ⟨fun k => ⟨b1, .inr k⟩, fun k => k.2.elim (fun k => absurd k b2) id⟩
      (repeat' (first | (refine xI (fun hfk => ?_) (fun hfk => ?_) <;> ((try (first | replace hfk := oT hfk | replace hfk := oF hfk | simp only [oA, oB, dh1, dh0, ne_eq, reduceCtorEq] at hfk)); (try exact oX))) | (refine And.intro ?ob ?_; (case ob => (exact oZ))) | exact True.intro | (show _ = _; first | exact oY | (exact hn; done) | exact rfl) | exact oW | (apply And.intro)))
  · have hn : decide (x0 = all ∧ (x9 = 0 ∨ x9 = all - 54)) = false := decide_eq_false fun k => b1 k.1
    have b1' : ¬ x0 = IntKind.u32.wrap all := by rw [e2]; exact b1
    rw [hn]
    (repeat' (first | (refine xI (fun hfk => ?_) (fun hfk => ?_) <;> ((try (first | replace hfk := oT hfk | replace hfk := oF hfk | simp only [oA, oB, dh1, dh0, ne_eq, reduceCtorEq] at hfk)); (try exact oX))) | (refine And.intro ?ob ?_; (case ob => (exact oZ))) | exact True.intro | (show _ = _; first | exact oY | (rfl; done) | exact rfl) | exact oW | (apply And.intro)))
abbrev hdEn (x0 x1 x2 x3 x4 x5 x6 x7 x8 x9 x10 x11 x12 x13 : Int) : Ent := .cells 89 [.int .u32 x0, .int .u32 x1, .int .u32 x2, .int .u32 x3, .int .u32 x4, .int .u32 x5, .int .u32 x6, .int .u32 x7, .int .u32 x8, .int .u32 x9, .int .u32 x10, .int .u32 x11, .int .u32 x12, .int .u32 x13]
def fieldsF : FSpec := fun l es => match l, es with
  | [.ptr 0 0], [.cells 89 [.int .u32 x0, .int .u32 x1, .int .u32 x2, .int .u32 x3, .int .u32 x4, .int .u32 x5, .int .u32 x6, .int .u32 x7, .int .u32 x8, .int .u32 x9, .int .u32 x10, .int .u32 x11, .int .u32 x12, .int .u32 x13]] => some ([], .sl 1 2 0 14, [some (hdEn x0 x1 x2 x3 x4 x5 x6 x7 x8 x9 x10 x11 x12 x13), some (.cells 131 [.ptr 0 0, .int .i64 4, .ptr 0 1, .int .i64 4, .ptr 0 2, .int .i64 4, .ptr 0 3, .int .i64 4, .ptr 0 4, .int .i64 4, .ptr 0 5, .int .i64 4, .ptr 0 6, .int .i64 2, .ptr 0 7, .int .i64 2, .ptr 0 8, .int .i64 4, .ptr 0 9, .int .i64 4, .ptr 0 10, .int .i64 4, .ptr 0 11, .int .i64 4, .ptr 0 12, .int .i64 4, .ptr 0 13, .int .i64 4])])
  | _, _ => none
theorem fields_g : GSOK Tryz.prog 90 (fG fieldsF) := by
  refine fokE (S := []) (G := noG) [] [] [] pok_nil noG_ok dl_nil ⟨Tryz.func90, by kernel_rfl, by kernel_rfl, by kernel_rfl⟩ fun l es obs v es' h ho => ?_
  (unfold fieldsF at h; split at h; rotate_left; (focus (cases h)); rename_i x0 x1 x2 x3 x4 x5 x6 x7 x8 x9 x10 x11 x12 x13; simp only [Option.some.injEq, Prod.mk.injEq] at h; obtain ⟨rfl, rfl, rfl⟩ := h; simp only [List.mem_cons, List.not_mem_nil, or_false, forall_eq_or_imp, forall_eq, false_implies, implies_true] at ho)
  refine ⟨Nat.le_of_ble_eq_true rfl, ?_⟩
  (repeat' (first | (refine xI (fun hfk => ?_) (fun hfk => ?_) <;> ((try (first | replace hfk := oT hfk | replace hfk := oF hfk | simp only [oA, oB, dh1, dh0, ne_eq, reduceCtorEq] at hfk)); (try exact oX))) | (refine And.intro ?ob ?_; (case ob => (exact oZ))) | exact True.intro | (show _ = _; first | exact oY | (skip; done) | exact rfl) | exact oW | (apply And.intro)))
  refine ⟨[some 0, some 1], ?_⟩
  (repeat' (first | (refine xI (fun hfk => ?_) (fun hfk => ?_) <;> ((try (first | replace hfk := oT hfk | replace hfk := oF hfk | simp only [oA, oB, dh1, dh0, ne_eq, reduceCtorEq] at hfk)); (try exact oX))) | (refine And.intro ?ob ?_; (case ob => (exact oZ))) | exact True.intro | (show _ = _; first | exact oY | (skip; done) | exact rfl) | exact oW | (apply And.intro)))
end Go.Proofs.YtljdahepmmgfeaaGreatDoor
namespace Go.Proofs.YtljdahepmmgfeaaGreatDoor
open Go Go.RowKit
set_option maxHeartbeats 4000000
def offs (i : Nat) : Int := [0, 4, 8, 12, 16, 20, 24, 26, 28, 32, 36, 40, 44, 48, 52].getD i 0
def hsel (i j : Nat) (F x : Int) : Int := bif Nat.blt j i then F else x
theorem cR0 (b : List Int) : cR b 0 = b := by simp
theorem low_at {b : List Int} {a k : Int} (h0 : 0 ≤ a) (h1 : 1 ≤ k) (h4 : k ≤ 4) (h : a + k ≤ b.length) : lowC k (cR b a).length = 0 ∧ lowV ((cR b a).take k.toNat) = lw b a k := by
  have el : (cR b a).length = b.length - a.toNat := by simp
  refine ⟨by unfold lowC; rw [if_neg (by omega), if_neg (by omega)], ?_⟩
  unfold lw cR
  rw [List.take_take, Nat.min_eq_left (by omega)]
def tkC (b : List Int) : Int := if wordC b [66, 77] ≠ 0 then wordC b [66, 77] else if b.length < 54 then 20 else 0
def tkA (b : List Int) : Int := if wordC b [66, 77] ≠ 0 then 0 else if b.length < 54 then 2 else 54
abbrev cut2 (n : Nat) (a : Int) : Ent := .cells 120 [.sl 2 1 0 n, .int .i64 a]
def takeHF : FSpec := fun l es => match l, es with
  | [.ptr 0 0, .ptr 1 0], [.cells 89 [.int .u32 x0, .int .u32 x1, .int .u32 x2, .int .u32 x3, .int .u32 x4, .int .u32 x5, .int .u32 x6, .int .u32 x7, .int .u32 x8, .int .u32 x9, .int .u32 x10, .int .u32 x11, .int .u32 x12, .int .u32 x13], .cells 120 [.sl 2 1 0 n, .int .i64 a], .ints 5 .u8 b] =>
    some ([n = b.length, a = 0, Byt b], .int .i64 (tkC b), [some (.cells 89 [.int .u32 (if tkC b = 0 then lw b 2 4 else x0), .int .u32 (if tkC b = 0 then lw b 6 4 else x1), .int .u32 (if tkC b = 0 then lw b 10 4 else x2), .int .u32 (if tkC b = 0 then lw b 14 4 else x3), .int .u32 (if tkC b = 0 then lw b 18 4 else x4), .int .u32 (if tkC b = 0 then lw b 22 4 else x5), .int .u32 (if tkC b = 0 then lw b 26 2 else x6), .int .u32 (if tkC b = 0 then lw b 28 2 else x7), .int .u32 (if tkC b = 0 then lw b 30 4 else x8), .int .u32 (if tkC b = 0 then lw b 34 4 else x9), .int .u32 (if tkC b = 0 then lw b 38 4 else x10), .int .u32 (if tkC b = 0 then lw b 42 4 else x11), .int .u32 (if tkC b = 0 then lw b 46 4 else x12), .int .u32 (if tkC b = 0 then lw b 50 4 else x13)]), some (cut2 n (tkA b)), some (bE b)])
  | _, _ => none
theorem takeH_g : GSOK Tryz.prog 54 (fG takeHF) := by
  refine fokE (S := [(52, leftS)]) (G := glook [(89, fG cwordF), (90, fG fieldsF)]) [(91, clowF)] [] [] (pok_cons left_s pok_nil) (gl_cons cword_g (gl_cons fields_g gl_nil)) (dl_cons clow_g dl_nil) ⟨Tryz.func54, by kernel_rfl, by kernel_rfl, by kernel_rfl⟩ fun l es obs v es' h ho => ?_
  (unfold takeHF at h; split at h; rotate_left; (focus (cases h)); rename_i x0 x1 x2 x3 x4 x5 x6 x7 x8 x9 x10 x11 x12 x13 n a b; simp only [Option.some.injEq, Prod.mk.injEq] at h; obtain ⟨rfl, rfl, rfl⟩ := h; simp only [List.mem_cons, List.not_mem_nil, or_false, forall_eq_or_imp, forall_eq, false_implies, implies_true] at ho)
  obtain ⟨rfl, rfl, hb⟩ := ho
  have bl := hb.le
  have bb := hb.bd
  refine ⟨Nat.le_of_ble_eq_true rfl, ?_⟩
  have es : strI (ByteArray.mk #[66, 77]).data.toList = [66, 77] := rfl
  have hw0 : wordC (cR b 0) (strI (ByteArray.mk #[66, 77]).data.toList) = wordC b [66, 77] := by rw [cR0]; rfl
  have hwn : wordN (cR b 0) (ByteArray.mk #[66, 77]).data.toList = if wordC b [66, 77] = 0 then 2 else 0 := by unfold wordN; rw [hw0]; rfl
  have : (List.take (b).length (List.drop 0 (b))).length = (b).length := by simp
  by_cases k1 : wordC b [66, 77] = 0
  rotate_left
  · have e : tkC b = wordC b [66, 77] := if_pos k1
    have e2 : tkA b = 0 := if_pos k1
    have hw1 : ¬ wordC (cR b 0) (strI (ByteArray.mk #[66, 77]).data.toList) = 0 := by rw [hw0]; exact k1
    have hx : ∀ F x : Int, x = if tkC b = 0 then F else x := fun F x => by rw [e, if_neg k1]
    have hr : wordC (cR b 0) (strI (ByteArray.mk #[66, 77]).data.toList) = tkC b := by rw [hw0, e]
    have ha : (0 : Int) + wordN (cR b 0) (ByteArray.mk #[66, 77]).data.toList = tkA b := by rw [hwn, e2, if_neg k1]; rfl
    (repeat' (first | (refine xI (fun hfk => ?_) (fun hfk => ?_) <;> ((try (first | replace hfk := oT hfk | replace hfk := oF hfk | simp only [oA, oB, dh1, dh0, ne_eq, reduceCtorEq] at hfk)); (try exact oX))) | (refine And.intro ?ob ?_; (case ob => (exact oZ))) | exact True.intro | (show _ = _; first | exact oY | (skip; done) | exact rfl) | exact oW | (apply And.intro)))
    (refine ⟨[1, 2], ⟨by kernel_rfl⟩, ?_⟩)
    (repeat' (first | (refine xI (fun hfk => ?_) (fun hfk => ?_) <;> ((try (first | replace hfk := oT hfk | replace hfk := oF hfk | simp only [oA, oB, dh1, dh0, ne_eq, reduceCtorEq] at hfk)); (try exact oX))) | (refine And.intro ?ob ?_; (case ob => (exact oZ))) | exact True.intro | (show _ = _; first | exact oY | (skip; done) | exact rfl) | exact oW | (apply And.intro)))
    refine ⟨[some 0, some 1, some 2], ?_⟩
    (repeat' (first | (refine And.intro ?_ ?_) | exact True.intro | (show _ = _; with_reducible rfl) | exact Chk.mk (by kernel_rfl)))
    all_goals first | rfl | exact hr | exact ha | exact hx _ _
  have hw2 : wordN (cR b 0) (ByteArray.mk #[66, 77]).data.toList = 2 := by rw [hwn, if_pos k1]
  have hw3 : wordC (cR b 0) (strI (ByteArray.mk #[66, 77]).data.toList) = 0 := by rw [hw0]; exact k1
  have hl2 : 2 ≤ b.length := by have := wordC_le k1; simpa using this
  have ra : rngI .i64 ((0 : Int) + wordN (cR b 0) (ByteArray.mk #[66, 77]).data.toList) := by rw [hw2]; exact rng64 (by decide) (by decide)
  by_cases k2 : b.length < 54
  · have e : tkC b = 20 := by unfold tkC; rw [if_neg (fun k => k k1), if_pos k2]
    have e2 : tkA b = 2 := by unfold tkA; rw [if_neg (fun k => k k1), if_pos k2]
    have hx : ∀ F x : Int, x = if tkC b = 0 then F else x := fun F x => by rw [e]; rfl
    have hr : (20 : Int) = tkC b := e.symm
    have ha : (0 : Int) + wordN (cR b 0) (ByteArray.mk #[66, 77]).data.toList = tkA b := by rw [hw2, e2]; rfl
    (repeat' (first | (refine xI (fun hfk => ?_) (fun hfk => ?_) <;> ((try (first | replace hfk := oT hfk | replace hfk := oF hfk | simp only [oA, oB, dh1, dh0, ne_eq, reduceCtorEq] at hfk)); (try exact oX))) | (refine And.intro ?ob ?_; (case ob => (exact oZ))) | exact True.intro | (show _ = _; first | exact oY | (skip; done) | exact rfl) | exact oW | (apply And.intro)))
    (refine ⟨[1, 2], ⟨by kernel_rfl⟩, ?_⟩)
    (repeat' (first | (refine xI (fun hfk => ?_) (fun hfk => ?_) <;> ((try (first | replace hfk := oT hfk | replace hfk := oF hfk | simp only [oA, oB, dh1, dh0, ne_eq, reduceCtorEq] at hfk)); (try exact oX))) | (refine And.intro ?ob ?_; (case ob => (exact oZ))) | exact True.intro | (show _ = _; first | exact oY | (skip; done) | exact rfl) | exact oW | (apply And.intro)))
    refine ⟨[some 0, some 1, some 2], ?_⟩
    (repeat' (first | (refine And.intro ?_ ?_) | exact True.intro | (show _ = _; with_reducible rfl) | exact Chk.mk (by kernel_rfl)))
    all_goals first | rfl | exact hr | exact ha | exact hx _ _
  have e : tkC b = 0 := by unfold tkC; rw [if_neg (fun k => k k1), if_neg k2]
  have e2 : tkA b = 54 := by unfold tkA; rw [if_neg (fun k => k k1), if_neg k2]
  have hr : (0 : Int) = tkC b := e.symm
  (repeat' (first | (refine xI (fun hfk => ?_) (fun hfk => ?_) <;> ((try (first | replace hfk := oT hfk | replace hfk := oF hfk | simp only [oA, oB, dh1, dh0, ne_eq, reduceCtorEq] at hfk)); (try exact oX))) | (refine And.intro ?ob ?_; (case ob => (exact oZ))) | exact True.intro | (show _ = _; first | exact oY | (skip; done) | exact rfl) | exact oW | (apply And.intro)))
  (refine ⟨[1, 2], ⟨by kernel_rfl⟩, ?_⟩)
  (repeat' (first | (refine xI (fun hfk => ?_) (fun hfk => ?_) <;> ((try (first | replace hfk := oT hfk | replace hfk := oF hfk | simp only [oA, oB, dh1, dh0, ne_eq, reduceCtorEq] at hfk)); (try exact oX))) | (refine And.intro ?ob ?_; (case ob => (exact oZ))) | exact True.intro | (show _ = _; first | exact oY | (skip; done) | exact rfl) | exact oW | (apply And.intro)))
  (refine ⟨[0], ⟨by kernel_rfl⟩, ?_⟩)
  (repeat' (first | (refine xI (fun hfk => ?_) (fun hfk => ?_) <;> ((try (first | replace hfk := oT hfk | replace hfk := oF hfk | simp only [oA, oB, dh1, dh0, ne_eq, reduceCtorEq] at hfk)); (try exact oX))) | (refine And.intro ?ob ?_; (case ob => (exact oZ))) | exact True.intro | (show _ = _; first | exact oY | (skip; done) | exact rfl) | exact oW | (apply And.intro)))
  have ha0 : (0 : Int) + wordN (cR b 0) (ByteArray.mk #[66, 77]).data.toList = 2 + offs 0 := by rw [hw2]; rfl
  refine ⟨Nat, fun i => [(0, .ptr 0 0), (1, .ptr 1 0), (17, .sl 3 2 0 14), (18, .int .i64 14), (19, .int .i64 (i : Int))],
    fun i => ⟨4, [(0, some (.cells 89 [.int .u32 (hsel i 0 (lw b (2 + offs 0) 4) x0), .int .u32 (hsel i 1 (lw b (2 + offs 1) 4) x1), .int .u32 (hsel i 2 (lw b (2 + offs 2) 4) x2), .int .u32 (hsel i 3 (lw b (2 + offs 3) 4) x3), .int .u32 (hsel i 4 (lw b (2 + offs 4) 4) x4), .int .u32 (hsel i 5 (lw b (2 + offs 5) 4) x5), .int .u32 (hsel i 6 (lw b (2 + offs 6) 2) x6), .int .u32 (hsel i 7 (lw b (2 + offs 7) 2) x7), .int .u32 (hsel i 8 (lw b (2 + offs 8) 4) x8), .int .u32 (hsel i 9 (lw b (2 + offs 9) 4) x9), .int .u32 (hsel i 10 (lw b (2 + offs 10) 4) x10), .int .u32 (hsel i 11 (lw b (2 + offs 11) 4) x11), .int .u32 (hsel i 12 (lw b (2 + offs 12) 4) x12), .int .u32 (hsel i 13 (lw b (2 + offs 13) 4) x13)])), (1, some (cut2 b.length (2 + offs i))), (2, some (bE b)), (3, some (.cells 131 [.ptr 0 0, .int .i64 4, .ptr 0 1, .int .i64 4, .ptr 0 2, .int .i64 4, .ptr 0 3, .int .i64 4, .ptr 0 4, .int .i64 4, .ptr 0 5, .int .i64 4, .ptr 0 6, .int .i64 2, .ptr 0 7, .int .i64 2, .ptr 0 8, .int .i64 4, .ptr 0 9, .int .i64 4, .ptr 0 10, .int .i64 4, .ptr 0 11, .int .i64 4, .ptr 0 12, .int .i64 4, .ptr 0 13, .int .i64 4]))]⟩,
    fun i => i ≤ 14, fun i => 14 - i, ⟨0, [some 0, some 1, some 2, some 3], by omega, ?_⟩, fun i hi => ?_⟩
  · (repeat' (first | (refine And.intro ?_ ?_) | exact True.intro | (show _ = _; with_reducible rfl) | exact Chk.mk (by kernel_rfl)))
    all_goals first | rfl | exact ha0
  have hi : i ≤ 14 := hi
  have hc : i = 0 ∨ i = 1 ∨ i = 2 ∨ i = 3 ∨ i = 4 ∨ i = 5 ∨ i = 6 ∨ i = 7 ∨ i = 8 ∨ i = 9 ∨ i = 10 ∨ i = 11 ∨ i = 12 ∨ i = 13 ∨ i = 14 := by omega
  rcases hc with q | q | q | q | q | q | q | q | q | q | q | q | q | q | q <;> subst q
  · have p0 : offs 0 = 0 := rfl
    have p1 : offs 1 = 4 := rfl
    obtain ⟨f1, f2⟩ := low_at (b := b) (a := 2 + offs 0) (k := 4) (by omega) (by omega) (by omega) (by omega)
    have v1 : (if lowC 4 (cR b (2 + offs 0)).length = 0 then lowV ((cR b (2 + offs 0)).take (4 : Int).toNat) else 0) = lw b (2 + offs 0) 4 := by rw [if_pos f1, f2]
    have v2 : 2 + offs 0 + (if lowC 4 (cR b (2 + offs 0)).length = 0 then 4 else 0) = 2 + offs 1 := by rw [if_pos f1]; rfl
    (repeat' (first | (refine xI (fun hfk => ?_) (fun hfk => ?_) <;> ((try (first | replace hfk := oT hfk | replace hfk := oF hfk | simp only [oA, oB, dh1, dh0, ne_eq, reduceCtorEq] at hfk)); (try exact oX))) | (refine And.intro ?ob ?_; (case ob => (exact oZ))) | exact True.intro | (show _ = _; first | exact oY | (exact bb; done) | exact rfl) | exact oW | (apply And.intro)))
    refine ⟨1, [some 0, some 1, some 2, some 3], by omega, ?mu, ?_⟩
    case mu => (show 14 - 1 < 14 - 0; omega)
    (repeat' (first | (refine And.intro ?_ ?_) | exact True.intro | (show _ = _; with_reducible rfl) | exact Chk.mk (by kernel_rfl)))
    all_goals first | rfl | exact v1 | exact v2
  · have p0 : offs 1 = 4 := rfl
    have p1 : offs 2 = 8 := rfl
    obtain ⟨f1, f2⟩ := low_at (b := b) (a := 2 + offs 1) (k := 4) (by omega) (by omega) (by omega) (by omega)
    have v1 : (if lowC 4 (cR b (2 + offs 1)).length = 0 then lowV ((cR b (2 + offs 1)).take (4 : Int).toNat) else 0) = lw b (2 + offs 1) 4 := by rw [if_pos f1, f2]
    have v2 : 2 + offs 1 + (if lowC 4 (cR b (2 + offs 1)).length = 0 then 4 else 0) = 2 + offs 2 := by rw [if_pos f1]; rfl
    (repeat' (first | (refine xI (fun hfk => ?_) (fun hfk => ?_) <;> ((try (first | replace hfk := oT hfk | replace hfk := oF hfk | simp only [oA, oB, dh1, dh0, ne_eq, reduceCtorEq] at hfk)); (try exact oX))) | (refine And.intro ?ob ?_; (case ob => (exact oZ))) | exact True.intro | (show _ = _; first | exact oY | (exact bb; done) | exact rfl) | exact oW | (apply And.intro)))
    refine ⟨2, [some 0, some 1, some 2, some 3], by omega, ?mu, ?_⟩
    case mu => (show 14 - 2 < 14 - 1; omega)
    (repeat' (first | (refine And.intro ?_ ?_) | exact True.intro | (show _ = _; with_reducible rfl) | exact Chk.mk (by kernel_rfl)))
    all_goals first | rfl | exact v1 | exact v2
  · have p0 : offs 2 = 8 := rfl
    have p1 : offs 3 = 12 := rfl
    obtain ⟨f1, f2⟩ := low_at (b := b) (a := 2 + offs 2) (k := 4) (by omega) (by omega) (by omega) (by omega)
    have v1 : (if lowC 4 (cR b (2 + offs 2)).length = 0 then lowV ((cR b (2 + offs 2)).take (4 : Int).toNat) else 0) = lw b (2 + offs 2) 4 := by rw [if_pos f1, f2]
    have v2 : 2 + offs 2 + (if lowC 4 (cR b (2 + offs 2)).length = 0 then 4 else 0) = 2 + offs 3 := by rw [if_pos f1]; rfl
    (repeat' (first | (refine xI (fun hfk => ?_) (fun hfk => ?_) <;> ((try (first | replace hfk := oT hfk | replace hfk := oF hfk | simp only [oA, oB, dh1, dh0, ne_eq, reduceCtorEq] at hfk)); (try exact oX))) | (refine And.intro ?ob ?_; (case ob => (exact oZ))) | exact True.intro | (show _ = _; first | exact oY | (exact bb; done) | exact rfl) | exact oW | (apply And.intro)))
    refine ⟨3, [some 0, some 1, some 2, some 3], by omega, ?mu, ?_⟩
    case mu => (show 14 - 3 < 14 - 2; omega)
    (repeat' (first | (refine And.intro ?_ ?_) | exact True.intro | (show _ = _; with_reducible rfl) | exact Chk.mk (by kernel_rfl)))
    all_goals first | rfl | exact v1 | exact v2
  · have p0 : offs 3 = 12 := rfl
    have p1 : offs 4 = 16 := rfl
    obtain ⟨f1, f2⟩ := low_at (b := b) (a := 2 + offs 3) (k := 4) (by omega) (by omega) (by omega) (by omega)
    have v1 : (if lowC 4 (cR b (2 + offs 3)).length = 0 then lowV ((cR b (2 + offs 3)).take (4 : Int).toNat) else 0) = lw b (2 + offs 3) 4 := by rw [if_pos f1, f2]
    have v2 : 2 + offs 3 + (if lowC 4 (cR b (2 + offs 3)).length = 0 then 4 else 0) = 2 + offs 4 := by rw [if_pos f1]; rfl
    (repeat' (first | (refine xI (fun hfk => ?_) (fun hfk => ?_) <;> ((try (first | replace hfk := oT hfk | replace hfk := oF hfk | simp only [oA, oB, dh1, dh0, ne_eq, reduceCtorEq] at hfk)); (try exact oX))) | (refine And.intro ?ob ?_; (case ob => (exact oZ))) | exact True.intro | (show _ = _; first | exact oY | (exact bb; done) | exact rfl) | exact oW | (apply And.intro)))
    refine ⟨4, [some 0, some 1, some 2, some 3], by omega, ?mu, ?_⟩
    case mu => (show 14 - 4 < 14 - 3; omega)
    (repeat' (first | (refine And.intro ?_ ?_) | exact True.intro | (show _ = _; with_reducible rfl) | exact Chk.mk (by kernel_rfl)))
    all_goals first | rfl | exact v1 | exact v2
  · have p0 : offs 4 = 16 := rfl
    have p1 : offs 5 = 20 := rfl
    obtain ⟨f1, f2⟩ := low_at (b := b) (a := 2 + offs 4) (k := 4) (by omega) (by omega) (by omega) (by omega)
    have v1 : (if lowC 4 (cR b (2 + offs 4)).length = 0 then lowV ((cR b (2 + offs 4)).take (4 : Int).toNat) else 0) = lw b (2 + offs 4) 4 := by rw [if_pos f1, f2]
    have v2 : 2 + offs 4 + (if lowC 4 (cR b (2 + offs 4)).length = 0 then 4 else 0) = 2 + offs 5 := by rw [if_pos f1]; rfl
    (repeat' (first | (refine xI (fun hfk => ?_) (fun hfk => ?_) <;> ((try (first | replace hfk := oT hfk | replace hfk := oF hfk | simp only [oA, oB, dh1, dh0, ne_eq, reduceCtorEq] at hfk)); (try exact oX))) | (refine And.intro ?ob ?_; (case ob => (exact oZ))) | exact True.intro | (show _ = _; first | exact oY | (exact bb; done) | exact rfl) | exact oW | (apply And.intro)))
    refine ⟨5, [some 0, some 1, some 2, some 3], by omega, ?mu, ?_⟩
    case mu => (show 14 - 5 < 14 - 4; omega)
    (repeat' (first | (refine And.intro ?_ ?_) | exact True.intro | (show _ = _; with_reducible rfl) | exact Chk.mk (by kernel_rfl)))
    all_goals first | rfl | exact v1 | exact v2
  · have p0 : offs 5 = 20 := rfl
    have p1 : offs 6 = 24 := rfl
    obtain ⟨f1, f2⟩ := low_at (b := b) (a := 2 + offs 5) (k := 4) (by omega) (by omega) (by omega) (by omega)
    have v1 : (if lowC 4 (cR b (2 + offs 5)).length = 0 then lowV ((cR b (2 + offs 5)).take (4 : Int).toNat) else 0) = lw b (2 + offs 5) 4 := by rw [if_pos f1, f2]
    have v2 : 2 + offs 5 + (if lowC 4 (cR b (2 + offs 5)).length = 0 then 4 else 0) = 2 + offs 6 := by rw [if_pos f1]; rfl
    (repeat' (first | (refine xI (fun hfk => ?_) (fun hfk => ?_) <;> ((try (first | replace hfk := oT hfk | replace hfk := oF hfk | simp only [oA, oB, dh1, dh0, ne_eq, reduceCtorEq] at hfk)); (try exact oX))) | (refine And.intro ?ob ?_; (case ob => (exact oZ))) | exact True.intro | (show _ = _; first | exact oY | (exact bb; done) | exact rfl) | exact oW | (apply And.intro)))
    refine ⟨6, [some 0, some 1, some 2, some 3], by omega, ?mu, ?_⟩
    case mu => (show 14 - 6 < 14 - 5; omega)
    (repeat' (first | (refine And.intro ?_ ?_) | exact True.intro | (show _ = _; with_reducible rfl) | exact Chk.mk (by kernel_rfl)))
    all_goals first | rfl | exact v1 | exact v2
  · have p0 : offs 6 = 24 := rfl
    have p1 : offs 7 = 26 := rfl
    obtain ⟨f1, f2⟩ := low_at (b := b) (a := 2 + offs 6) (k := 2) (by omega) (by omega) (by omega) (by omega)
    have v1 : (if lowC 2 (cR b (2 + offs 6)).length = 0 then lowV ((cR b (2 + offs 6)).take (2 : Int).toNat) else 0) = lw b (2 + offs 6) 2 := by rw [if_pos f1, f2]
    have v2 : 2 + offs 6 + (if lowC 2 (cR b (2 + offs 6)).length = 0 then 2 else 0) = 2 + offs 7 := by rw [if_pos f1]; rfl
    (repeat' (first | (refine xI (fun hfk => ?_) (fun hfk => ?_) <;> ((try (first | replace hfk := oT hfk | replace hfk := oF hfk | simp only [oA, oB, dh1, dh0, ne_eq, reduceCtorEq] at hfk)); (try exact oX))) | (refine And.intro ?ob ?_; (case ob => (exact oZ))) | exact True.intro | (show _ = _; first | exact oY | (exact bb; done) | exact rfl) | exact oW | (apply And.intro)))
    refine ⟨7, [some 0, some 1, some 2, some 3], by omega, ?mu, ?_⟩
    case mu => (show 14 - 7 < 14 - 6; omega)
    (repeat' (first | (refine And.intro ?_ ?_) | exact True.intro | (show _ = _; with_reducible rfl) | exact Chk.mk (by kernel_rfl)))
    all_goals first | rfl | exact v1 | exact v2
  · have p0 : offs 7 = 26 := rfl
    have p1 : offs 8 = 28 := rfl
    obtain ⟨f1, f2⟩ := low_at (b := b) (a := 2 + offs 7) (k := 2) (by omega) (by omega) (by omega) (by omega)
    have v1 : (if lowC 2 (cR b (2 + offs 7)).length = 0 then lowV ((cR b (2 + offs 7)).take (2 : Int).toNat) else 0) = lw b (2 + offs 7) 2 := by rw [if_pos f1, f2]
    have v2 : 2 + offs 7 + (if lowC 2 (cR b (2 + offs 7)).length = 0 then 2 else 0) = 2 + offs 8 := by rw [if_pos f1]; rfl
    (repeat' (first | (refine xI (fun hfk => ?_) (fun hfk => ?_) <;> ((try (first | replace hfk := oT hfk | replace hfk := oF hfk | simp only [oA, oB, dh1, dh0, ne_eq, reduceCtorEq] at hfk)); (try exact oX))) | (refine And.intro ?ob ?_; (case ob => (exact oZ))) | exact True.intro | (show _ = _; first | exact oY | (exact bb; done) | exact rfl) | exact oW | (apply And.intro)))
    refine ⟨8, [some 0, some 1, some 2, some 3], by omega, ?mu, ?_⟩
    case mu => (show 14 - 8 < 14 - 7; omega)
    (repeat' (first | (refine And.intro ?_ ?_) | exact True.intro | (show _ = _; with_reducible rfl) | exact Chk.mk (by kernel_rfl)))
    all_goals first | rfl | exact v1 | exact v2
  · have p0 : offs 8 = 28 := rfl
    have p1 : offs 9 = 32 := rfl
    obtain ⟨f1, f2⟩ := low_at (b := b) (a := 2 + offs 8) (k := 4) (by omega) (by omega) (by omega) (by omega)
    have v1 : (if lowC 4 (cR b (2 + offs 8)).length = 0 then lowV ((cR b (2 + offs 8)).take (4 : Int).toNat) else 0) = lw b (2 + offs 8) 4 := by rw [if_pos f1, f2]
    have v2 : 2 + offs 8 + (if lowC 4 (cR b (2 + offs 8)).length = 0 then 4 else 0) = 2 + offs 9 := by rw [if_pos f1]; rfl
    (repeat' (first | (refine xI (fun hfk => ?_) (fun hfk => ?_) <;> ((try (first | replace hfk := oT hfk | replace hfk := oF hfk | simp only [oA, oB, dh1, dh0, ne_eq, reduceCtorEq] at hfk)); (try exact oX))) | (refine And.intro ?ob ?_; (case ob => (exact oZ))) | exact True.intro | (show _ = _; first | exact oY | (exact bb; done) | exact rfl) | exact oW | (apply And.intro)))
    refine ⟨9, [some 0, some 1, some 2, some 3], by omega, ?mu, ?_⟩
    case mu => (show 14 - 9 < 14 - 8; omega)
    (repeat' (first | (refine And.intro ?_ ?_) | exact True.intro | (show _ = _; with_reducible rfl) | exact Chk.mk (by kernel_rfl)))
    all_goals first | rfl | exact v1 | exact v2
  · have p0 : offs 9 = 32 := rfl
    have p1 : offs 10 = 36 := rfl
    obtain ⟨f1, f2⟩ := low_at (b := b) (a := 2 + offs 9) (k := 4) (by omega) (by omega) (by omega) (by omega)
    have v1 : (if lowC 4 (cR b (2 + offs 9)).length = 0 then lowV ((cR b (2 + offs 9)).take (4 : Int).toNat) else 0) = lw b (2 + offs 9) 4 := by rw [if_pos f1, f2]
    have v2 : 2 + offs 9 + (if lowC 4 (cR b (2 + offs 9)).length = 0 then 4 else 0) = 2 + offs 10 := by rw [if_pos f1]; rfl
    (repeat' (first | (refine xI (fun hfk => ?_) (fun hfk => ?_) <;> ((try (first | replace hfk := oT hfk | replace hfk := oF hfk | simp only [oA, oB, dh1, dh0, ne_eq, reduceCtorEq] at hfk)); (try exact oX))) | (refine And.intro ?ob ?_; (case ob => (exact oZ))) | exact True.intro | (show _ = _; first | exact oY | (exact bb; done) | exact rfl) | exact oW | (apply And.intro)))
    refine ⟨10, [some 0, some 1, some 2, some 3], by omega, ?mu, ?_⟩
    case mu => (show 14 - 10 < 14 - 9; omega)
    (repeat' (first | (refine And.intro ?_ ?_) | exact True.intro | (show _ = _; with_reducible rfl) | exact Chk.mk (by kernel_rfl)))
    all_goals first | rfl | exact v1 | exact v2
  · have p0 : offs 10 = 36 := rfl
    have p1 : offs 11 = 40 := rfl
    obtain ⟨f1, f2⟩ := low_at (b := b) (a := 2 + offs 10) (k := 4) (by omega) (by omega) (by omega) (by omega)
    have v1 : (if lowC 4 (cR b (2 + offs 10)).length = 0 then lowV ((cR b (2 + offs 10)).take (4 : Int).toNat) else 0) = lw b (2 + offs 10) 4 := by rw [if_pos f1, f2]
    have v2 : 2 + offs 10 + (if lowC 4 (cR b (2 + offs 10)).length = 0 then 4 else 0) = 2 + offs 11 := by rw [if_pos f1]; rfl
    (repeat' (first | (refine xI (fun hfk => ?_) (fun hfk => ?_) <;> ((try (first | replace hfk := oT hfk | replace hfk := oF hfk | simp only [oA, oB, dh1, dh0, ne_eq, reduceCtorEq] at hfk)); (try exact oX))) | (refine And.intro ?ob ?_; (case ob => (exact oZ))) | exact True.intro | (show _ = _; first | exact oY | (exact bb; done) | exact rfl) | exact oW | (apply And.intro)))
    refine ⟨11, [some 0, some 1, some 2, some 3], by omega, ?mu, ?_⟩
    case mu => (show 14 - 11 < 14 - 10; omega)
    (repeat' (first | (refine And.intro ?_ ?_) | exact True.intro | (show _ = _; with_reducible rfl) | exact Chk.mk (by kernel_rfl)))
    all_goals first | rfl | exact v1 | exact v2
  · have p0 : offs 11 = 40 := rfl
    have p1 : offs 12 = 44 := rfl
    obtain ⟨f1, f2⟩ := low_at (b := b) (a := 2 + offs 11) (k := 4) (by omega) (by omega) (by omega) (by omega)
    have v1 : (if lowC 4 (cR b (2 + offs 11)).length = 0 then lowV ((cR b (2 + offs 11)).take (4 : Int).toNat) else 0) = lw b (2 + offs 11) 4 := by rw [if_pos f1, f2]
    have v2 : 2 + offs 11 + (if lowC 4 (cR b (2 + offs 11)).length = 0 then 4 else 0) = 2 + offs 12 := by rw [if_pos f1]; rfl
    (repeat' (first | (refine xI (fun hfk => ?_) (fun hfk => ?_) <;> ((try (first | replace hfk := oT hfk | replace hfk := oF hfk | simp only [oA, oB, dh1, dh0, ne_eq, reduceCtorEq] at hfk)); (try exact oX))) | (refine And.intro ?ob ?_; (case ob => (exact oZ))) | exact True.intro | (show _ = _; first | exact oY | (exact bb; done) | exact rfl) | exact oW | (apply And.intro)))
    refine ⟨12, [some 0, some 1, some 2, some 3], by omega, ?mu, ?_⟩
    case mu => (show 14 - 12 < 14 - 11; omega)
    (repeat' (first | (refine And.intro ?_ ?_) | exact True.intro | (show _ = _; with_reducible rfl) | exact Chk.mk (by kernel_rfl)))
    all_goals first | rfl | exact v1 | exact v2
  · have p0 : offs 12 = 44 := rfl
    have p1 : offs 13 = 48 := rfl
    obtain ⟨f1, f2⟩ := low_at (b := b) (a := 2 + offs 12) (k := 4) (by omega) (by omega) (by omega) (by omega)
    have v1 : (if lowC 4 (cR b (2 + offs 12)).length = 0 then lowV ((cR b (2 + offs 12)).take (4 : Int).toNat) else 0) = lw b (2 + offs 12) 4 := by rw [if_pos f1, f2]
    have v2 : 2 + offs 12 + (if lowC 4 (cR b (2 + offs 12)).length = 0 then 4 else 0) = 2 + offs 13 := by rw [if_pos f1]; rfl
    (repeat' (first | (refine xI (fun hfk => ?_) (fun hfk => ?_) <;> ((try (first | replace hfk := oT hfk | replace hfk := oF hfk | simp only [oA, oB, dh1, dh0, ne_eq, reduceCtorEq] at hfk)); (try exact oX))) | (refine And.intro ?ob ?_; (case ob => (exact oZ))) | exact True.intro | (show _ = _; first | exact oY | (exact bb; done) | exact rfl) | exact oW | (apply And.intro)))
    refine ⟨13, [some 0, some 1, some 2, some 3], by omega, ?mu, ?_⟩
    case mu => (show 14 - 13 < 14 - 12; omega)
    (repeat' (first | (refine And.intro ?_ ?_) | exact True.intro | (show _ = _; with_reducible rfl) | exact Chk.mk (by kernel_rfl)))
    all_goals first | rfl | exact v1 | exact v2
  · have p0 : offs 13 = 48 := rfl
    have p1 : offs 14 = 52 := rfl
    obtain ⟨f1, f2⟩ := low_at (b := b) (a := 2 + offs 13) (k := 4) (by omega) (by omega) (by omega) (by omega)
    have v1 : (if lowC 4 (cR b (2 + offs 13)).length = 0 then lowV ((cR b (2 + offs 13)).take (4 : Int).toNat) else 0) = lw b (2 + offs 13) 4 := by rw [if_pos f1, f2]
    have v2 : 2 + offs 13 + (if lowC 4 (cR b (2 + offs 13)).length = 0 then 4 else 0) = 2 + offs 14 := by rw [if_pos f1]; rfl
    (repeat' (first | (refine xI (fun hfk => ?_) (fun hfk => ?_) <;> ((try (first | replace hfk := oT hfk | replace hfk := oF hfk | simp only [oA, oB, dh1, dh0, ne_eq, reduceCtorEq] at hfk)); (try exact oX))) | (refine And.intro ?ob ?_; (case ob => (exact oZ))) | exact True.intro | (show _ = _; first | exact oY | (exact bb; done) | exact rfl) | exact oW | (apply And.intro)))
    refine ⟨14, [some 0, some 1, some 2, some 3], by omega, ?mu, ?_⟩
    case mu => (show 14 - 14 < 14 - 13; omega)
    (repeat' (first | (refine And.intro ?_ ?_) | exact True.intro | (show _ = _; with_reducible rfl) | exact Chk.mk (by kernel_rfl)))
    all_goals first | rfl | exact v1 | exact v2
  · have hx : ∀ F x : Int, F = if tkC b = 0 then F else x := fun F x => by rw [e]; rfl
    have ha : 2 + offs 14 = tkA b := by rw [e2]; rfl
    (repeat' (first | (refine xI (fun hfk => ?_) (fun hfk => ?_) <;> ((try (first | replace hfk := oT hfk | replace hfk := oF hfk | simp only [oA, oB, dh1, dh0, ne_eq, reduceCtorEq] at hfk)); (try exact oX))) | (refine And.intro ?ob ?_; (case ob => (exact oZ))) | exact True.intro | (show _ = _; first | exact oY | (skip; done) | exact rfl) | exact oW | (apply And.intro)))
    refine ⟨[some 0, some 1, some 2], ?_⟩
    (repeat' (first | (refine And.intro ?_ ?_) | exact True.intro | (show _ = _; with_reducible rfl) | exact Chk.mk (by kernel_rfl)))
    all_goals first | rfl | exact hr | exact ha | exact hx _ _
end Go.Proofs.YtljdahepmmgfeaaGreatDoor
namespace Go.Proofs.YtljdahepmmgfeaaGreatDoor
open Go Go.RowKit
def catK (f : Nat → List Int) : Nat → List Int
  | 0 => []
  | k + 1 => catK f k ++ f k
theorem catK_len {f : Nat → List Int} {d Q : Nat} (hf : ∀ k, k < Q → (f k).length = d) : ∀ k, k ≤ Q → (catK f k).length = k * d
  | 0, _ => by simp [catK]
  | k + 1, h => by rw [catK, List.length_append, catK_len hf k (by omega), hf k h, Nat.succ_mul]
theorem catK_congr {f g : Nat → List Int} {Q : Nat} (h : ∀ k, k < Q → f k = g k) : ∀ k, k ≤ Q → catK f k = catK g k
  | 0, _ => rfl
  | k + 1, hk => by rw [catK, catK, catK_congr h k (by omega), h k hk]
theorem catK_get {f : Nat → List Int} {d Q : Nat} (hf : ∀ k, k < Q → (f k).length = d) : ∀ m, m ≤ Q → ∀ k j, k < m → j < d → (catK f m).getD (k * d + j) 0 = (f k).getD j 0
  | 0, _, k, j, hk, _ => by omega
  | m + 1, hm, k, j, hk, hj => by
    have hl := catK_len hf m (by omega)
    have hq := hf m hm
    show (catK f m ++ f m).getD (k * d + j) 0 = _
    rw [List.getD_eq_getElem?_getD]
    by_cases he : k = m
    · subst he
      rw [List.getElem?_append_right (by omega), hl, Nat.add_sub_cancel_left, ← List.getD_eq_getElem?_getD]
    · have h1 := prod_of (n := d) (show k < m by omega)
      rw [List.getElem?_append_left (by omega), ← List.getD_eq_getElem?_getD]
      exact catK_get hf m (by omega) k j (by omega) hj
theorem eq_pieces {A B : List Int} {Q d : Nat} (ha : A.length = Q * d) (hb : B.length = Q * d) (h : ∀ k j, k < Q → j < d → A.getD (k * d + j) 0 = B.getD (k * d + j) 0) : A = B := by
  refine list_getD (by rw [ha, hb]) fun i hi => ?_
  rcases Nat.eq_zero_or_pos d with hd | hd
  · subst hd; rw [ha] at hi; omega
  rw [ha] at hi
  have h1 : i / d < Q := (Nat.div_lt_iff_lt_mul hd).2 hi
  have h2 : i % d < d := Nat.mod_lt _ hd
  have h3 : i / d * d + i % d = i := by rw [Nat.mul_comm]; exact Nat.div_add_mod i d
  have := h _ _ h1 h2
  rwa [h3] at this
theorem spl_out {L q : List Int} {o i : Nat} (ho : o + q.length ≤ L.length) (hi : i < o ∨ o + q.length ≤ i) : (spl L o q).getD i 0 = L.getD i 0 := by
  have hl : (L.take o).length = o := by rw [List.length_take]; omega
  unfold spl
  rw [List.getD_eq_getElem?_getD, List.getD_eq_getElem?_getD]
  rcases hi with hi | hi
  · rw [List.getElem?_append_left (by omega), List.getElem?_take_of_lt hi]
  · rw [List.getElem?_append_right (by omega), hl, List.getElem?_append_right (by omega), List.getElem?_drop]
    congr 2; omega
theorem catK_upd {f : Nat → List Int} {d h r : Nat} {q : List Int} (hf : ∀ k, k < h → (f k).length = d) (hr : r < h) (hq : q.length = d) :
    spl (catK f h) (r * d) q = catK (fun k => if k = r then q else f k) h := by
  have hl := catK_len hf h (Nat.le_refl _)
  have hp := prod_of (n := d) hr
  have hf2 : ∀ k, k < h → ((fun k => if k = r then q else f k) k).length = d := fun k hk => by
    show (if k = r then q else f k).length = d
    split
    · exact hq
    · exact hf k hk
  refine eq_pieces (Q := h) (d := d) (by rw [spl_len (by omega), hl]) (catK_len hf2 h (Nat.le_refl _)) fun k j hk hj => ?_
  rw [catK_get hf2 h (Nat.le_refl _) k j hk hj]
  by_cases he : k = r
  · subst he
    rw [spl_get (by omega) (by omega)]; simp
  · have hne : (if k = r then q else f k) = f k := if_neg he
    show _ = (if k = r then q else f k).getD j 0
    rw [hne, spl_out (by omega) ?_, catK_get hf h (Nat.le_refl _) k j hk hj]
    rcases Nat.lt_or_gt_of_ne he with hlt | hgt
    · have := prod_of (n := d) hlt; left; omega
    · have := prod_of (n := d) hgt; right; omega
def sw (t : Nat) : Nat := if t = 0 then 2 else if t = 2 then 0 else t
theorem swapTo_get {L : List Int} {o c : Nat} (hc : 3 ≤ c) : ∀ Q, o + Q * c ≤ L.length →
    (∀ k t, k < Q → t < c → (swapTo L o c Q).getD (o + (k * c + t)) 0 = L.getD (o + (k * c + sw t)) 0) ∧ (∀ i, i < o ∨ o + Q * c ≤ i → (swapTo L o c Q).getD i 0 = L.getD i 0)
  | 0, _ => ⟨fun k t hk => by omega, fun i _ => rfl⟩
  | Q + 1, hl => by
    rw [Nat.succ_mul] at hl
    obtain ⟨i1, i2⟩ := swapTo_get (L := L) (o := o) hc Q (by omega)
    have hlen := swapTo_len L o c Q
    have g0 : (swapTo L o c Q).getD (o + Q * c) 0 = L.getD (o + Q * c) 0 := i2 _ (by right; omega)
    have g2 : (swapTo L o c Q).getD (o + Q * c + 2) 0 = L.getD (o + Q * c + 2) 0 := i2 _ (by right; omega)
    have st : ∀ i, (swapTo L o c (Q + 1)).getD i 0 = if i = o + Q * c + 2 then L.getD (o + Q * c) 0 else if i = o + Q * c then L.getD (o + Q * c + 2) 0 else (swapTo L o c Q).getD i 0 := fun i => by
      show (((swapTo L o c Q).set (o + Q * c) ((swapTo L o c Q).getD (o + Q * c + 2) 0)).set (o + Q * c + 2) ((swapTo L o c Q).getD (o + Q * c) 0)).getD i 0 = _
      rw [set_getD (by rw [List.length_set]; omega), set_getD (by omega), g0, g2]
    refine ⟨fun k t hk ht => ?_, fun i hi => ?_⟩
    · rw [st]
      by_cases hkQ : k = Q
      · subst hkQ
        unfold sw
        by_cases t0 : t = 0
        · subst t0
          rw [if_neg (by omega), if_pos (by omega), if_pos rfl]
          congr 1
        · by_cases t2 : t = 2
          · subst t2
            rw [if_pos (by omega), if_neg (by decide), if_pos rfl]
            congr 1
          · rw [if_neg (by omega), if_neg (by omega), if_neg t0, if_neg t2]
            exact i2 _ (by right; omega)
      · have := prod_of (n := c) (show k < Q by omega)
        rw [if_neg (by omega), if_neg (by omega)]
        exact i1 k t (by omega) ht
    · rw [Nat.succ_mul] at hi
      rw [st, if_neg (by omega), if_neg (by omega)]
      exact i2 i (by omega)
theorem swapTo_spl {L q : List Int} {o c w : Nat} (hc : 3 ≤ c) (hq : q.length = w * c) (ho : o + q.length ≤ L.length) : ∀ k, k ≤ w → swapTo (spl L o q) o c k = spl L o (swapTo q 0 c k)
  | 0, _ => rfl
  | k + 1, hk => by
    have ih := swapTo_spl hc hq ho k (by omega)
    have hp := prod_of (n := c) (show k < w by omega)
    have hl := swapTo_len q 0 c k
    show ((swapTo (spl L o q) o c k).set (o + k * c) ((swapTo (spl L o q) o c k).getD (o + k * c + 2) 0)).set (o + k * c + 2) ((swapTo (spl L o q) o c k).getD (o + k * c) 0)
      = spl L o (((swapTo q 0 c k).set (0 + k * c) ((swapTo q 0 c k).getD (0 + k * c + 2) 0)).set (0 + k * c + 2) ((swapTo q 0 c k).getD (0 + k * c) 0))
    rw [ih, Nat.zero_add, show o + k * c + 2 = o + (k * c + 2) by omega, spl_get (by omega) (by omega), spl_get (by omega) (by omega), spl_set (by omega) (by omega), spl_set (by rw [List.length_set]; omega) (by omega)]
def px (c : Nat) (q : List Int) (x : Nat) : List Int := [q.getD (x * c + 2) 0, q.getD (x * c + 1) 0, q.getD (x * c) 0] ++ if c = 4 then [q.getD (x * c + 3) 0] else []
theorem px_len {c : Nat} (hc : c = 3 ∨ c = 4) (q : List Int) (x : Nat) : (px c q x).length = c := by rcases hc with h | h <;> subst h <;> rfl
theorem px_get {c : Nat} (hc : c = 3 ∨ c = 4) (q : List Int) {x j : Nat} (hj : j < c) : (px c q x).getD j 0 = q.getD (x * c + sw j) 0 := by
  rcases hc with h | h <;> subst h
  · have : j = 0 ∨ j = 1 ∨ j = 2 := by omega
    rcases this with k | k | k <;> subst k <;> rfl
  · have : j = 0 ∨ j = 1 ∨ j = 2 ∨ j = 3 := by omega
    rcases this with k | k | k | k <;> subst k <;> rfl
theorem trn_px {q : List Int} {c w : Nat} (hc : c = 3 ∨ c = 4) (hq : q.length = w * c) : swapTo q 0 c w = catK (px c q) w := by
  refine eq_pieces (Q := w) (d := c) (by rw [swapTo_len, hq]) (catK_len (fun k _ => px_len hc q k) w (Nat.le_refl _)) fun k j hk hj => ?_
  have h1 := (swapTo_get (L := q) (o := 0) (c := c) (by omega) w (by omega)).1 k j hk hj
  rw [Nat.zero_add, Nat.zero_add] at h1
  rw [h1, catK_get (fun k _ => px_len hc q k) w (Nat.le_refl _) k j hk hj, px_get hc q hj]
def fRow (b : List Int) (st wc k : Nat) : List Int := (b.drop (54 + k * st)).take wc
def rdPx (b : List Int) (c w h st : Nat) (dn : Bool) : List Int := catK (fun r => swapTo (fRow b st (w * c) (if dn = true then r else h - 1 - r)) 0 c w) h
theorem fRow_len {b : List Int} {st wc k : Nat} (h : 54 + k * st + wc ≤ b.length) : (fRow b st wc k).length = wc := by
  unfold fRow; rw [List.length_take, List.length_drop]; omega
theorem fRow_get {b : List Int} {st wc k j : Nat} (hj : j < wc) : (fRow b st wc k).getD j 0 = b.getD (54 + k * st + j) 0 := by
  unfold fRow; rw [take_getD hj, drop_getD]
end Go.Proofs.YtljdahepmmgfeaaGreatDoor
namespace Go.Proofs.YtljdahepmmgfeaaGreatDoor
open Go Go.RowKit
set_option maxHeartbeats 4000000
abbrev hW (b : List Int) : Int := lw b 18 4
abbrev hH0 (b : List Int) : Int := lw b 22 4
abbrev hCn (b : List Int) : Int := lw b 28 2 / 8
abbrev hNn (b : List Int) : Int := up4 (hW b * hCn b) * hrV (hH0 b)
def rdE (b : List Int) : Int :=
  if hdE b ≠ 0 then hdE b else if shC (hW b) (hrV (hH0 b)) ≠ 0 then shC (hW b) (hrV (hH0 b)) else if (b.length : Int) - 54 < hNn b then 20 else if hNn b < (b.length : Int) - 54 then 22
  else if lw b 2 4 = b.length ∧ (lw b 34 4 = 0 ∨ lw b 34 4 = hNn b) then 0 else 21
def rdL (b : List Int) : List Int := if rdE b = 0 then rdPx b (hCn b).toNat (hW b).toNat (hrV (hH0 b)).toNat (up4 (hW b * hCn b)).toNat (decide (2147483648 ≤ hH0 b)) else []
def rdK (b : List Int) (x : Int) : Int := if rdE b = 0 then x else 0
theorem lw_bd {b : List Int} (hb : Byt b) {a n : Int} (hn : n ≤ 4) : 0 ≤ lw b a n ∧ lw b a n < 4294967296 := by
  have := low_rng (b := b.drop a.toNat) (n := n) (fun i => by rw [drop_getD]; exact hb.bd _) hn
  exact this
structure BmOK (b : List Int) (W H c st : Nat) (dn : Bool) : Prop where
  by_ : Byt b
  hd : hdE b = 0
  w : hW b = W
  h : hrV (hH0 b) = H
  dn_ : dn = decide (2147483648 ≤ hH0 b)
  c_ : lw b 28 2 = 8 * c
  c34 : c = 3 ∨ c = 4
  w1 : 1 ≤ W
  w2 : W ≤ 32768
  h1 : 1 ≤ H
  h2 : H ≤ 32768
  wh : W * H ≤ 4194304
  st_ : up4 ((W : Int) * (c : Int)) = st
  st1 : W * c ≤ st
  st2 : st ≤ W * c + 3
  len : b.length = 54 + H * st
  s1 : lw b 2 4 = b.length
  s2 : lw b 34 4 = 0 ∨ lw b 34 4 = (H * st : Nat)
theorem sh_inv {w r : Int} (hw : 0 ≤ w) (hr : 0 ≤ r) (h : shC w r = 0) : 1 ≤ w ∧ w ≤ 32768 ∧ 1 ≤ r ∧ r ≤ 32768 ∧ w * r ≤ 4194304 := by
  unfold shC at h
  split at h
  · cases h
  · split at h
    · cases h
    · omega
theorem hd_inv {b : List Int} (h : hdE b = 0) : b.getD 0 0 = 66 ∧ b.getD 1 0 = 77 ∧ 54 ≤ b.length ∧ frm0 b ∧ (lw b 28 2 = 24 ∨ lw b 28 2 = 32) := by
  unfold hdE at h
  split at h
  · cases h
  split at h
  · cases h
  split at h
  · cases h
  split at h
  · rename_i h1 h2 h3 h4
    exact ⟨by omega, by omega, by omega, h4⟩
  · cases h
theorem hr_bd {x : Int} (h0 : 0 ≤ x) (h1 : x < 4294967296) : 0 ≤ hrV x ∧ hrV x < 4294967296 := by unfold hrV; split <;> omega
theorem gd_of {b : List Int} (hb : Byt b) (h : rdE b = 0) : BmOK b (hW b).toNat (hrV (hH0 b)).toNat (hCn b).toNat (up4 (hW b * hCn b)).toNat (decide (2147483648 ≤ hH0 b)) := by
  unfold rdE at h
  split at h
  · rename_i k; exact absurd h k
  rename_i k1
  have k1 : hdE b = 0 := Classical.not_not.1 k1
  split at h
  · rename_i k; exact absurd h k
  rename_i k2
  have k2 : shC (hW b) (hrV (hH0 b)) = 0 := Classical.not_not.1 k2
  split at h
  · cases h
  split at h
  · cases h
  split at h
  rotate_left
  · cases h
  rename_i k3 k4 k5
  obtain ⟨_, _, k6, k7, k8⟩ := hd_inv k1
  have wb := lw_bd hb (a := 18) (n := 4) (by decide)
  have hb0 := lw_bd hb (a := 22) (n := 4) (by decide)
  have hrb := hr_bd hb0.1 hb0.2
  obtain ⟨w1, w2, r1, r2, wr⟩ := sh_inv (w := hW b) (r := hrV (hH0 b)) wb.1 hrb.1 k2
  have hc : hCn b = 3 ∨ hCn b = 4 := by unfold hCn; rcases k8 with k | k <;> rw [k] <;> decide
  have ec : (hCn b).toNat = hCn b := by omega
  have ew : ((hW b).toNat : Int) = hW b := Int.toNat_of_nonneg wb.1
  have eh : ((hrV (hH0 b)).toNat : Int) = hrV (hH0 b) := Int.toNat_of_nonneg hrb.1
  have ub := up4_bd (hW b * hCn b)
  have wc0 : 0 ≤ hW b * hCn b := Int.mul_nonneg wb.1 (by omega)
  have es : ((up4 (hW b * hCn b)).toNat : Int) = up4 (hW b * hCn b) := Int.toNat_of_nonneg (by omega)
  have en : (b.length : Int) = 54 + up4 (hW b * hCn b) * hrV (hH0 b) := by
    have : hNn b = up4 (hW b * hCn b) * hrV (hH0 b) := rfl
    omega
  have ewc : (((hW b).toNat * (hCn b).toNat : Nat) : Int) = hW b * hCn b := by rw [Int.natCast_mul, ew, ec]
  have est : (((hrV (hH0 b)).toNat * (up4 (hW b * hCn b)).toNat : Nat) : Int) = hNn b := by rw [Int.natCast_mul, eh, es, Int.mul_comm]
  refine ⟨hb, k1, ew.symm, eh.symm, rfl, ?_, by omega, by omega, by omega, by omega, by omega, ?_, by rw [ew, ec, es], by omega, by omega, ?_, k5.1, ?_⟩
  · rw [ec]; unfold hCn; rcases k8 with k | k <;> rw [k] <;> decide
  · have : (((hW b).toNat * (hrV (hH0 b)).toNat : Nat) : Int) = hW b * hrV (hH0 b) := by rw [Int.natCast_mul, ew, eh]
    omega
  · have : hNn b = up4 (hW b * hCn b) * hrV (hH0 b) := rfl
    omega
  · rw [est]; exact k5.2
def pxb (b : List Int) (c at_ x : Nat) : List Int := [b.getD (at_ + x * c + 2) 0, b.getD (at_ + x * c + 1) 0, b.getD (at_ + x * c) 0] ++ if c = 4 then [b.getD (at_ + x * c + 3) 0] else []
theorem pxb_len {b : List Int} {c : Nat} (hc : c = 3 ∨ c = 4) (a x : Nat) : (pxb b c a x).length = c := by rcases hc with h | h <;> subst h <;> rfl
theorem pxb_px {b : List Int} {c st k W x : Nat} (hc : c = 3 ∨ c = 4) (hx : x < W) : pxb b c (54 + k * st) x = px c (fRow b st (W * c) k) x := by
  have hp := prod_of (n := c) hx
  have g : ∀ j, j < c → b.getD (54 + k * st + x * c + j) 0 = (fRow b st (W * c) k).getD (x * c + j) 0 := fun j hj => by rw [fRow_get (by omega), Nat.add_assoc (54 + k * st)]
  have g0 : b.getD (54 + k * st + x * c) 0 = (fRow b st (W * c) k).getD (x * c) 0 := g 0 (by omega)
  unfold pxb px
  rw [g 2 (by omega), g 1 (by omega), g0]
  by_cases h4 : c = 4
  · rw [if_pos h4, if_pos h4, g 3 (by omega)]
  · rw [if_neg h4, if_neg h4]
def fr (dn : Bool) (H r : Nat) : Nat := if dn = true then r else H - 1 - r
theorem rdPx_pxb {b : List Int} {W H c st : Nat} {dn : Bool} (hg : BmOK b W H c st dn) : rdPx b c W H st dn = catK (fun r => catK (pxb b c (54 + fr dn H r * st)) W) H := by
  unfold rdPx
  refine catK_congr (Q := H) (fun r hr => ?_) H (Nat.le_refl _)
  have hf : fr dn H r < H := by unfold fr; split <;> omega
  have hl : (fRow b st (W * c) (fr dn H r)).length = W * c := fRow_len (by
    have := prod_of (n := st) hf
    rw [hg.len]; have := hg.st1; omega)
  show swapTo (fRow b st (W * c) (fr dn H r)) 0 c W = _
  rw [trn_px hg.c34 hl]
  exact catK_congr (Q := W) (fun x hx => (pxb_px hg.c34 hx).symm) W (Nat.le_refl _)
abbrev bmS : PSpec := fun l => match l with
  | [.roi .u8 b] => some ([Byt b], .tup [imA (rdK b (hW b)) (rdK b (hrV (hH0 b))) (rdK b (hCn b)) (rdL b), .int .i64 (rdE b)])
  | _ => none
theorem rd_bad {b : List Int} (h : rdE b ≠ 0) : (∀ x, rdK b x = 0) ∧ rdL b = [] := ⟨fun x => if_neg h, if_neg h⟩
theorem fr_lt {dn : Bool} {H r : Nat} (h : r < H) : fr dn H r < H := by unfold fr; split <;> omega
end Go.Proofs.YtljdahepmmgfeaaGreatDoor

