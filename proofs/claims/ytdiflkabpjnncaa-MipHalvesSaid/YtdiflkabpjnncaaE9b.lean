
/- The engine, part 9 b: regions in whatever order that make or turn memory: the operations, told. No condition. -/
import Derived.Test.YtdiflkabpjnncaaE9
namespace Go.Proofs.Ytdiflkabpjnncaa
open Go Go.RowKit
set_option linter.unusedVariables false
set_option linter.unusedSimpArgs false

section
variable {C : Ctx} {T : TypeId → Option TI} {e : Env} {H : AH} {obs : List Prop} {v : AV} {δ : List (Nat × Option Ent)} {nx : Nat} {K : AV → AH → Prop}

theorem dbuild_G {t : TypeId} {len : Nat} {parts : List (Nat × Operand)} (h : dbuildSlice T e H t len parts = some (obs, v, δ, nx)) (ho : ∀ p ∈ obs, p) (hK : K v ⟨nx, δ ++ H.es⟩) : abuildSlice T e H t len parts K := by
  unfold dbuildSlice at h
  unfold abuildSlice
  split at h
  · rename_i el hd
    (try simp only [hd])
    split at h
    · rename_i i hi
      (try simp only [hi])
      replace h := bif_some h; obtain ⟨hb, h⟩ := h
      (try simp only [hb, cond_true])
      split at h
      · rename_i l hl
        (try simp only [hl])
        split at h
        · rename_i k hk
          (try simp only [hk])
          split at h
          · rename_i z hz
            (try simp only [hz])
            replace h := bif_some h; obtain ⟨hb, h⟩ := h
            (try simp only [hb, cond_true])
            cases h
            exact hK
          · cases h
        · rename_i hk
          replace h := bif_some h; obtain ⟨hb, h⟩ := h
          (try simp only [hb, cond_true])
          cases h
          exact hK
      · cases h
    · cases h
  · cases h
theorem dstore_G {K : AH → Prop} {t : TypeId} {a x : AV} (h : dstore T H t a x = some (obs, v, δ, nx)) (ho : ∀ p ∈ obs, p) (hK : K ⟨nx, δ ++ H.es⟩) : astore T H t a x K ∧ v = .any := by
  unfold dstore at h
  unfold astore
  split at h
  · cases h
  · rename_i s hs
    (try simp only [hs])
    replace h := bif_some h; obtain ⟨hb, h⟩ := h
    (try simp only [hb, cond_true])
    split at h
    · rename_i i o
      split at h
      · rename_i bt l hg
        (try simp only [hg])
        replace h := bif_some h; obtain ⟨hb, h⟩ := h
        (try simp only [hb, cond_true])
        cases h
        exact ⟨hK, rfl⟩
      · cases h
    · rename_i i sz j f
      split at h
      · rename_i el k l hg
        (try simp only [hg])
        split at h
        · rename_i k' v'
          replace h := bif_some h; obtain ⟨hb, h⟩ := h
          (try simp only [hb, cond_true])
          cases h
          exact ⟨⟨ho _ (by simp), hK⟩, rfl⟩
        · cases h
      · cases h
    · cases h
theorem dmake_G {t : TypeId} {n c : AV} (h : dmake T H t n c = some (obs, v, δ, nx)) (ho : ∀ p ∈ obs, p) (hK : K v ⟨nx, δ ++ H.es⟩) : amake T H t n c K := by
  unfold dmake at h
  unfold amake
  split at h
  · rename_i el _ n _ c hd
    (try simp only [hd])
    split at h
    · rename_i i hi
      (try simp only [hi])
      split at h
      · rename_i k k' hk hz
        (try simp only [hk, hz])
        replace h := bif_some h; obtain ⟨hb, h⟩ := h
        (try simp only [hb, cond_true])
        cases h
        exact ⟨ho _ (by simp), hK⟩
      · cases h
    · cases h
  · cases h
theorem obl_of {l : List Prop} {q : Prop} (h : ∀ p ∈ l, p) (hq : q) : obl l q := by
  induction l with
  | nil => exact hq
  | cons p l ih => exact ⟨h p (by simp), ih fun r hr => h r (by simp [hr])⟩
theorem abase_H {el : TypeId} {i : TI} {s : AV} {p : List Prop} {n : Nat} {en : Ent} {H' : AH} (h : abase H el i s = some (p, n, en, H')) : H'.nx = H.nx ∧ H'.es = spent s ++ H.es := by
  unfold abase at h
  split at h
  · cases h; exact ⟨rfl, rfl⟩
  · replace h := bif_some h; obtain ⟨_, h⟩ := h
    split at h
    · replace h := bif_some h; obtain ⟨_, h⟩ := h
      cases h; exact ⟨rfl, rfl⟩
    · replace h := bif_some h; obtain ⟨_, h⟩ := h
      cases h; exact ⟨rfl, rfl⟩
    · cases h
  · cases h
theorem dappend_G {t : TypeId} {s x : AV} (h : dappend T H t s x = some (obs, v, δ, nx)) (ho : ∀ p ∈ obs, p) (hK : K v ⟨nx, δ ++ H.es⟩) : aappend T H t s x K := by
  unfold dappend at h
  unfold aappend
  split at h
  · rename_i el hd
    (try simp only [hd])
    split at h
    · rename_i i hi
      (try simp only [hi])
      replace h := bif_some h; obtain ⟨hb, h⟩ := h
      (try simp only [hb, cond_true])
      split at h
      · rename_i p n e k l H' hba
        obtain ⟨n1, n2⟩ := abase_H hba
        (try simp only [hba])
        split at h
        · rename_i q xs hq
          (try simp only [hq])
          replace h := bif_some h; obtain ⟨hb, h⟩ := h
          (try simp only [hb, cond_true])
          cases h
          refine obl_of (fun r hr => ho r (by rw [List.mem_append]; exact .inl hr)) ⟨ho _ (by simp), ho _ (by simp), ?_⟩
          unfold AH.push
          rw [n1, n2]
          exact hK
        · cases h
      · rename_i p n e s' m get H' hba
        obtain ⟨n1, n2⟩ := abase_H hba
        (try simp only [hba])
        split at h
        · rename_i q c getx hq
          (try simp only [hq])
          replace h := bif_some h; obtain ⟨hb, h⟩ := h
          (try simp only [hb, cond_true])
          cases h
          refine obl_of (fun r hr => ho r (by rw [List.mem_append]; exact .inl hr)) ⟨ho _ (by simp), ho _ (by simp), ?_⟩
          unfold AH.push
          rw [n1, n2]
          exact hK
        · cases h
      · cases h
    · cases h
  · cases h
theorem aopD_G {o : Op} (h : aopD C o e H = some (obs, v, δ, nx)) (ho : ∀ p ∈ obs, p) (hK : K v ⟨nx, δ ++ H.es⟩) : aopG C o e H K := by
  unfold aopD at h
  split at h
  · rename_i t
    (try simp only [aopG])
    split at h
    · rename_i i hi
      (try simp only [hi])
      replace h := bif_some h; obtain ⟨hb, h⟩ := h
      (try simp only [hb, cond_true])
      cases h
      exact hK
    · cases h
  · rename_i t x
    (try simp only [aopG])
    split at h
    · rename_i i v' hi hx
      (try simp only [hi, hx])
      replace h := bif_some h; obtain ⟨hb, h⟩ := h
      (try simp only [hb, cond_true])
      cases h
      exact hK
    · cases h
  · exact dbuild_G h ho hK
  · rename_i t a x
    (try simp only [aopG])
    split at h
    · rename_i a' x' ha hx
      (try simp only [ha, hx])
      obtain ⟨h1, h2⟩ := dstore_G (K := fun H' => K v H') h ho hK
      rw [← h2]; exact h1
    · cases h
  · rename_i t n c
    (try simp only [aopG])
    split at h
    · rename_i n' c' hn hc
      (try simp only [hn, hc])
      exact dmake_G h ho hK
    · cases h
  · rename_i args ts
    (try simp only [aopG])
    split at h
    · rename_i s x t t' hs ht
      (try simp only [hs, ht])
      replace h := bif_some h; obtain ⟨hb, h⟩ := h
      (try simp only [hb, cond_true])
      split at h
      · rename_i s' x' hs' hx'
        (try simp only [hs', hx'])
        exact dappend_G h ho hK
      · cases h
    · cases h
  · cases h
end
end Go.Proofs.Ytdiflkabpjnncaa
