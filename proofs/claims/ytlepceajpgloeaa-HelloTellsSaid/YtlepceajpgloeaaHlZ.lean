/- hello: the document's own answers are the program's: body, GetFinished. -/
import Derived.Test.YtlepceajpgloeaaHlY
namespace Go.Proofs.Ytlepceajpgloeaa

theorem rb_eq (l : List UInt8) (a b : Int) (ks : List Int) (h : ∀ k, (ks.any fun x => decide (k = x)) = false ↔ (k ≠ a ∧ k ≠ b)) :
    (rbody l a b).1 = (hbody l ks).2.1 ∧ (rbody l a b).2.2 = (hbody l ks).2.2 ∧ ((hbody l ks).2.2 = 0 → (rbody l a b).2.1 = ((4 + (hbody l ks).2.1.length : Nat) : Int) ∧ (rbody l a b).2.1 = (hkind l).2.1) ∧ ((hbody l ks).2.2 ≠ 0 → (rbody l a b).2.1 = 0) := by
  have hok := hkind_ok l
  unfold rbody hbody
  obtain ⟨⟨kd, L, er⟩, hq⟩ : ∃ q, hkind l = q := ⟨_, rfl⟩
  rw [hq] at hok ⊢
  simp only at hok ⊢
  by_cases he : er = 0
  · obtain ⟨m, hm, h1, h2, h3⟩ := hok he
    subst hm
    have e0 : ¬ (er ≠ 0) := by simp [he]
    rw [if_neg e0, if_neg e0]
    by_cases hk : (ks.any fun x => decide (kd = x)) = false
    · rw [if_pos ((h kd).1 hk), if_pos hk]
      exact ⟨rfl, rfl, fun e => by simp at e, fun _ => rfl⟩
    · rw [if_neg (fun e => hk ((h kd).2 e)), if_neg hk]
      by_cases hs : (l.length : Int) < (m : Int)
      · rw [if_pos hs, if_pos hs]
        exact ⟨rfl, rfl, fun e => by simp at e, fun _ => rfl⟩
      · rw [if_neg hs, if_neg hs]
        refine ⟨rfl, rfl, fun _ => ⟨?_, rfl⟩, fun e => absurd rfl e⟩
        simp only [List.length_take, List.length_drop, Int.toNat_natCast]
        omega
  · rw [if_pos he, if_pos he]
    exact ⟨rfl, rfl, fun e => absurd e he, fun _ => rfl⟩
theorem ks20 (k : Int) : (([20] : List Int).any fun x => decide (k = x)) = false ↔ (k ≠ 20 ∧ k ≠ 20) := by simp
theorem ks12 (k : Int) : (([1, 2] : List Int).any fun x => decide (k = x)) = false ↔ (k ≠ 1 ∧ k ≠ 2) := by simp
theorem rfin_eq (l : List UInt8) : rfinr l = hfinr l := by
  obtain ⟨h1, h2, h3, h4⟩ := rb_eq l 20 20 [20] ks20
  unfold rfinr hfinr
  rw [h1, h2]
  by_cases he : (hbody l [20]).2.2 = 0
  · have e0 : ¬ ((hbody l [20]).2.2 ≠ 0) := by simp [he]
    rw [if_neg e0, if_neg e0]
    by_cases h32 : (hbody l [20]).2.1.length = 32
    · have e1 : ¬ ((hbody l [20]).2.1.length ≠ 32) := by simp [h32]
      rw [if_neg e1, if_neg e1, (h3 he).1, h32]; rfl
    · rw [if_pos h32, if_pos h32]
  · rw [if_pos he, if_pos he]
end Go.Proofs.Ytlepceajpgloeaa
