/- A region that draws its order, loads cells, makes memory and then stores into those very cells: the loads may be taken first, since the first of the stores (number k) waits for them. Nothing of the program. -/
import Derived.Test.YtdhdnpagdflgpaaLib
import Derived.OrdersHeld
import Derived.Deep.RegionHeld
namespace Go.Proofs.Ytdhdnpagdflgpaa
open Go.RowKit

section
variable {P : Program} {ops : Array Oper} {Q : Exit → Act → World → Prop} {md : Region.Mode} {S : World → Prop} {k : Nat}

/-- Whatever order is picked, and S holds behind each operation as long as number k has not come up. -/
def KeptTill (P : Program) (md : Region.Mode) (ops : Array Oper) (Q : Exit → Act → World → Prop) (k : Nat) (S : World → Prop) : Nat → Array Bool → Act → World → Prop
  | 0, listed, a, w => Region.ready md ops listed = [] ∧ Q .normal a w
  | fuel + 1, listed, a, w =>
    (Region.ready md ops listed = [] → Q .normal a w) ∧
    ∀ i ∈ Region.ready md ops listed, wpOp P ops Q i (fun a' w' => ((listed.setIfInBounds i true).getD k true = false → S w') ∧ KeptTill P md ops Q k S fuel (listed.setIfInBounds i true) a' w') a w

theorem KeptTill.any : ∀ (fuel : Nat) (listed : Array Bool) (a : Act) (w : World), KeptTill P md ops Q k S fuel listed a w → wpAny P md ops Q fuel listed a w
  | 0, _, _, _, h => h
  | fuel + 1, _, _, _, h => ⟨h.1, fun i hi => wpOp_mono (fun a' w' h' => KeptTill.any fuel _ a' w' h'.2) (h.2 i hi)⟩

theorem KeptTill.first {i : Nat} {oi : Oper} {v : Value} (hi : ops[i]? = some oi) (hsel : ∀ (j : Nat) (o : Oper) cs b, ops[j]? = some o → o.op ≠ .select cs b)
    (hQ : ∀ c a w, Q (.panic c) (a.put oi.dst v) w → Q (.panic c) a w) (hik : i ≠ k) (hk : ∀ ok, ops[k]? = some ok → ∃ e ∈ ok.after, Region.binds md e = true ∧ e.on = i) :
    ∀ (fuel : Nat) (listed : Array Bool) (a : Act) (w : World), listed.getD k true = false →
      (∀ j oj, ops[j]? = some oj → j ≠ i → listed.getD j true = false → (∀ e ∈ oj.after, Region.binds md e = true → e.on ≠ i) → oi.apart ops oj = true) →
      i ∈ Region.ready md ops listed → YieldsIf P ops S oi v a → S w →
      KeptTill P md ops Q k S fuel (listed.setIfInBounds i true) (a.put oi.dst v) w → KeptTill P md ops Q k S (fuel + 1) listed a w := by
  intro fuel
  induction fuel with
  | zero =>
    intro listed a w _ _ hr hy hS H
    refine ⟨fun h => (by rw [h] at hr; cases hr), fun j hj => ?_⟩
    by_cases hji : j = i
    · subst hji; exact hy.wpOp hi hS ⟨fun _ => hS, H⟩
    · have := ready_mono hj hji
      rw [H.1] at this
      cases this
  | succ fuel ih =>
    intro listed a w hkl hfree hr hy hS H
    refine ⟨fun h => (by rw [h] at hr; cases hr), fun j hj => ?_⟩
    by_cases hji : j = i
    · subst hji; exact hy.wpOp hi hS ⟨fun _ => hS, H⟩
    have h1 := H.2 j (ready_mono hj hji)
    obtain ⟨hjun, oj, hoj, hall⟩ := mem_ready.1 hj
    have hi0 : listed.getD i false = false := by
      have h0 := (mem_ready.1 hr).1
      rcases Nat.lt_or_ge i listed.size with h' | h'
      · simp [h'] at h0 ⊢; exact h0
      · simp [Array.getElem?_eq_none h']
    have hnot : ∀ e ∈ oj.after, Region.binds md e = true → e.on ≠ i := fun e he hb heq => by
      have h2 := hall e he hb
      rw [heq, hi0] at h2
      cases h2
    have hjk : j ≠ k := fun hjk => by
      subst hjk
      obtain ⟨e, he, hb, heq⟩ := hk oj hoj
      exact hnot e he hb heq
    have h2 := wpOp_putIf hoj (hfree j oj hoj hji hjun hnot) (fun cs b => hsel i oi cs b hi) (fun cs b => hsel j oj cs b hoj) hQ hy h1
    have hkl1 : (listed.setIfInBounds j true).getD k true = false := by rw [getD_set_ne true hjk]; exact hkl
    have hkl2 : ((listed.setIfInBounds i true).setIfInBounds j true).getD k true = false := by rw [getD_set_ne true hjk, getD_set_ne true hik]; exact hkl
    have hfree' : ∀ m om, ops[m]? = some om → m ≠ i → (listed.setIfInBounds j true).getD m true = false →
        (∀ e ∈ om.after, Region.binds md e = true → e.on ≠ i) → oi.apart ops om = true := fun m om hm hmi hun hno => by
      refine hfree m om hm hmi ?_ hno
      by_cases hjm : j = m
      · subst hjm; exact hjun
      · rw [getD_set_ne true hjm] at hun; exact hun
    refine wpOp_mono (fun a' w' h3 => ⟨fun _ => h3.2.1 hkl2, ih (listed.setIfInBounds j true) a' w' hkl1 hfree' (ready_mono hr (Ne.symm hji)) h3.1 (h3.2.1 hkl2) ?_⟩) h2
    rw [Array.setIfInBounds_comm _ _ hji]
    exact h3.2.2

/-- Take number i first: the store k waits for it. -/
theorem KeptTill.take {i : Nat} {oi : Oper} {v : Value} {fuel : Nat} {listed : Array Bool} {a : Act} {w : World} (hi : ops[i]? = some oi)
    (hs : Region.noSelect ops = true) (hf : Region.free md ops listed i = true) (hr : (Region.ready md ops listed).contains i = true) (hik : (i == k) = false) (hkl : listed.getD k true = false)
    (hk : ((ops[k]?).map fun ok => ok.after.any fun e => Region.binds md e && e.on == i).getD true = true)
    (hQ : ∀ c d u a w, Q (.panic c) (a.put d u) w → Q (.panic c) a w) (hy : YieldsIf P ops S oi v a) (hS : S w)
    (h : KeptTill P md ops Q k S fuel (listed.setIfInBounds i true) (a.put oi.dst v) w) : KeptTill P md ops Q k S (fuel + 1) listed a w := by
  refine KeptTill.first hi (Region.noSelect_spec hs) (fun c a w h => hQ c _ _ a w h) (by simpa using hik) (fun ok hok => ?_) fuel listed a w hkl (Region.free_spec hi hf) (by simpa using hr) hy hS h
  rw [hok] at hk
  simp only [Option.map_some, Option.getD_some, Array.any_eq_true] at hk
  obtain ⟨m, hm, hb⟩ := hk
  simp only [Bool.and_eq_true, beq_iff_eq] at hb
  exact ⟨_, Array.getElem_mem hm, hb.1, hb.2⟩
theorem KeptTill.firstP {i : Nat} {oi : Oper} {v : Value} (hi : ops[i]? = some oi) (hsel : ∀ (j : Nat) (o : Oper) cs b, ops[j]? = some o → o.op ≠ .select cs b)
    (hQ : ∀ c a w, Q (.panic c) (a.put oi.dst v) w → Q (.panic c) a w) (hik : i ≠ k) :
    ∀ (fuel : Nat) (listed : Array Bool) (a : Act) (w : World),
      (∀ j oj, ops[j]? = some oj → j ≠ i → listed.getD j true = false → (∀ e ∈ oj.after, Region.binds md e = true → e.on ≠ i) → oi.apart ops oj = true) →
      i ∈ Region.ready md ops listed → YieldsIf P ops (fun _ => True) oi v a → (listed.getD k true = false → S w) →
      KeptTill P md ops Q k S fuel (listed.setIfInBounds i true) (a.put oi.dst v) w → KeptTill P md ops Q k S (fuel + 1) listed a w := by
  intro fuel
  induction fuel with
  | zero =>
    intro listed a w _ hr hy hS H
    refine ⟨fun h => (by rw [h] at hr; cases hr), fun j hj => ?_⟩
    by_cases hji : j = i
    · subst hji; exact hy.wpOp hi trivial ⟨fun h => hS (by rw [getD_set_ne true hik] at h; exact h), H⟩
    · have := ready_mono hj hji
      rw [H.1] at this
      cases this
  | succ fuel ih =>
    intro listed a w hfree hr hy hS H
    refine ⟨fun h => (by rw [h] at hr; cases hr), fun j hj => ?_⟩
    by_cases hji : j = i
    · subst hji; exact hy.wpOp hi trivial ⟨fun h => hS (by rw [getD_set_ne true hik] at h; exact h), H⟩
    have h1 := H.2 j (ready_mono hj hji)
    obtain ⟨hjun, oj, hoj, hall⟩ := mem_ready.1 hj
    have hi0 : listed.getD i false = false := by
      have h0 := (mem_ready.1 hr).1
      rcases Nat.lt_or_ge i listed.size with h' | h'
      · simp [h'] at h0 ⊢; exact h0
      · simp [Array.getElem?_eq_none h']
    have hnot : ∀ e ∈ oj.after, Region.binds md e = true → e.on ≠ i := fun e he hb heq => by
      have h2 := hall e he hb
      rw [heq, hi0] at h2
      cases h2
    have h2 := wpOp_putIf hoj (hfree j oj hoj hji hjun hnot) (fun cs b => hsel i oi cs b hi) (fun cs b => hsel j oj cs b hoj) hQ hy h1
    have hfree' : ∀ m om, ops[m]? = some om → m ≠ i → (listed.setIfInBounds j true).getD m true = false →
        (∀ e ∈ om.after, Region.binds md e = true → e.on ≠ i) → oi.apart ops om = true := fun m om hm hmi hun hno => by
      refine hfree m om hm hmi ?_ hno
      by_cases hjm : j = m
      · subst hjm; exact hjun
      · rw [getD_set_ne true hjm] at hun; exact hun
    have hgo : (listed.setIfInBounds j true).getD k true = false → ((listed.setIfInBounds i true).setIfInBounds j true).getD k true = false := fun h => by
      rw [Array.setIfInBounds_comm _ _ (Ne.symm hji), getD_set_ne true hik]; exact h
    refine wpOp_mono (fun a' w' h3 => ⟨fun h => h3.2.1 (hgo h), ih (listed.setIfInBounds j true) a' w' hfree' (ready_mono hr (Ne.symm hji)) h3.1 (fun h => h3.2.1 (hgo h)) ?_⟩) h2
    rw [Array.setIfInBounds_comm _ _ hji]
    exact h3.2.2
/-- Take number i first: it yields in whatever world. -/
theorem KeptTill.takeP {i : Nat} {oi : Oper} {v : Value} {fuel : Nat} {listed : Array Bool} {a : Act} {w : World} (hi : ops[i]? = some oi)
    (hs : Region.noSelect ops = true) (hf : Region.free md ops listed i = true) (hr : (Region.ready md ops listed).contains i = true) (hik : (i == k) = false)
    (hQ : ∀ c d u a w, Q (.panic c) (a.put d u) w → Q (.panic c) a w) (hy : YieldsIf P ops (fun _ => True) oi v a) (hS : listed.getD k true = false → S w)
    (h : KeptTill P md ops Q k S fuel (listed.setIfInBounds i true) (a.put oi.dst v) w) : KeptTill P md ops Q k S (fuel + 1) listed a w :=
  KeptTill.firstP hi (Region.noSelect_spec hs) (fun c a w h => hQ c _ _ a w h) (by simpa using hik) fuel listed a w (Region.free_spec hi hf) (by simpa using hr) hy hS h
/-- One of those that may come up. -/
theorem KeptTill.all {rs : List Nat} {fuel : Nat} {listed : Array Bool} {a : Act} {w : World} (hr : Region.ready md ops listed = rs) (hne : rs ≠ [])
    (h : ∀ i ∈ rs, wpOp P ops Q i (fun a' w' => ((listed.setIfInBounds i true).getD k true = false → S w') ∧ KeptTill P md ops Q k S fuel (listed.setIfInBounds i true) a' w') a w) : KeptTill P md ops Q k S (fuel + 1) listed a w :=
  ⟨fun h0 => absurd (hr ▸ h0) hne, hr ▸ h⟩
/-- The way on behind one operation, shut till it is opened. -/
def KeptOn (P : Program) (md : Region.Mode) (ops : Array Oper) (Q : Exit → Act → World → Prop) (k : Nat) (S : World → Prop) (fuel : Nat) (listed : Array Bool) (K : Act → World → Prop) : Prop :=
  ∀ a w, (listed.getD k true = false → S w) → KeptTill P md ops Q k S fuel listed a w → K a w
theorem KeptTill.step {i : Nat} {o : Oper} {fuel : Nat} {listed : Array Bool} {a : Act} {w : World} (ho : ops[i]? = some o) (hg : o.guard = none)
    (h : ∀ K : Act → World → Prop, Hid (KeptOn P md ops Q k S fuel (listed.setIfInBounds i true) K) → Oper.wp P o a w K Q) :
    wpOp P ops Q i (fun a' w' => ((listed.setIfInBounds i true).getD k true = false → S w') ∧ KeptTill P md ops Q k S fuel (listed.setIfInBounds i true) a' w') a w :=
  wpOp_step ho (fun K' hK => by
    have hw : Region.wanted o (yielded ops a.tmps) = true := by simp [Region.wanted, hg]
    rw [if_pos hw]
    exact h K' (Lib.hid (fun a w h1 h2 => hK a w ⟨h1, h2⟩)))
theorem KeptTill.one {i : Nat} {o : Oper} {fuel : Nat} {listed : Array Bool} {a : Act} {w : World} (hr : Region.ready md ops listed = [i]) (ho : ops[i]? = some o) (hg : o.guard = none)
    (h : ∀ K : Act → World → Prop, Hid (KeptOn P md ops Q k S fuel (listed.setIfInBounds i true) K) → Oper.wp P o a w K Q) : KeptTill P md ops Q k S (fuel + 1) listed a w :=
  KeptTill.all hr (by simp) (fun j hj => by rw [List.mem_singleton.1 hj]; exact KeptTill.step ho hg h)
theorem KeptTill.two {i j : Nat} {o u : Oper} {fuel : Nat} {listed : Array Bool} {a : Act} {w : World} (hr : Region.ready md ops listed = [i, j]) (ho : ops[i]? = some o) (hg : o.guard = none) (hu : ops[j]? = some u) (hgu : u.guard = none)
    (h : ∀ K : Act → World → Prop, Hid (KeptOn P md ops Q k S fuel (listed.setIfInBounds i true) K) → Oper.wp P o a w K Q)
    (h2 : ∀ K : Act → World → Prop, Hid (KeptOn P md ops Q k S fuel (listed.setIfInBounds j true) K) → Oper.wp P u a w K Q) : KeptTill P md ops Q k S (fuel + 1) listed a w :=
  KeptTill.all hr (by simp) (fun m hm => by
    rcases List.mem_cons.1 hm with rfl | hm
    · exact KeptTill.step ho hg h
    · rw [List.mem_singleton.1 hm]; exact KeptTill.step hu hgu h2)
theorem KeptTill.done {listed : Array Bool} {a : Act} {w : World} (hr : Region.ready md ops listed = []) (h : Q .normal a w) : ∀ fuel, KeptTill P md ops Q k S fuel listed a w
  | 0 => ⟨hr, h⟩
  | _ + 1 => ⟨fun _ => h, by rw [hr]; simp⟩
theorem wp_region_kept {id : Nat} {a : Act} {w : World} (hm : P.follows .mixedOrders = true)
    (h : KeptTill P .any ops Q k S ops.size (Array.replicate ops.size false) a w.drew) : (Code.region id ops true).wp P Q a w :=
  wp_region_any hm (KeptTill.any _ _ _ _ h)
/-- Once number k has come up, S is asked no more. -/
theorem KeptTill.of_any : ∀ (fuel : Nat) (listed : Array Bool) (a : Act) (w : World), listed.getD k true = true → wpAny P md ops Q fuel listed a w → KeptTill P md ops Q k S fuel listed a w
  | 0, _, _, _, _, h => h
  | fuel + 1, listed, a, w, hk, h => by
    have hk' : ∀ i, (listed.setIfInBounds i true).getD k true = true := fun i => by
      by_cases hik : i = k
      · subst hik
        rcases Nat.lt_or_ge i listed.size with h' | h'
        · simp [h']
        · simp [Array.getElem?_eq_none, h']
      · rw [getD_set_ne true hik]; exact hk
    exact ⟨h.1, fun i hi => wpOp_mono (fun a' w' h' => ⟨fun h0 => (by rw [hk' i] at h0; cases h0), KeptTill.of_any fuel _ a' w' (hk' i) h'⟩) (h.2 i hi)⟩
end
end Go.Proofs.Ytdhdnpagdflgpaa
