/- flight: Lost. -/
import Derived.Test.YtifigmhecgbfoaaFlG
namespace Go.Proofs.Ytifigmhecgbfoaa
open Go.RowKit

theorem ent25 : Ent 25 := enters_of Try.func25 (by kernel_rfl) rfl

section
variable {w w' : World} {p : Nat} {A : Option Addr} {c : Nat} {f : Fl}
theorem lost1_any (h : IsFl w p A c f) (tick pto : Int) (x : Pk) (B1 B2 B3 : Nat) (hT : tick ≤ 9223372036854775807)
    (e1 : w.cell? ⟨B1, 0, none⟩ = some (.pointer (some ⟨p, 0, none⟩))) (e2 : w.cell? ⟨B2, 0, none⟩ = some (.int .i64 tick)) (e3 : w.cell? ⟨B3, 0, none⟩ = some (.int .i64 pto)) :
    Calls Try.prog 25 (#[x.agg] ++ #[.pointer (some ⟨B1, 0, none⟩), .pointer (some ⟨B2, 0, none⟩), .pointer (some ⟨B3, 0, none⟩)]) w fun e w' => e = .returned (.bool (qlost f.came f.largest tick pto x)) ∧ Below w.heap.size w w' := by
  have := h.lgst
  have e : qlost f.came f.largest tick pto x = ((f.came && (decide ((3 : Int) ≤ (f.largest : Int)) && decide ((x.num : Int) ≤ (f.largest : Int) - 3))) || (x.cnt && (decide ((x.tick : Int) ≤ tick) && decide (pto ≤ tick - x.tick)))) := by
    unfold qlost
    congr 2
    by_cases h3 : 3 ≤ f.largest
    · rw [decide_eq_true h3, decide_eq_true (by omega : (3 : Int) ≤ (f.largest : Int))]
      congr 1
      by_cases h4 : x.num ≤ f.largest - 3
      · rw [decide_eq_true h4, decide_eq_true (by omega)]
      · rw [decide_eq_false h4, decide_eq_false (by omega)]
    · rw [decide_eq_false h3, decide_eq_false (by omega : ¬ (3 : Int) ≤ (f.largest : Int))]
      rfl
  exact lost1_walk x.num x.tick f.largest tick pto x.cnt f.came p B1 B2 B3 w (by omega) (by omega) hT e1 e2 e3 (wrote_cell h.cell 2 _ rfl) (wrote_cell h.cell 5 _ rfl) _ e.symm

set_option maxHeartbeats 4000000 in
theorem lost_any (h : IsFl w p A c f) (tick pto : Int) (hT : tick ≤ 9223372036854775807) :
    Calls Try.prog 11 #[.pointer (some ⟨p, 0, none⟩), .int .i64 tick, .int .i64 pto] w fun e w' =>
      ∃ Ao co, e = .returned (.slice Ao (fnums f (qlost f.came f.largest tick (max pto 1))).length co) ∧
        w'.ownsRow w.heap.size 27 1 (.slice Ao (fnums f (qlost f.came f.largest tick (max pto 1))).length co) (fnums f (qlost f.came f.largest tick (max pto 1))).length (nv (fnums f (qlost f.came f.largest tick (max pto 1)))) ∧
      ∃ A' c', IsFl w' p A' c' (ftake f (qlost f.came f.largest tick (max pto 1))) ∧ Fr (OnFl p A) w w' ∧ Next w A A' := by
  have hmf := mkfn
  obtain ⟨M, hM⟩ : ∃ M : Int, M = max pto 1 := ⟨_, rfl⟩
  have HM := fun (ts : Array TypeId) (t : TypeId) (w : World) => run_max2 (P := Try.prog) pto 1 M hM ts t w
  rw [← hM]
  replace hM := Lib.hid hM
  have hpl := h.lt
  obtain ⟨Q, hQ⟩ : ∃ Q, qlost f.came f.largest tick M = Q := ⟨_, rfl⟩
  rw [hQ]
  have hHT : Hid (∀ m1 m2 m3, Calls Try.prog 24 #[.pointer (some ⟨p, 0, none⟩), .func (.func 25) #[] #[.pointer (some ⟨w.heap.size, 0, none⟩), .pointer (some ⟨w.heap.size + 1, 0, none⟩), .pointer (some ⟨w.heap.size + 1 + 1, 0, none⟩)]]
      (((w.alloc (.cells #[.pointer (some ⟨p, 0, none⟩)] m1)).alloc (.cells #[.int .i64 tick] m2)).alloc (.cells #[.int .i64 M] m3)) fun e w' =>
      ∃ Ao co, e = .returned (.slice Ao (fnums f Q).length co) ∧ w'.ownsRow w.heap.size 27 1 (.slice Ao (fnums f Q).length co) (fnums f Q).length (nv (fnums f Q)) ∧
      ∃ A' c', IsFl w' p A' c' (ftake f Q) ∧ Fr (OnFl p A) w w' ∧ Next w A A') := Lib.hid (fun m1 m2 m3 => by
    obtain ⟨W4, hW4⟩ : ∃ W4, (((w.alloc (.cells #[.pointer (some ⟨p, 0, none⟩)] m1)).alloc (.cells #[.int .i64 tick] m2)).alloc (.cells #[.int .i64 M] m3)) = W4 := ⟨_, rfl⟩
    have hs4 : W4.heap.size = w.heap.size + 1 + 1 + 1 := by rw [← hW4]; simp
    have F : Fr NoS w W4 := by rw [← hW4]; exact (((Fr.refl NoS w).alloc _).alloc _).alloc _
    have j1 : W4.cell? ⟨w.heap.size, 0, none⟩ = some (.pointer (some ⟨p, 0, none⟩)) := by
      rw [← hW4, World.cell?_alloc_past _ _ _ (by simp; omega), World.cell?_alloc_past _ _ _ (by simp), World.cell?_alloc_new]; rfl
    have j2 : W4.cell? ⟨w.heap.size + 1, 0, none⟩ = some (.int .i64 tick) := by
      rw [← hW4, World.cell?_alloc_past _ _ _ (by simp), World.cell?_alloc_at _ _ _ _ (by simp)]; rfl
    have j3 : W4.cell? ⟨w.heap.size + 1 + 1, 0, none⟩ = some (.int .i64 M) := by
      rw [← hW4, World.cell?_alloc_at _ _ _ _ (by simp)]; rfl
    rw [hW4]
    have I4 : IsFl W4 p A c f := h.fr F (fun x => x) (fun _ _ x => x)
    have hno : ∀ k, w.heap.size ≤ k → ¬ OnFl p A k := fun k hk ho => by
      rcases ho with h1 | ⟨a, ha, hb⟩
      · omega
      · rcases h.at with e1 | ⟨g, e1, _, e3⟩
        · rw [e1] at ha; cases ha
        · rw [e1] at ha; injection ha with ha; subst ha; simp at hb; omega
    refine (take_any I4 _ _ Q ent25 (fun W x hF hI _ => ?_)).mono ?_
    · obtain ⟨A', c', l', hI⟩ := hI
      have := lost1_any hI tick M x w.heap.size (w.heap.size + 1) (w.heap.size + 1 + 1) hT (by rw [hF.cell (by simp; omega) (hno _ (by simp))]; exact j1) (by rw [hF.cell (by simp; omega) (hno _ (by simp))]; exact j2) (by rw [hF.cell (by simp; omega) (hno _ (by simp; omega))]; exact j3)
      rw [← hQ]
      exact this
    · rintro e w' ⟨Ao, co, rfl, ho, A', c', hI, hF, hN⟩
      refine ⟨Ao, co, rfl, own_base ho (fun k hk => by have := (ho.lt k hk).1; omega), A', c', hI, (F.mono (fun _ x _ => x.elim)).trans hF, fun a ha => ?_⟩
      rcases hN a ha with h1 | h1
      · exact .inl h1
      · exact .inr (by omega))
  clear hQ h
  go_enter Try.func11, Try.ntmps11
  go_wp2_with fail
  refine (hHT.out _ _ _).mono ?_
  rintro e w' ⟨Ao, co, rfl, ho, A', c', hI, hF, hN⟩
  replace ho := Lib.hid ho
  replace hI := Lib.hid hI
  replace hF := Lib.hid hF
  replace hN := Lib.hid hN
  go_wp2_with fail
  go_ret
  exact ⟨Ao, co, rfl, ho.out, A', c', hI.out, hF.out, hN.out⟩
end
end Go.Proofs.Ytifigmhecgbfoaa
