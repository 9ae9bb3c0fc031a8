/- flight: Came, where all ranges are good. -/
import Derived.Test.YtifigmhecgbfoaaFlJ
namespace Go.Proofs.Ytifigmhecgbfoaa
open Go.RowKit

theorem fheard_take (f : Fl) (rs : List Rg) (k : Nat) (r : Rg) (h : rs[k]? = some r) : fheard f (rs.take (k + 1)) = ⟨f.l, f.any, true, f.last, f.tick, max (fheard f (rs.take k)).largest r.hi⟩ := by
  obtain ⟨hk, e⟩ := List.getElem?_eq_some_iff.1 h
  rw [List.take_succ_eq_append_getElem hk, e, fheard_snoc]
theorem fheard_zero (f : Fl) : fheard f [] = f := by
  cases f; simp [fheard]

section
variable {w w' : World} {p : Nat} {A : Option Addr} {c : Nat} {f : Fl}
set_option maxHeartbeats 8000000 in
theorem came_yes (h : IsFl w p A c f) (rs : List Rg) (R : Option Addr) (cr : Nat) (hr : Rd w R (rgv rs)) (hRA : 0 < rs.length → ∀ a, R = some a → ¬ OnFl p A a.block) (hl : rs.length ≤ 1000000) (hgood : rs.any (rbad f) = false) :
    Calls Try.prog 15 #[.pointer (some ⟨p, 0, none⟩), .slice R rs.length cr] w fun e w' =>
      ∃ Ao co, e = .returned (.tuple #[.slice Ao (fnums f (qcame rs)).length co, .bool true]) ∧ w'.ownsRow w.heap.size 27 1 (.slice Ao (fnums f (qcame rs)).length co) (fnums f (qcame rs)).length (nv (fnums f (qcame rs))) ∧
      ∃ A' c', IsFl w' p A' c' (ftake (fheard f rs) (qcame rs)) ∧ Fr (OnFl p A) w w' ∧ Next w A A' := by
  have hmf := mkfn
  have hB : ∀ m, (w.alloc (.cells #[.slice R rs.length cr] m)).cell? ⟨w.heap.size, 0, none⟩ = some (.slice R rs.length cr) := fun m => by rw [World.cell?_alloc_new]; rfl
  have HG : Hid (∀ j y, rs[j]? = some y → rbad f y = false) := Lib.hid (fun j y hy => by
    rw [List.any_eq_false] at hgood
    simpa using hgood y (List.mem_of_getElem? hy))
  have hno : Hid (∀ k, w.heap.size ≤ k → ¬ OnFl p A k) := Lib.hid (fun k hk ho => by
      have := h.lt
      rcases ho with h1 | ⟨a, ha, hb⟩
      · omega
      · rcases h.at with e1 | ⟨g, e1, _, e3⟩
        · rw [e1] at ha; cases ha
        · rw [e1] at ha; injection ha with ha; subst ha; simp at hb; omega)
  have HI := Lib.hid h
  have HR := Lib.hid hr
  have hRA2 : 0 < (rgv rs).length → ∀ a, R = some a → ¬ OnFl p A a.block := fun hn => hRA (by simp at hn; omega)
  have HRA2 := Lib.hid hRA2
  have HTake : Hid (∀ wr, IsFl wr p A c (fheard f rs) → Fr (OnFl p A) w wr → w.heap.size + 1 ≤ wr.heap.size → wr.cell? ⟨w.heap.size, 0, none⟩ = some (.slice R rs.length cr) →
      Calls Try.prog 24 #[.pointer (some ⟨p, 0, none⟩), .func (.func 26) #[] #[.pointer (some ⟨w.heap.size, 0, none⟩)]] wr fun e w' =>
      ∃ Ao co, e = .returned (.slice Ao (fnums f (qcame rs)).length co) ∧ w'.ownsRow w.heap.size 27 1 (.slice Ao (fnums f (qcame rs)).length co) (fnums f (qcame rs)).length (nv (fnums f (qcame rs))) ∧
      ∃ A' c', IsFl w' p A' c' (ftake (fheard f rs) (qcame rs)) ∧ Fr (OnFl p A) w w' ∧ Next w A A') := Lib.hid (fun wr I F hsz hcB => by
    refine (take_any I _ _ (qcame rs) ent26 (fun W x hF hI _ => ?_)).mono ?_
    · refine came1_any x rs R cr w.heap.size W (by rw [hF.cell (by simp; omega) (hno.out _ (by simp))]; exact hcB) ((hr.fr F hRA2).fr hF hRA2) hl
    · rintro e w' ⟨Ao, co, rfl, ho, A', c', hI, hF, hN⟩
      refine ⟨Ao, co, rfl, own_base ho (fun k hk => by have := (ho.lt k hk).1; omega), A', c', hI, F.trans hF, fun a ha => ?_⟩
      rcases hN a ha with h1 | h1
      · exact .inl h1
      · exact .inr (by omega))
  have hbd : Hid (∀ y, rbad f y = false → y.hi ≤ 4611686018427387903) := Lib.hid (fun y hy => by
    unfold rbad at hy
    simp at hy
    have := h.last
    omega)
  clear h hr hRA hRA2 hgood
  go_enter Try.func15, Try.ntmps15
  go_wp2_with fail
  go_loopw [7, 14] (fun _ i wr => ∃ k : Nat, k ≤ rs.length ∧ i = .int .i64 k ∧ Hid (Fr NoS w wr) ∧ wr.cell? ⟨w.heap.size, 0, none⟩ = some (.slice R rs.length cr)) (fun _ i _ => rs.length - (intOf i).toNat)
  case atStart => exact ⟨0, by omega, rfl, Lib.hid ((Fr.refl NoS w).alloc _), hB _⟩
  case round =>
    obtain ⟨k, hk, rfl, HW, hcB⟩ := hrel
    by_cases hkl : k < rs.length
    · obtain ⟨b, off, rfl, l0, l1⟩ := load_rg (HR.out.fr HW.out (fun _ _ _ x => x)) hkl
      obtain ⟨y, hy⟩ : ∃ y, rs[k] = y := ⟨_, rfl⟩
      have hy' : rbad f y = false := HG.out k y (by rw [List.getElem?_eq_getElem hkl, hy])
      rw [hy] at l0 l1
      have I := HI.out.fr HW.out (fun x => x) (fun _ _ x => x)
      have hbl : Hid (∀ o n, Fr NoS w ((wr.alloc o).drewN n) ∧ ((wr.alloc o).drewN n).cell? ⟨w.heap.size, 0, none⟩ = some (.slice (some ⟨b, off, none⟩) rs.length cr)) := Lib.hid (fun o n => ⟨(HW.out.alloc o).drewN n, Lib.cell?_alloc_some o hcB⟩)
      obtain ⟨lo, hlo⟩ : ∃ x : Int, (y.lo : Int) = x := ⟨_, rfl⟩
      obtain ⟨hi, hhi⟩ : ∃ x : Int, (y.hi : Int) = x := ⟨_, rfl⟩
      obtain ⟨la, hla⟩ : ∃ x : Int, (f.last : Int) = x := ⟨_, rfl⟩
      have c1 : ∀ o, (wr.alloc o).cell? ⟨p, 1, none⟩ = some (.bool true) := fun o => by
        have : f.any = true := by unfold rbad at hy'; simp at hy'; exact hy'.2.1
        rw [← this]; exact wrote_cell (I.alloc o).cell 1 _ rfl
      have c3 : ∀ o, (wr.alloc o).cell? ⟨p, 3, none⟩ = some (.int .u64 la) := fun o => by rw [← hla]; exact wrote_cell (I.alloc o).cell 3 _ rfl
      have b1 : decide (hi < lo) = false := decide_eq_false (by unfold rbad at hy'; simp at hy'; omega)
      have b3 : decide (la < hi) = false := decide_eq_false (by unfold rbad at hy'; simp at hy'; omega)
      simp only [hlo, hhi] at l0 l1
      clear hy hy' hB hlo hhi hla I hcB HW
      go_wp2_with fail
      go_quiet (fail)
      go_wp2_with fail
      go_roundw
      case rel => exact ⟨k + 1, by omega, by go_num, Lib.hid (hbl.out _ _).1, (hbl.out _ _).2⟩
      case measure => simp [intOf]; omega
    · have hk' : k = rs.length := by omega
      subst hk'
      clear hB
      have hst : Hid (IsFl wr p A c (fheard f (rs.take 0))) := Lib.hid (by rw [List.take_zero, fheard_zero]; exact HI.out.fr HW.out (fun x => x) (fun _ _ x => x))
      have hF0 : Hid (Fr (OnFl p A) w wr) := Lib.hid (HW.out.mono (fun _ x _ => x.elim))
      have hsz0 : Hid (w.heap.size + 1 ≤ wr.heap.size) := Lib.hid (by have := World.block_lt_of_cell? wr _ hcB; simp at this; omega)
      have hcB0 := hcB
      go_wp2_with fail
      go_loopw [9, 42] (fun _ i wr2 => ∃ k : Nat, k ≤ rs.length ∧ i = .int .i64 k ∧ Hid (IsFl wr2 p A c (fheard f (rs.take k))) ∧ Hid (Fr (OnFl p A) w wr2) ∧ Hid (w.heap.size + 1 ≤ wr2.heap.size) ∧ wr2.cell? ⟨w.heap.size, 0, none⟩ = some (.slice R rs.length cr)) (fun _ i _ => rs.length - (intOf i).toNat)
      case atStart => exact ⟨0, by omega, rfl, hst, hF0, hsz0, hcB0⟩
      case round =>
        obtain ⟨k, hk, rfl, HI2, HF2, HS2, hcB⟩ := hrel
        clear hst hF0 hsz0 hcB0
        by_cases hkl : k < rs.length
        · obtain ⟨b, off, rfl, l0, l1⟩ := load_rg (HR.out.fr HF2.out HRA2.out) hkl
          obtain ⟨y, hy⟩ : ∃ y, rs[k] = y := ⟨_, rfl⟩
          have hyk : rs[k]? = some y := by rw [List.getElem?_eq_getElem hkl, hy]
          have hy' : rbad f y = false := HG.out k y hyk
          rw [hy] at l0 l1
          have I := HI2.out
          obtain ⟨m, hm⟩ : ∃ x : Int, ((fheard f (rs.take k)).largest : Int) = x := ⟨_, rfl⟩
          obtain ⟨lo, hlo⟩ : ∃ x : Int, (y.lo : Int) = x := ⟨_, rfl⟩
          obtain ⟨hi, hhi⟩ : ∃ x : Int, (y.hi : Int) = x := ⟨_, rfl⟩
          obtain ⟨M, hM⟩ : ∃ M : Int, M = max m hi := ⟨_, rfl⟩
          have HM := fun (ts : Array TypeId) (t : TypeId) (w : World) => run_max2u (P := Try.prog) m hi M hM ts t w
          have c5 : ∀ o, (wr.alloc o).cell? ⟨p, 5, none⟩ = some (.int .u64 m) := fun o => by rw [← hm]; exact wrote_cell (I.alloc o).cell 5 _ rfl
          have c2 : ∀ o, ∃ v, (wr.alloc o).cell? ⟨p, 2, none⟩ = some v := fun o => ⟨_, wrote_cell (I.alloc o).cell 2 _ rfl⟩
          have f5 : ∀ o, (wr.alloc o).frozen? ⟨p, 5, none⟩ = false := fun o => frozen_of_row _ p 5 _ _ (I.alloc o).cell
          have f2 : ∀ o, (wr.alloc o).frozen? ⟨p, 2, none⟩ = false := fun o => frozen_of_row _ p 2 _ _ (I.alloc o).cell
          have c2' : ∀ o, (wr.alloc o).cell? ⟨p, 2, none⟩ = some (.bool (fheard f (rs.take k)).came) := fun o => wrote_cell (I.alloc o).cell 2 _ rfl
          simp only [hlo, hhi] at l0 l1
          have hnx : Hid (∀ o, IsFl (((wr.alloc o).setCell ⟨p, 2, none⟩ (.bool true)).setCell ⟨p, 5, none⟩ (.int .u64 M)).drew p A c (fheard f (rs.take (k + 1))) ∧ Fr (OnFl p A) w (((wr.alloc o).setCell ⟨p, 2, none⟩ (.bool true)).setCell ⟨p, 5, none⟩ (.int .u64 M)).drew ∧
              w.heap.size + 1 ≤ (((wr.alloc o).setCell ⟨p, 2, none⟩ (.bool true)).setCell ⟨p, 5, none⟩ (.int .u64 M)).drew.heap.size ∧ (((wr.alloc o).setCell ⟨p, 2, none⟩ (.bool true)).setCell ⟨p, 5, none⟩ (.int .u64 M)).drew.cell? ⟨w.heap.size, 0, none⟩ = some (.slice (some ⟨b, off, none⟩) rs.length cr)) := Lib.hid (fun o => by
            have J := I.alloc o
            have q1 := heap_setCell_same _ p 5 _ _ (.int .u64 M) (heap_setCell_same _ p 2 _ _ (.bool true) J.cell)
            have FS : Fr (fun k => k = p) wr (((wr.alloc o).setCell ⟨p, 2, none⟩ (.bool true)).setCell ⟨p, 5, none⟩ (.int .u64 M)).drew := ((((Fr.refl (fun k => k = p) wr).alloc o).setCell (p := ⟨p, 2, none⟩) (fun _ => rfl) _).setCell (p := ⟨p, 5, none⟩) (fun _ => rfl) _).drew
            have hMn : M = ((max (fheard f (rs.take k)).largest y.hi : Nat) : Int) := by rw [hM, ← hm, ← hhi]; omega
            refine ⟨?_, ?_, ?_, ?_⟩
            · rw [fheard_take f rs k y hyk]
              refine ⟨?_, own_fr (n := f.l.length) (xs := pkv f.l) I.row FS (fun j hj e => ?_), I.small, I.oks, I.last, ?_, I.tick⟩
              · rw [hMn] at q1 ⊢; exact q1
              · cases A with
                | none => cases hj
                | some a => injection hj with hj; subst hj; exact I.ne a rfl e
              · have h1 := I.lgst
                have h2 := hbd.out y hy'
                simp only
                omega
            · exact HF2.out.trans (FS.mono (fun j hj _ => .inl hj))
            · have h1 := FS.size
              have h2 := HS2.out
              omega
            · rw [FS.cell (by simp; have := HS2.out; omega) (by simp; have := HI.out.lt; omega)]; exact hcB)
          replace hM := Lib.hid hM
          replace hm := Lib.hid hm
          replace hyk := Lib.hid hyk
          clear hy hy' hlo hhi I c2
          go_wp2_with fail
          go_region
          go_wp2_with fail
          go_roundw
          case rel =>
            obtain ⟨n1, n2, n3, n4⟩ := hnx.out _
            exact ⟨k + 1, by omega, by go_num, Lib.hid n1, Lib.hid n2, Lib.hid n3, n4⟩
          case measure => simp [intOf]; omega
        · have hk' : k = rs.length := by omega
          subst hk'
          have HC := HTake.out wr (by have := HI2.out; rwa [List.take_length] at this) HF2.out HS2.out hcB
          replace HC := Lib.hid HC
          clear HTake
          go_wp2_with fail
          refine HC.out.mono ?_
          rintro e w' ⟨Ao, co, rfl, ho, A', c', hI, hF, hN⟩
          replace ho := Lib.hid ho
          replace hI := Lib.hid hI
          replace hF := Lib.hid hF
          replace hN := Lib.hid hN
          go_wp2_with fail
          go_ret2
          exact ⟨Ao, co, rfl, ho.out, A', c', hI.out, hF.out, hN.out⟩
end
end Go.Proofs.Ytifigmhecgbfoaa
