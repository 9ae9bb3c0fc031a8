/- flight: slices.IndexFunc over packets, whatever test; Age. -/
import Derived.Test.YtifigmhecgbfoaaFlB
import Derived.Shelf.Abstract
namespace Go.Proofs.Ytifigmhecgbfoaa
open Go.RowKit

/-- A function of the program, called by its value, is entered. -/
def Ent (g : Nat) : Prop := ∀ (args : Array Value) (w : World), (callFunc g args).run Try.prog w = .ok (.enter g args) w

def fidx (q : Pk → Bool) (l : List Pk) : Int := match l.findIdx? q with | some k => (k : Int) | none => -1
theorem fidx_hit (q : Pk → Bool) (l : List Pk) (k : Nat) (x : Pk) (h : l[k]? = some x) (hq : q x = true) (hb : ∀ j, j < k → ∀ y, l[j]? = some y → q y = false) : fidx q l = k := by
  have : l.findIdx? q = some k := by
    rw [List.findIdx?_eq_some_iff_getElem]
    obtain ⟨hk, he⟩ := List.getElem?_eq_some_iff.1 h
    refine ⟨hk, by rw [he]; exact hq, fun j hj => ?_⟩
    rw [hb j hj _ (List.getElem?_eq_getElem (by omega))]
    simp
  unfold fidx; rw [this]
theorem fidx_miss (q : Pk → Bool) (l : List Pk) (hb : ∀ j, j < l.length → ∀ y, l[j]? = some y → q y = false) : fidx q l = -1 := by
  have : l.findIdx? q = none := by
    rw [List.findIdx?_eq_none_iff]
    intro x hx
    obtain ⟨j, hj, rfl⟩ := List.getElem_of_mem hx
    exact hb j hj _ (List.getElem?_eq_getElem hj)
  unfold fidx; rw [this]

theorem load_pk {W : World} {A : Option Addr} {l : List Pk} (hr : Rd W A (pkv l)) {k : Nat} (hk : k < l.length) :
    ∃ b off, A = some ⟨b, off, none⟩ ∧ W.cell? ⟨b, off + k * 3, none⟩ = some (.int .u64 (l[k]).num) ∧ W.cell? ⟨b, off + k * 3 + 1, none⟩ = some (.int .i64 (l[k]).tick) ∧ W.cell? ⟨b, off + k * 3 + 2, none⟩ = some (.bool (l[k]).cnt) := by
  obtain ⟨b, off, e, hc⟩ := hr (by simp; omega)
  subst e
  have h := pkv_get l k _ (List.getElem?_eq_getElem hk)
  refine ⟨b, off, rfl, ?_, ?_, ?_⟩
  · exact hc _ _ (h 0 _ rfl)
  · rw [Nat.add_assoc]; exact hc _ _ (h 1 _ rfl)
  · rw [Nat.add_assoc]; exact hc _ _ (h 2 _ rfl)

set_option maxHeartbeats 2000000 in
theorem idxf_any (l : List Pk) (A : Option Addr) (c : Nat) (g : Nat) (lb : Array Value) (q : Pk → Bool) (w : World) (eg : Ent g) (hr : Rd w A (pkv l)) (hl : l.length ≤ 1000000)
    (hq : ∀ W x, Below w.heap.size w W → x ∈ l → Calls Try.prog g (#[x.agg] ++ lb) W fun e w' => e = .returned (.bool (q x)) ∧ Below w.heap.size w w') :
    Calls Try.prog 29 #[.slice A l.length c, .func (.func g) #[] lb] w fun e w' => e = .returned (.int .i64 (fidx q l)) ∧ Below w.heap.size w w' := by
  have EG : ∀ (args : Array Value) (w : World), (callFunc g args).run Try.prog w = .ok (.enter g args) w := eg
  replace hq := Lib.hid hq
  go_enter Try.func29, Try.ntmps29
  go_wp2
  go_loopw [5, 8] (fun _ i wr => ∃ k : Nat, k ≤ l.length ∧ i = .int .i64 k ∧ Hid (∀ j, j < k → ∀ y, l[j]? = some y → q y = false) ∧ Hid (Below w.heap.size w wr)) (fun _ i _ => l.length - (intOf i).toNat)
  case atStart => exact ⟨0, by omega, rfl, Lib.hid (fun j hj => absurd hj (by omega)), Lib.hid (Below.refl _ w)⟩
  case round =>
    obtain ⟨k, hk, rfl, HT, HB⟩ := hrel
    by_cases hkl : k < l.length
    · obtain ⟨b, off, rfl, l0, l1, l2⟩ := load_pk (hr.fr (Fr.of_below HB.out NoS) (fun _ _ _ x => x)) hkl
      have hcall := hq.out wr l[k] HB.out (List.getElem_mem hkl)
      obtain ⟨y, hy⟩ : ∃ y, l[k] = y := ⟨_, rfl⟩
      have hy' : Hid (l[k]? = some y) := Lib.hid (by rw [List.getElem?_eq_getElem hkl, hy])
      rw [hy] at l0 l1 l2 hcall
      clear hy hr
      unfold Pk.agg at hcall
      cases hqy : q y
      · rw [hqy] at hcall
        go_wp2_with (go_at_fn g; refine hcall.mono ?_; rintro e w' ⟨rfl, hb'⟩)
        go_roundw
        case rel => exact ⟨k + 1, by omega, by go_num, Lib.hid (fun j hj z hz => by
            rcases Nat.lt_or_ge j k with h | h
            · exact HT.out j h z hz
            · have : j = k := by omega
              subst this
              rw [hy'.out] at hz; injection hz with hz; rw [← hz]; exact hqy), Lib.hid hb'⟩
        case measure => simp [intOf]; omega
      · rw [hqy] at hcall
        go_wp2_with (go_at_fn g; refine hcall.mono ?_; rintro e w' ⟨rfl, hb'⟩)
        go_ret
        exact ⟨ret_int (fidx_hit q l k y hy'.out hqy HT.out).symm, hb'⟩
    · have hk' : k = l.length := by omega
      subst hk'
      go_wp2
      go_ret
      exact ⟨ret_int (fidx_miss q l HT.out).symm, HB.out⟩

/-- Age's test. -/
theorem age1_any (x : Pk) (num B : Nat) (w : World) (hB : w.cell? ⟨B, 0, none⟩ = some (.int .u64 num)) :
    Calls Try.prog 30 (#[x.agg] ++ #[.pointer (some ⟨B, 0, none⟩)]) w fun e w' => e = .returned (.bool (decide (x.num = num))) ∧ Below w.heap.size w w' := by
  have hlt := World.block_lt_of_cell? w _ hB
  unfold Pk.agg
  show Calls Try.prog 30 #[.agg #[.int .u64 x.num, .int .i64 x.tick, .bool x.cnt], .pointer (some ⟨B, 0, none⟩)] w _
  have hd : ((x.num : Int) == (num : Int)) = decide (x.num = num) := by
    by_cases h : x.num = num
    · simp [h]
    · rw [decide_eq_false h, beq_eq_false_iff_ne]; omega
  go_enter Try.func30, Try.ntmps30
  go_wp2_with fail
  go_ret
  exact ⟨rfl, (Below.refl _ w).alloc (Nat.le_refl _) _⟩
def fage (f : Fl) (num : Nat) : Option Nat := (f.l.find? fun x => decide (x.num = num)).map Pk.tick
theorem ent30 : Ent 30 := enters_of Try.func30 (by kernel_rfl) rfl
theorem mkfn (fn : Fn) (first cap : Array Value) (w : World) : (Instr.makeFunc fn first cap).run Try.prog w = .ok (.func fn first cap) w := rfl

section
variable {w w' : World} {p : Nat} {A : Option Addr} {c : Nat} {f : Fl}
set_option maxHeartbeats 4000000 in
theorem age_any (h : IsFl w p A c f) (num : Nat) :
    Calls Try.prog 21 #[.pointer (some ⟨p, 0, none⟩), .int .u64 num] w fun e w' => e = .returned (.tuple #[.int .i64 ((fage f num).getD 0 : Nat), .bool (fage f num).isSome]) ∧ Below w.heap.size w w' := by
  have hmf := mkfn
  have c0 := wrote_cell h.cell 0 _ rfl
  have c0a := fun o => wrote_cell (h.alloc o).cell 0 _ rfl
  have H := Lib.hid h
  have hsm := h.small
  have HA : Hid (∀ o, Calls Try.prog 29 #[.slice A f.l.length c, .func (.func 30) #[] #[.pointer (some ⟨w.heap.size, 0, none⟩)]] (w.alloc (.cells #[.int .u64 num] o)) fun e w' =>
      e = .returned (.int .i64 (fidx (fun x => decide (x.num = num)) f.l)) ∧ Below w.heap.size w w' ∧ IsFl w' p A c f) := Lib.hid (fun o => by
    have hB : (w.alloc (.cells #[.int .u64 num] o)).cell? ⟨w.heap.size, 0, none⟩ = some (.int .u64 num) := by rw [World.cell?_alloc_new]; rfl
    refine (idxf_any f.l A c _ _ (fun x => decide (x.num = num)) _ ent30 (h.alloc _).rd (by omega) (fun W x hb _ => ?_)).mono ?_
    · have hB2 : W.cell? ⟨w.heap.size, 0, none⟩ = some (.int .u64 num) := (hb.cell (by simp)).trans hB
      refine (age1_any x num w.heap.size W hB2).mono ?_
      rintro e w' ⟨rfl, hb2⟩
      exact ⟨rfl, hb.trans (hb2.mono hb.size)⟩
    · rintro e w' ⟨rfl, hb⟩
      exact ⟨rfl, ((Below.refl _ w).alloc (Nat.le_refl _) _).trans (hb.mono (by simp)), (h.alloc _).below hb⟩)
  clear h
  rcases hf : f.l.findIdx? (fun x => decide (x.num = num)) with _ | k
  · have hi : fidx (fun x => decide (x.num = num)) f.l = -1 := by unfold fidx; rw [hf]
    have ha : fage f num = none := by
      unfold fage
      rw [List.findIdx?_eq_none_iff] at hf
      rw [List.find?_eq_none.2 (fun x hx => by simpa using hf x hx)]
      rfl
    rw [ha]
    rw [hi] at HA
    replace hf := Lib.hid hf
    go_enter Try.func21, Try.ntmps21
    go_wp2_with (go_at_call 29; refine (HA.out _).mono ?_; rintro e w' ⟨rfl, hb, hI⟩)
    go_ret2
    exact ⟨rfl, hb⟩
  · have hi : fidx (fun x => decide (x.num = num)) f.l = k := by unfold fidx; rw [hf]
    obtain ⟨hk, hkq, hkb⟩ := List.findIdx?_eq_some_iff_getElem.1 hf
    have ha : fage f num = some f.l[k].tick := by
      unfold fage
      have : f.l.find? (fun x => decide (x.num = num)) = some f.l[k] := List.find?_eq_some_iff_getElem.2 ⟨hkq, k, hk, rfl, fun j hj => by simpa using hkb j hj⟩
      rw [this]
      rfl
    rw [ha]
    rw [hi] at HA
    have HA2 : Hid (∀ o, Calls Try.prog 29 #[.slice A f.l.length c, .func (.func 30) #[] #[.pointer (some ⟨w.heap.size, 0, none⟩)]] (w.alloc (.cells #[.int .u64 num] o)) fun e w' =>
      e = .returned (.int .i64 k) ∧ Below w.heap.size w w' ∧ w'.cell? ⟨p, 0, none⟩ = some (.slice A f.l.length c) ∧ ∃ b off, A = some ⟨b, off, none⟩ ∧ w'.cell? ⟨b, off + k * 3 + 1, none⟩ = some (.int .i64 f.l[k].tick)) := Lib.hid (fun o => by
        refine (HA.out o).mono ?_
        rintro e w' ⟨rfl, hb, hI⟩
        obtain ⟨b, off, hA, _, h1, _⟩ := load_pk hI.rd hk
        exact ⟨rfl, hb, wrote_cell hI.cell 0 _ rfl, b, off, hA, h1⟩)
    have hkl : (k : Int) < (f.l.length : Int) := by omega
    obtain ⟨tk, htk⟩ : ∃ tk, f.l[k].tick = tk := ⟨_, rfl⟩
    rw [htk] at HA2 ⊢
    clear HA hf hkq hkb ha hi
    have hk0 : decide ((k : Int) < 0) = false := decide_eq_false (by omega)
    replace htk := Lib.hid htk
    go_enter Try.func21, Try.ntmps21
    go_wp2_with (go_at_call 29; refine (HA2.out _).mono ?_; rintro e w' ⟨rfl, hb, d0, b, off, rfl, d1⟩)
    go_ret2
    exact ⟨rfl, hb⟩
end
end Go.Proofs.Ytifigmhecgbfoaa
