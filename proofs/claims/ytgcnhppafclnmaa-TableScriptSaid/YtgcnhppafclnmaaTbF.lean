/- table: SameFields, Fixed; the contracts in the form in which the laws use them; awake. -/
import Derived.Test.YtgcnhppafclnmaaTbC
import Derived.Test.YtgcnhppafclnmaaTbE
import Derived.Test.YtgcnhppafclnmaaLow
namespace Go.Proofs.Ytgcnhppafclnmaa
open Go.RowKit

set_option maxRecDepth 100000 in
set_option maxHeartbeats 2000000 in
theorem samef_any (l m : List Fd) (A1 A2 : Option Addr) (c1 c2 : Nat) (w : World) (h1 : Rd w A1 (fdv l)) (h2 : Rd w A2 (fdv m)) (hl : l.length ≤ 1000000) (hm : m.length ≤ 1000000) :
    Calls Try.prog 21 #[.slice A1 l.length c1, .slice A2 m.length c2] w fun e w' => e = .returned (.bool (decide (l = m))) ∧ ∃ k, w' = w.drewN k := by
  by_cases hlen : l.length = m.length
  · have hb : ((l.length : Int) != (m.length : Int)) = false := by rw [hlen]; simp
    go_enter Try.func21, Try.ntmps21
    have HL := Lib.hid hlen
    clear hlen
    go_wp2
    clear hb
    go_loopw [5] (fun i wr => ∃ k q : Nat, k ≤ l.length ∧ i = .int .i64 k ∧ wr = w.drewN q ∧ l.take k = m.take k) (fun i _ => l.length - (intOf i).toNat)
    case atStart => exact ⟨0, 0, by omega, rfl, rfl, rfl⟩
    case round =>
      obtain ⟨k, q, hk, rfl, rfl, htake⟩ := hrel
      have HT := Lib.hid htake
      clear htake
      by_cases hkl : k < l.length
      · have hkm : k < m.length := by have := HL.out; omega
        obtain ⟨b1, o1, rfl, x0, x1⟩ := load_fd h1 hkl
        obtain ⟨b2, o2, rfl, y0, y1⟩ := load_fd h2 hkm
        have hd : l[k] = m[k] ∨ (l[k] ≠ m[k] ∧ ((((l[k]).name.toList == (m[k]).name.toList) = false) ∨ ((l[k]).name = (m[k]).name ∧ ((l[k]).value.toList == (m[k]).value.toList) = false))) := by
          by_cases e0 : l[k] = m[k]
          · exact .inl e0
          · refine .inr ⟨e0, ?_⟩
            by_cases e1 : (l[k]).name = (m[k]).name
            · exact .inr ⟨e1, ba_list_ne (fun e2 => e0 (by cases h : l[k]; cases h' : m[k]; simp_all))⟩
            · exact .inl (ba_list_ne e1)
        rcases hd with hd | ⟨hd, hne⟩
        · have HD := Lib.hid hd
          rw [hd] at x0 x1
          obtain ⟨f, hf⟩ : ∃ f, m[k] = f := ⟨_, rfl⟩
          rw [hf] at x0 x1 y0 y1
          obtain ⟨fa, fb⟩ := f
          clear hd hf
          go_wp2
          go_big_quiet (fail)
          go_wp2
          go_roundw
          case rel => exact ⟨k + 1, q + nq, by omega, by go_num, rfl, by rw [List.take_succ_eq_append_getElem hkl, List.take_succ_eq_append_getElem hkm, HT.out, HD.out]⟩
          case measure => simp [intOf]; omega
        · have HD := Lib.hid hd
          obtain ⟨f, hf⟩ : ∃ f, l[k] = f := ⟨_, rfl⟩
          obtain ⟨g, hg⟩ : ∃ g, m[k] = g := ⟨_, rfl⟩
          rw [hf] at x0 x1 hne
          rw [hg] at y0 y1 hne
          obtain ⟨fa, fb⟩ := f
          obtain ⟨ga, gb⟩ := g
          simp only at hne
          clear hd hf hg
          rcases hne with h0 | ⟨h0, h00⟩
          · go_wp2
            go_big_quiet (fail)
            go_wp2
            go_ret
            refine ⟨ret_bool ?_, q + nq, by rw [World.drewN_drewN]⟩
            have := HD.out
            exact (decide_eq_false (fun e => this (by simp only [e]))).symm
          · subst h0
            go_wp2
            go_big_quiet (fail)
            go_wp2
            go_ret
            refine ⟨ret_bool ?_, q + nq, by rw [World.drewN_drewN]⟩
            have := HD.out
            exact (decide_eq_false (fun e => this (by simp only [e]))).symm
      · have hkl' : k = l.length := by omega
        go_wp2
        go_ret
        refine ⟨ret_bool ?_, _, rfl⟩
        have h1 := HT.out
        have h2 := HL.out
        rw [hkl', List.take_length, h2, List.take_length] at h1
        exact (decide_eq_true h1).symm
  · have hb : ((l.length : Int) != (m.length : Int)) = true := by rw [bne_iff_ne]; omega
    have HL := Lib.hid hlen
    clear hlen
    go_enter Try.func21, Try.ntmps21
    go_wp2
    go_ret
    refine ⟨ret_bool ?_, 0, rfl⟩
    have := HL.out
    exact (decide_eq_false (fun e => this (by rw [e]))).symm
theorem samef_n (b : Bool) (l m : List Fd) (n1 n2 : Nat) (e1 : l.length = n1) (e2 : m.length = n2) (A1 A2 : Option Addr) (c1 c2 : Nat) (w : World) (h1 : Rd w A1 (fdv l)) (h2 : Rd w A2 (fdv m)) (hl : n1 ≤ 1000000) (hm : n2 ≤ 1000000) (hb : decide (l = m) = b) :
    Calls Try.prog 21 #[.slice A1 n1 c1, .slice A2 n2 c2] w fun e w' => e = .returned (.bool b) ∧ Still w w' := by
  subst e1 e2
  rw [← hb]
  exact still_of (samef_any l m A1 A2 c1 c2 w h1 h2 hl hm)

section
variable {P : Nat → Prop} {w w' : World} {p : Nat} {t : Tb}
theorem tnew_at (P : Nat → Prop) (w : World) (hP : ∀ k, P k → k < w.heap.size) (most : Nat) (h2 : most ≤ 512) : Calls Try.prog 8 #[.int .i64 most] w fun e w' => ∃ p, e = .returned (.pointer (some ⟨p, 0, none⟩)) ∧ At IsTbS P w' p (tnew most) ∧ Below w.heap.size w w' := by
  refine (tnew_any most w h2).mono ?_
  rintro e w' ⟨rfl, hI, hb⟩
  refine ⟨_, rfl, At.new hP ⟨none, 0, hI, rfl⟩ hb (fun k hk => ?_), hb⟩
  rcases hk with rfl | ⟨a, ha, _⟩
  · exact Nat.le_refl _
  · cases ha
theorem ins_at (t' : Tb) (h : At IsTbS P w p t) (a b : ByteArray) (n : Nat) (hn : a.size + b.size + 32 = n) (hm : n ≤ t.most) (hF : t.F.length < 1000000) (ht : t.ins ⟨a, b⟩ = t') : Calls Try.prog 10 #[.pointer (some ⟨p, 0, none⟩), .agg #[.string a, .string b]] w fun e w' => e = .returned (.bool true) ∧ At IsTbS P w' p t' ∧ Fr (NotP P) w w' := by
  obtain ⟨⟨S, ⟨A, c, hI, rfl⟩, hP⟩, hlt⟩ := h
  refine (tins_yes hI a b n hn hm hF).mono ?_
  rintro e w' ⟨rfl, A', c', I', F, N⟩
  rw [ht] at I'
  refine ⟨rfl, At.step hP hlt ⟨A', c', I', rfl⟩ F (fun k hk => ?_)⟩
  rcases hk with rfl | ⟨a, ha, rfl⟩
  · exact .inl (.inl rfl)
  · rcases N a ha with ⟨b, hb1, hb2⟩ | h2
    · exact .inl (.inr ⟨b, hb1, hb2⟩)
    · exact .inr h2
theorem insno_at (h : At IsTbS P w p t) (a b : ByteArray) (n : Nat) (hn : a.size + b.size + 32 = n) (hb : n ≤ 1000000) (hm : t.most < n) : Calls Try.prog 10 #[.pointer (some ⟨p, 0, none⟩), .agg #[.string a, .string b]] w fun e w' => e = .returned (.bool false) ∧ At IsTbS P w' p t ∧ Below w.heap.size w w' := by
  have h' := h
  obtain ⟨⟨S, ⟨A, c, hI, rfl⟩, hP⟩, hlt⟩ := h
  refine (tins_no hI a b n hn hb hm).mono ?_
  rintro e w' ⟨rfl, b⟩
  exact ⟨rfl, h'.below tbOk b, b⟩
theorem get_at (x y : ByteArray) (b : Bool) (h : At IsTbS P w p t) (n : Nat) (hn : n < 18446744073709551616) (hf : (t.get n).getD fd0 = ⟨x, y⟩) (hb : (t.get n).isSome = b) : Calls Try.prog 9 #[.pointer (some ⟨p, 0, none⟩), .int .u64 n] w fun e w' => e = .returned (.tuple #[.agg #[.string x, .string y], .bool b]) ∧ At IsTbS P w' p t ∧ Below w.heap.size w w' := by
  have h' := h
  obtain ⟨⟨S, ⟨A, c, hI, rfl⟩, hP⟩, hlt⟩ := h
  refine (tget_any hI n hn).mono ?_
  rintro e w' ⟨rfl, bb⟩
  rw [hf, hb]
  exact ⟨rfl, h'.below tbOk bb, bb⟩
theorem count_at (n : Nat) (h : At IsTbS P w p t) (hn : t.F.length = n) : Calls Try.prog 11 #[.pointer (some ⟨p, 0, none⟩)] w fun e w' => e = .returned (.int .u64 n) ∧ At IsTbS P w' p t ∧ Below w.heap.size w w' := by
  have h' := h
  obtain ⟨⟨S, ⟨A, c, hI, rfl⟩, hP⟩, hlt⟩ := h
  refine (count_any hI).mono ?_
  rintro e w' ⟨rfl, bb⟩
  rw [hn]
  exact ⟨rfl, h'.still tbOk bb, bb.below⟩
theorem used_at (n : Nat) (h : At IsTbS P w p t) (hn : t.used = n) : Calls Try.prog 13 #[.pointer (some ⟨p, 0, none⟩)] w fun e w' => e = .returned (.int .i64 n) ∧ w = w' := by
  obtain ⟨⟨S, ⟨A, c, hI, rfl⟩, hP⟩, hlt⟩ := h
  rw [← hn]
  exact used_any hI
theorem find_at (n : Nat) (b1 b2 : Bool) (h : At IsTbS P w p t) (x y : ByteArray) (hf : t.find ⟨x, y⟩ = (n, b1, b2)) : Calls Try.prog 17 #[.pointer (some ⟨p, 0, none⟩), .agg #[.string x, .string y]] w fun e w' => e = .returned (.tuple #[.int .u64 n, .bool b1, .bool b2]) ∧ At IsTbS P w' p t ∧ Below w.heap.size w w' := by
  have h' := h
  obtain ⟨⟨S, ⟨A, c, hI, rfl⟩, hP⟩, hlt⟩ := h
  refine (tfind_any hI x y).mono ?_
  rintro e w' ⟨rfl, bb⟩
  rw [hf]
  exact ⟨rfl, h'.below tbOk bb, bb⟩
theorem tlist_at (l : List Fd) (n : Nat) (h : At IsTbS P w p t) (hl : t.l = l) (hn : l.length = n) : Calls Try.prog 20 #[.pointer (some ⟨p, 0, none⟩)] w fun e w' => ∃ A c, e = .returned (.slice A n c) ∧ w'.ownsRow w.heap.size 28 2 (.slice A n c) n (fdv l) ∧ At IsTbS P w' p t ∧ Below w.heap.size w w' := by
  have h' := h
  obtain ⟨⟨S, ⟨A, c, hI, rfl⟩, hP⟩, hlt⟩ := h
  subst hl hn
  refine (tlist_any hI).mono ?_
  rintro e w' ⟨A2, c2, rfl, o2, bb⟩
  exact ⟨A2, c2, rfl, o2, h'.below tbOk bb, bb⟩
end

def fixed : List Fd := [⟨⟨#[58, 97, 117, 116, 104, 111, 114, 105, 116, 121]⟩, ⟨#[]⟩⟩, ⟨⟨#[58, 112, 97, 116, 104]⟩, ⟨#[47]⟩⟩, ⟨⟨#[58, 109, 101, 116, 104, 111, 100]⟩, ⟨#[71, 69, 84]⟩⟩, ⟨⟨#[58, 109, 101, 116, 104, 111, 100]⟩, ⟨#[80, 79, 83, 84]⟩⟩,
  ⟨⟨#[58, 115, 99, 104, 101, 109, 101]⟩, ⟨#[104, 116, 116, 112, 115]⟩⟩, ⟨⟨#[58, 115, 116, 97, 116, 117, 115]⟩, ⟨#[50, 48, 48]⟩⟩, ⟨⟨#[58, 115, 116, 97, 116, 117, 115]⟩, ⟨#[52, 48, 52]⟩⟩, ⟨⟨#[58, 115, 116, 97, 116, 117, 115]⟩, ⟨#[53, 48, 48]⟩⟩,
  ⟨⟨#[97, 99, 99, 101, 112, 116]⟩, ⟨#[42, 47, 42]⟩⟩, ⟨⟨#[99, 111, 110, 116, 101, 110, 116, 45, 108, 101, 110, 103, 116, 104]⟩, ⟨#[48]⟩⟩, ⟨⟨#[99, 111, 110, 116, 101, 110, 116, 45, 116, 121, 112, 101]⟩, ⟨#[116, 101, 120, 116, 47, 112, 108, 97, 105, 110]⟩⟩,
  ⟨⟨#[99, 111, 110, 116, 101, 110, 116, 45, 116, 121, 112, 101]⟩, ⟨#[97, 112, 112, 108, 105, 99, 97, 116, 105, 111, 110, 47, 106, 115, 111, 110]⟩⟩, ⟨⟨#[99, 111, 111, 107, 105, 101]⟩, ⟨#[]⟩⟩, ⟨⟨#[100, 97, 116, 101]⟩, ⟨#[]⟩⟩, ⟨⟨#[101, 116, 97, 103]⟩, ⟨#[]⟩⟩, ⟨⟨#[117, 115, 101, 114, 45, 97, 103, 101, 110, 116]⟩, ⟨#[]⟩⟩]
set_option maxRecDepth 100000 in
set_option maxHeartbeats 2000000 in
theorem fixed_any (w : World) : Calls Try.prog 22 #[] w fun e w' => ∃ A, e = .returned (.slice A 16 16) ∧ Rd w' A (fdv fixed) ∧ Below w.heap.size w w' := by
  go_enter Try.func22, Try.ntmps22
  go_wp2
  go_ret
  exact ⟨_, rfl, Rd.fresh_mark w (fdv fixed) _ _, (Below.refl _ w).alloc (Nat.le_refl _) _⟩

end Go.Proofs.Ytgcnhppafclnmaa
