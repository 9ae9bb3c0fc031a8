/- flight: take: the walk. -/
import Derived.Test.YtifigmhecgbfoaaFlE
namespace Go.Proofs.Ytifigmhecgbfoaa
open Go.RowKit

section
variable {w w' : World} {p : Nat} {A : Option Addr} {c : Nat} {f : Fl}
def TkAt (w0 : World) (p : Nat) (A : Option Addr) (f : Fl) (q : Pk → Bool) (g : Nat) (lb : Array Value) (a : Act) (w : World) : Prop :=
  ∃ A2 c2 kept rest ts Ao co k, Tk w0 p A f q w A2 c2 kept rest ts Ao co k ∧ ∃ u2 u3 u7 u8 u9 u10 u11 u12 u13 u14 u15 u16 u17 u18 u19 u20 u21 u22 u23 u24 u25 u26 u27 u28 u29 u30 u31 u32 u33 u34 u35 u36 u37 u38 u39 u40 u41 u42 u43 u44 u45 u46 u47 u48, a = { tmps := #[.pointer (some ⟨p, 0, none⟩), .func (.func g) #[] lb, u2, u3, .slice none 0 0, .slice Ao ts.length co, .int .i64 k, u7, u8, u9, u10, u11, u12, u13, u14, u15, u16, u17, u18, u19, u20, u21, u22, u23, u24, u25, u26, u27, u28, u29, u30, u31, u32, u33, u34, u35, u36, u37, u38, u39, u40, u41, u42, u43, u44, u45, u46, u47, u48], defers := [] }

set_option maxRecDepth 100000 in
set_option maxHeartbeats 8000000 in
theorem take_any (h : IsFl w p A c f) (g : Nat) (lb : Array Value) (q : Pk → Bool) (eg : Ent g)
    (hq : ∀ W x, Fr (OnFl p A) w W → (∃ A' c' l', IsFl W p A' c' (fset f l')) → x ∈ f.l → Calls Try.prog g (#[x.agg] ++ lb) W fun e w' => e = .returned (.bool (q x)) ∧ Below W.heap.size W w') :
    Calls Try.prog 24 #[.pointer (some ⟨p, 0, none⟩), .func (.func g) #[] lb] w fun e w' =>
      ∃ Ao co, e = .returned (.slice Ao (fnums f q).length co) ∧ w'.ownsRow w.heap.size 27 1 (.slice Ao (fnums f q).length co) (fnums f q).length (nv (fnums f q)) ∧
      ∃ A' c', IsFl w' p A' c' (ftake f q) ∧ Fr (OnFl p A) w w' ∧ Next w A A' := by
  have EG : ∀ (args : Array Value) (w : World), (callFunc g args).run Try.prog w = .ok (.enter g args) w := eg
  have HQ := Lib.hid hq
  have H0 := Lib.hid (Tk.start h q)
  have hfl := h.small
  obtain ⟨w0, hw0⟩ : ∃ w0, w0 = w := ⟨_, rfl⟩
  rw [← hw0] at HQ H0 ⊢
  replace hw0 := Lib.hid hw0
  clear h hq
  go_enter Try.func24, Try.ntmps24
  go_wp2_with fail
  refine wp_scope_jumps2 0 (TkAt w0 p A f q g lb) (fun a' _ => f.l.length - ((intOf (a'.tmps.getD 6 undef)).toNat + lenv (a'.tmps.getD 5 undef))) rfl ?_ ?_
  · rintro a wr ⟨A2, c2, kept, rest, ts, Ao, co, k, HT, u2, u3, u7, u8, u9, u10, u11, u12, u13, u14, u15, u16, u17, u18, u19, u20, u21, u22, u23, u24, u25, u26, u27, u28, u29, u30, u31, u32, u33, u34, u35, u36, u37, u38, u39, u40, u41, u42, u43, u44, u45, u46, u47, u48, rfl⟩
    have hsm := HT.fl.small
    have hkl := HT.kl
    have htl := HT.tl
    obtain ⟨n2, hn2⟩ : ∃ n2, (kept ++ rest).length = n2 := ⟨_, rfl⟩
    have c0 : wr.cell? ⟨p, 0, none⟩ = some (.slice A2 n2 c2) := by rw [← hn2]; exact wrote_cell HT.fl.cell 0 _ rfl
    have hn2' : n2 = k + rest.length := by rw [← hn2, ← hkl]; simp
    have hn2s : n2 ≤ 100000 := by rw [← hn2]; exact hsm
    obtain ⟨N, hN⟩ : ∃ N, f.l.length = N := ⟨_, rfl⟩
    obtain ⟨tn, htn⟩ : ∃ tn, ts.length = tn := ⟨_, rfl⟩
    cases rest with
    | nil =>
      have hb : ((k : Int) == (n2 : Int)) = true := beq_iff_eq.2 (by simp at hn2'; omega)
      obtain ⟨e1, e2⟩ := HT.endL
      replace HT := Lib.hid HT
      replace e1 := Lib.hid e1
      replace e2 := Lib.hid e2
      replace hn2 := Lib.hid hn2
      clear hn2' hkl htl hsm
      rw [htn]
      replace htn := Lib.hid htn
      go_wp2_with fail
      simp only [Exit.jump]
      go_ret
      rw [e1.out, e2.out]
      rw [← htn.out]
      exact ⟨Ao, co, rfl, HT.out.own, A2, c2, HT.out.fl, HT.out.fr, HT.out.nx⟩
    | cons x rest =>
      obtain ⟨g2, rfl, hpg, hgl, l0, l1, l2⟩ := HT.elt
      have hkn : k < n2 := by simp at hn2'; omega
      have hb : ((k : Int) == (n2 : Int)) = false := beq_eq_false_iff_ne.2 (by omega)
      have hcall := HQ.out wr x HT.fr ⟨_, _, _, HT.fl⟩ (HT.sub x (List.mem_cons_self ..))
      unfold Pk.agg at hcall
      have htlN : tn + k + (rest.length + 1) = N := by simp at htl; omega
      obtain ⟨X, hX⟩ : ∃ X : Value, .int .u64 (x.num : Int) = X := ⟨_, rfl⟩
      replace HT := Lib.hid HT
      have hgl' := hgl
      cases hqx : q x
      · rw [hqx] at hcall
        have hk1 : Hid (∀ w', Below wr.heap.size wr w' → Tk w0 p A f q w' (some ⟨g2, 0, none⟩) c2 (kept ++ [x]) rest ts Ao co (k + 1)) := Lib.hid (fun w' b => (HT.out.below b).keep hqx)
        clear hX hn2' hkl htl hsm HT
        replace hn2 := Lib.hid hn2
        go_wp2_with (go_at_fn g; refine hcall.mono ?_; rintro e w1 ⟨rfl, hb1⟩)
        go_step3
        refine ⟨rfl, ⟨_, _, _, _, _, _, _, _, hk1.out _ hb1, _, _, _, _, _, _, _, _, _, _, _, _, _, _, _, _, _, _, _, _, _, _, _, _, _, _, _, _, _, _, _, _, _, _, _, _, _, _, _, _, _, _, _, _, by rw [htn]; rfl⟩, ?_⟩
        simp [intOf, lenv]
        omega
      · rw [hqx] at hcall
        have hfx : Hid (∀ w', Below wr.heap.size wr w' → w'.cell? ⟨p, 0, none⟩ = some (.slice (some ⟨g2, 0, none⟩) n2 c2) ∧ w'.cell? ⟨g2, k * 3, none⟩ = some (.int .u64 x.num) ∧ Tk w0 p A f q w' (some ⟨g2, 0, none⟩) c2 kept (x :: rest) ts Ao co k) := Lib.hid (fun w' b => by
          have T := HT.out.below b
          obtain ⟨g3, e3, _, _, m0, _, _⟩ := T.elt
          injection e3 with e3
          injection e3 with e3
          subst e3
          exact ⟨by rw [← hn2]; exact wrote_cell T.fl.cell 0 _ rfl, m0, T⟩)
        have HD : Hid (∀ w', w'.ownsRow 0 62 3 (.slice (some ⟨g2, 0, none⟩) (kept ++ x :: rest).length c2) (kept ++ x :: rest).length (pkv (kept ++ x :: rest)) →
            Calls Try.prog 31 #[.slice (some ⟨g2, 0, none⟩) n2 c2, .int .i64 k, .int .i64 ((k : Int) + 1)] w' fun e w'' =>
              e = .returned (.slice (some ⟨g2, 0, none⟩) (n2 - 1) c2) ∧ w''.ownsRow 0 62 3 (.slice (some ⟨g2, 0, none⟩) ((kept ++ x :: rest).length - 1) c2) ((kept ++ x :: rest).length - 1) (pkv ((kept ++ x :: rest).take k ++ (kept ++ x :: rest).drop (k + 1))) ∧ Fr (fun j => j = g2) w' w'') := Lib.hid (fun w' ho => by
          have := delete_any (kept ++ x :: rest) g2 c2 k w' ho (by omega) (by omega)
          rw [hn2] at this ⊢
          exact this)
        have hts : Hid (ts.length ≤ 100000) := Lib.hid (by omega)
        have htlN2 : Hid (tn + k + (rest.length + 1) = N) := Lib.hid htlN
        clear hX hn2' hkl htl hsm HT htlN
        replace hn2 := Lib.hid hn2
        replace htn := Lib.hid htn
        replace hN := Lib.hid hN
        go_wp2_with fail
        refine hcall.mono ?_
        rintro e w1 ⟨rfl, hb1⟩
        have hw1 := hb1.size
        obtain ⟨d0, d1, T1⟩ := hfx.out w1 hb1
        have hw1o : Hid (w0.heap.size ≤ w1.heap.size) := Lib.hid T1.fr.size
        replace T1 := Lib.hid T1
        clear hfx hb1 c0 l0 l1 l2 hcall
        go_wp2_with (at_builtin; refine wpList_app _ rfl _ _ 25 rfl w0.heap.size 27 (.int .u64 0) 8 infoU Try.underlying25 rfl (.slice Ao ts.length co) ts.length (nv ts) rfl (T1.out.own.alloc _) _ 1 _ [.int .u64 x.num] rfl rfl (Rd.fresh_mark _ [.int .u64 x.num] _ _) (one_int _ _) (by have := hts.out; unfold maxLen; omega) (by have := hts.out; omega) (by have := hw1o.out; simp; omega) ?_; intro A' c' w2 ho2 hg2 _; obtain ⟨d2, o2, h3⟩ := T1.out.drop hqx hg2 ho2; rw [hn2.out] at d2; replace o2 := Lib.hid o2; replace h3 := Lib.hid h3; clear T1 hg2 ho2)
        refine (HD.out _ o2.out).mono ?_
        rintro e w3 ⟨rfl, ho3, hF3⟩
        obtain ⟨d3, e3, T3⟩ := h3.out w3 ho3 hF3
        rw [hn2.out] at d3 T3
        replace T3 := Lib.hid T3
        clear h3 o2 ho3 hF3 HD
        go_wp2_with fail
        go_step3
        refine ⟨rfl, ⟨_, _, _, _, _, _, _, _, T3.out, _, _, _, _, _, _, _, _, _, _, _, _, _, _, _, _, _, _, _, _, _, _, _, _, _, _, _, _, _, _, _, _, _, _, _, _, _, _, _, _, _, _, _, _, by rw [List.length_append]; rfl⟩, ?_⟩
        have := htlN2.out
        have := htn.out
        have := hN.out
        simp [intOf, lenv]
        omega
  · intro hp
    go_wp2
    go_step3
    simp only [Exit.then]
    apply_assumption
    refine hp _ _ ?_
    exact ⟨_, _, _, _, _, _, _, _, H0.out, _, _, _, _, _, _, _, _, _, _, _, _, _, _, _, _, _, _, _, _, _, _, _, _, _, _, _, _, _, _, _, _, _, _, _, _, _, _, _, _, _, _, _, _, rfl⟩
end
end Go.Proofs.Ytifigmhecgbfoaa
