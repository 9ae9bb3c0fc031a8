/- TableScript: the program's table beside the document's: what each call makes of them. -/
import Derived.Test.YtgcnhppafclnmaaTrC
namespace Go.Proofs.Ytgcnhppafclnmaa
open Go.RowKit

section
variable (w : World)
theorem tget_nil : Calls Try.prog 9 #[.pointer none, .int .u64 0] w fun e w' => e = .returned (.tuple #[.agg #[.string ⟨#[]⟩, .string ⟨#[]⟩], .bool false]) ∧ Below w.heap.size w w' := by
  go_enter Try.func9, Try.ntmps9
  go_wp2_with fail
  go_big_quiet (fail)
  go_wp2_with fail
  refine bodyPost_ret (v := (Value.tuple #[.agg #[.string ⟨#[]⟩, .string ⟨#[]⟩], .bool false])) (by rw [results_cell_tmp rfl]; go_simp) rfl ?_
  exact ⟨rfl, (((((Fr.refl NoS w).alloc _).drewN _).setCell (p := ⟨w.heap.size, 0, none⟩) (fun h => absurd h (Nat.lt_irrefl _)) _).setCell (p := ⟨w.heap.size, 1, none⟩) (fun h => absurd h (Nat.lt_irrefl _)) _).below⟩
theorem tins_nil (a b : ByteArray) : Calls Try.prog 10 #[.pointer none, .agg #[.string a, .string b]] w fun e w' => e = .returned (.bool false) ∧ Below w.heap.size w w' := by
  go_enter Try.func10, Try.ntmps10
  go_wp2_with fail
  go_big_quiet (fail)
  go_wp2_with fail
  go_ret
  exact ⟨rfl, ((Below.refl _ w).alloc (Nat.le_refl _) _).trans ((Still.drewN _ _).below.mono (by simp))⟩
theorem tcount_nil : Calls Try.prog 11 #[.pointer none] w fun e w' => e = .returned (.int .u64 0) ∧ w = w' := by
  go_enter Try.func11, Try.ntmps11
  go_wp2_with fail
  go_ret
  exact ⟨rfl, rfl⟩
end

structure SkSt (w wr : World) (P : Nat → Prop) (pa pb : Nat) (t1 t2 : Tb) : Prop where
  two : Two IsTbS IsRtS P wr pa t1 pb t2
  below : Below w.heap.size w wr
  guard : ∀ q, q < w.heap.size → P q
section
variable {w wr w' : World} {P : Nat → Prop} {pa pb : Nat} {t1 t2 t1' t2' : Tb}
theorem SkSt.to (h : SkSt w wr P pa pb t1 t2) (T : Two IsTbS IsRtS P w' pa t1' pb t2') (f : Fr (NotP P) wr w') : SkSt w w' P pa pb t1' t2' :=
  ⟨T, fp_below h.below h.below.size h.guard f, h.guard⟩
theorem SkSt.bel (h : SkSt w wr P pa pb t1 t2) (b : Below wr.heap.size wr w') : SkSt w w' P pa pb t1 t2 := h.to (h.two.below tbOk rtOk b) (Fr.of_below b _)
/-- A write into a block that is guarded, behind a step that made it. -/
theorem SkSt.widen (h : SkSt w wr P pa pb t1 t2) (b : Below wr.heap.size wr w') : SkSt w w' (fun q => P q ∨ (wr.heap.size ≤ q ∧ q < w'.heap.size)) pa pb t1 t2 :=
  ⟨h.two.widen tbOk rtOk (fun k hk => hk.imp id (fun h => h.1)) b (fun k hk => by
    rcases hk with h1 | h1
    · have := h.two.fst.2 k h1; have := b.size; omega
    · exact h1.2), h.below.trans (b.mono h.below.size), fun q hq => .inl (h.guard q hq)⟩
theorem SkSt.over (h : SkSt w wr P pa pb t1 t2) {g : Nat} (hg : P g) (hgw : w.heap.size ≤ g) (f : Fr (fun k => k = g) wr w') : SkSt w w' P pa pb t1 t2 :=
  ⟨h.two.fr tbOk rtOk f (fun k _ e => by rw [e]; exact hg), Fr.under h.below h.below.size f (fun k e _ => by rw [e]; exact hgw), h.guard⟩
theorem ski_l (h : SkSt w wr P pa pb t1 t2) (t' : Tb) (ft : Bool) (a b : ByteArray) (s : Nat) (hs : a.size + b.size + 32 = s) (hb : s ≤ 1000000) (hF : t1.F.length < 1000000) (hp : decide (s ≤ t1.most) = ft) (ht : t1.ins ⟨a, b⟩ = t') :
    Calls Try.prog 10 #[.pointer (some ⟨pa, 0, none⟩), .agg #[.string a, .string b]] wr fun e w' => e = .returned (.bool ft) ∧ SkSt w w' P pa pb t' t2 := by
  obtain ⟨R, hA, hPR, back⟩ := h.two.left rtOk
  rcases Nat.lt_or_ge t1.most s with hm | hm
  · rw [decide_eq_false (by omega)] at hp
    have e : t1.ins ⟨a, b⟩ = t1 := t1.ins_no _ (by unfold Fd.size; simp only; omega)
    rw [e] at ht
    subst hp ht
    refine (insno_at hA a b s hs hb hm).mono ?_
    rintro e w' ⟨rfl, H, bb⟩
    exact ⟨rfl, h.to (back w' _ H (Fr.of_below bb _)) (Fr.of_below bb _)⟩
  · rw [decide_eq_true hm] at hp
    subst hp
    refine (ins_at t' hA a b s hs hm hF ht).mono ?_
    rintro e w' ⟨rfl, H, f⟩
    exact ⟨rfl, h.to (back w' _ H f) (f.mono (fun k hk _ hq => hk (hPR k hq)))⟩
theorem ski_r (h : SkSt w wr P pa pb t1 t2) (t' : Tb) (ft : Bool) (a b : ByteArray) (s : Nat) (hs : a.size + b.size + 32 = s) (hb : s ≤ 1000000) (hF : t2.F.length < 1000000) (hp : decide (s ≤ t2.most) = ft) (ht : t2.ins ⟨a, b⟩ = t') :
    Calls Try.prog 12 #[.pointer (some ⟨pb, 0, none⟩), .agg #[.string a, .string b]] wr fun e w' => e = .returned (.bool ft) ∧ SkSt w w' P pa pb t1 t' := by
  obtain ⟨R, hA, hPR, back⟩ := h.two.right tbOk
  obtain ⟨⟨S, ⟨A, c, hI, ho, rfl⟩, hP⟩, hlt⟩ := hA
  have hsz : Fd.size ⟨a, b⟩ = s := hs
  rcases Nat.lt_or_ge t2.most s with hm | hm
  · rw [decide_eq_false (by omega)] at hp
    have e : t2.ins ⟨a, b⟩ = t2 := t2.ins_no _ (by rw [hsz]; exact hm)
    rw [e] at ht
    subst hp ht
    refine (rins_no hI a b s hs hb hm).mono ?_
    rintro e w' ⟨rfl, bb⟩
    exact ⟨rfl, h.bel bb⟩
  · rw [decide_eq_true hm] at hp
    subst hp
    refine (rins_yes hI a b s hs hm hF _ rfl).mono ?_
    rintro e w' ⟨rfl, A', c', I', F', N'⟩
    have e2 : t' = ⟨t2.most, t2.F ++ [⟨a, b⟩], t2.gone + tcut (t2.most - s) (t2.F.drop t2.gone)⟩ := by
      rw [← ht, t2.ins_yes _ (by rw [hsz]; exact hm), hsz]; rfl
    have hok : t'.Ok := by rw [← ht]; exact t2.ins_ok _ ho
    obtain ⟨hs1, hs2⟩ := At.step (I := IsRtS) (s' := t') hP hlt ⟨A', c', by rw [e2]; exact I', hok, rfl⟩ F' (fun k hk => by
      rcases hk with rfl | ⟨x, hx, rfl⟩
      · exact .inl (.inl rfl)
      · rcases N' x hx with ⟨y, hy1, hy2⟩ | h2
        · exact .inl (.inr ⟨y, hy1, hy2⟩)
        · exact .inr h2)
    exact ⟨rfl, h.to (back w' _ hs1 hs2) (hs2.mono (fun k hk _ hq => hk (hPR k hq)))⟩
theorem skc_l (h : SkSt w wr P pa pb t1 t2) (k : Nat) (hk : t1.F.length = k) :
    Calls Try.prog 11 #[.pointer (some ⟨pa, 0, none⟩)] wr fun e w' => e = .returned (.int .u64 k) ∧ SkSt w w' P pa pb t1 t2 ∧ Below wr.heap.size wr w' := by
  refine (count_at k h.two.fst hk).mono ?_
  rintro e w' ⟨rfl, -, bb⟩
  exact ⟨rfl, h.bel bb, bb⟩
theorem sku_l (h : SkSt w wr P pa pb t1 t2) (s : Nat) (hu : t1.used = s) :
    Calls Try.prog 13 #[.pointer (some ⟨pa, 0, none⟩)] wr fun e w' => e = .returned (.int .i64 s) ∧ SkSt w w' P pa pb t1 t2 ∧ Below wr.heap.size wr w' := by
  refine (used_at s h.two.fst hu).mono ?_
  rintro e w' ⟨rfl, rfl⟩
  exact ⟨rfl, h, Below.refl _ _⟩
/-- The document's table as it lies. -/
theorem SkSt.rt (h : SkSt w wr P pa pb t1 t2) : ∃ A c, Rt wr pb A c t2.most t2.F t2.gone := by
  obtain ⟨⟨S, ⟨A, c, hI, ho, rfl⟩, hP⟩, hlt⟩ := h.two.snd
  exact ⟨A, c, hI⟩
theorem sku_r (h : SkSt w wr P pa pb t1 t2) (s : Nat) (hu : t2.used = s) :
    Calls Try.prog 14 #[.pointer (some ⟨pb, 0, none⟩)] wr fun e w' => e = .returned (.int .i64 s) ∧ SkSt w w' P pa pb t1 t2 ∧ Below wr.heap.size wr w' := by
  obtain ⟨A, c, R⟩ := h.rt
  refine (rused_any R s hu).mono ?_
  rintro e w' ⟨rfl, bb⟩
  exact ⟨rfl, h.bel bb, bb⟩
theorem skf_l (h : SkSt w wr P pa pb t1 t2) (a b : ByteArray) (n : Nat) (b1 b2 : Bool) (hf : t1.find ⟨a, b⟩ = (n, b1, b2)) :
    Calls Try.prog 17 #[.pointer (some ⟨pa, 0, none⟩), .agg #[.string a, .string b]] wr fun e w' => e = .returned (.tuple #[.int .u64 n, .bool b1, .bool b2]) ∧ SkSt w w' P pa pb t1 t2 ∧ Below wr.heap.size wr w' := by
  refine (find_at n b1 b2 h.two.fst a b hf).mono ?_
  rintro e w' ⟨rfl, -, bb⟩
  exact ⟨rfl, h.bel bb, bb⟩
theorem skf_r (h : SkSt w wr P pa pb t1 t2) (a b : ByteArray) (n : Nat) (b1 b2 : Bool) (hf : t2.find ⟨a, b⟩ = (n, b1, b2)) :
    Calls Try.prog 18 #[.pointer (some ⟨pb, 0, none⟩), .agg #[.string a, .string b]] wr fun e w' => e = .returned (.tuple #[.int .u64 n, .bool b1, .bool b2]) ∧ SkSt w w' P pa pb t1 t2 ∧ Below wr.heap.size wr w' := by
  obtain ⟨A, c, R⟩ := h.rt
  refine (rfind_any R t2 rfl rfl a b n b1 b2 hf).mono ?_
  rintro e w' ⟨rfl, bb⟩
  exact ⟨rfl, h.bel bb, bb⟩
theorem skg_l (h : SkSt w wr P pa pb t1 t2) (n : Nat) (hn : n < 18446744073709551616) (x y : ByteArray) (ok : Bool) (hf : (t1.get n).getD fd0 = ⟨x, y⟩) (hb : (t1.get n).isSome = ok) :
    Calls Try.prog 9 #[.pointer (some ⟨pa, 0, none⟩), .int .u64 n] wr fun e w' => e = .returned (.tuple #[.agg #[.string x, .string y], .bool ok]) ∧ SkSt w w' P pa pb t1 t2 ∧ Below wr.heap.size wr w' := by
  refine (get_at x y ok h.two.fst n hn hf hb).mono ?_
  rintro e w' ⟨rfl, -, bb⟩
  exact ⟨rfl, h.bel bb, bb⟩
theorem skg_r (h : SkSt w wr P pa pb t1 t2) (n : Nat) (hn : n < 18446744073709551616) (x y : ByteArray) (ok : Bool) (hf : (t2.get n).getD fd0 = ⟨x, y⟩) (hb : (t2.get n).isSome = ok) :
    Calls Try.prog 19 #[.pointer (some ⟨pb, 0, none⟩), .int .u64 n] wr fun e w' => e = .returned (.tuple #[.agg #[.string x, .string y], .bool ok]) ∧ SkSt w w' P pa pb t1 t2 ∧ Below wr.heap.size wr w' := by
  obtain ⟨A, c, R⟩ := h.rt
  refine (rtget_any R n hn t2 rfl rfl x y ok hf hb).mono ?_
  rintro e w' ⟨rfl, bb⟩
  exact ⟨rfl, h.bel bb, bb⟩
theorem skl_l (h : SkSt w wr P pa pb t1 t2) (l : List Fd) (q : Nat) (hl : t1.l = l) (hq : l.length = q) :
    Calls Try.prog 20 #[.pointer (some ⟨pa, 0, none⟩)] wr fun e w' => ∃ A1 c1, e = .returned (.slice A1 q c1) ∧ w'.ownsRow wr.heap.size 28 2 (.slice A1 q c1) q (fdv l) ∧ SkSt w w' (fun x => P x ∨ (wr.heap.size ≤ x ∧ x < w'.heap.size)) pa pb t1 t2 := by
  refine (tlist_at l q h.two.fst hl hq).mono ?_
  rintro e w' ⟨A1, c1, rfl, o1, -, bb⟩
  exact ⟨A1, c1, rfl, o1, h.widen bb⟩
theorem sks_l (h : SkSt w wr P pa pb t1 t2) (a b : ByteArray) (s : Nat) (hs : a.size + b.size + 32 = s) (hb : s ≤ 1000000) :
    Calls Try.prog 15 #[.agg #[.string a, .string b]] wr fun e w' => e = .returned (.int .i64 s) ∧ SkSt w w' P pa pb t1 t2 ∧ Below wr.heap.size wr w' := by
  refine (size_at a b s wr hs hb).mono ?_
  rintro e w' ⟨rfl, bb⟩
  exact ⟨rfl, h.bel bb, bb⟩
theorem sks_r (h : SkSt w wr P pa pb t1 t2) (a b : ByteArray) (s : Nat) (hs : a.size + b.size + 32 = s) (hb : s ≤ 1000000) :
    Calls Try.prog 16 #[.agg #[.string a, .string b]] wr fun e w' => e = .returned (.int .i64 s) ∧ SkSt w w' P pa pb t1 t2 ∧ Below wr.heap.size wr w' := by
  refine (rsize_any a b s wr hs hb).mono ?_
  rintro e w' ⟨rfl, bb⟩
  exact ⟨rfl, h.bel bb, bb⟩
/-- Two new ones. -/
theorem SkSt.start {w1 w2 : World} {M : Nat} (hM : M ≤ 512) (h1 : At IsTbS (fun k => k < w.heap.size) w1 pa (tnew M)) (b1 : Below w.heap.size w w1) (b2 : Below w1.heap.size w1 w2) (hpb : w1.heap.size ≤ pb)
    (h2 : w2.heap[pb]? = some (.cells #[.int .i64 M, .slice none 0 0, .int .i64 0] 36 (0, 0))) : SkSt w w2 (fun k => k < w.heap.size) pa pb (tnew M) (tnew M) := by
  refine ⟨Two.new (T := OnB pb none) tbOk h1 ⟨none, 0, ⟨h2, World.ownsRow_nil _ _ _ _, Nat.le_refl _, by simp [tnew, tsum], by simp [tnew], by show M ≤ 1000000; omega⟩, tnew_ok M, rfl⟩ b2 (fun k hk => ?_), b1.trans (b2.mono b1.size), fun q h => h⟩
  rcases hk with rfl | ⟨x, hx, _⟩
  · exact hpb
  · cases hx
end
end Go.Proofs.Ytgcnhppafclnmaa
