/- cids: slices.Insert of one name. (Printed by gen_insert.py.) -/
import Derived.Test.YtgmanhbfdjlhbaaCdG
import Derived.Lib.Overlaps
import Derived.Deep.RegionLaw
namespace Go.Proofs.Ytgmanhbfdjlhbaa
open Go.RowKit

theorem ins_B {α : Type} (P Z C D : List α) (a b d : Nat) (ha : P.length = a) (hb : a + C.length = b) (hd : b + D.length = d) (hZ : Z.length = C.length + D.length) :
    (((P ++ Z).take a ++ C ++ (P ++ Z).drop (a + C.length)).take b ++ D ++ ((P ++ Z).take a ++ C ++ (P ++ Z).drop (a + C.length)).drop d) = P ++ C ++ D := by
  have e1 : (P ++ Z).take a = P := List.take_left' ha
  have e2 : (P ++ Z).drop (a + C.length) = Z.drop C.length := by rw [List.drop_append, List.drop_eq_nil_of_le (by omega), List.nil_append]; congr 1; omega
  have e3 : (P ++ C ++ Z.drop C.length).take b = P ++ C := List.take_left' (by rw [List.length_append]; omega)
  have e4 : (P ++ C ++ Z.drop C.length).drop d = [] := List.drop_eq_nil_of_le (by rw [List.length_append, List.length_append, List.length_drop]; omega)
  rw [e1, e2, e3, e4, List.append_nil]
theorem ins_C {α : Type} (P D Z C : List α) (a b d : Nat) (ha : P.length = a) (hb : a + C.length = b) (hd : b + D.length = d) (hZ : Z.length = C.length) :
    (((P ++ D ++ Z).take b ++ D ++ (P ++ D ++ Z).drop d).take a ++ C ++ ((P ++ D ++ Z).take b ++ D ++ (P ++ D ++ Z).drop d).drop b) = P ++ C ++ D := by
  have e0 : (P ++ D ++ Z).drop d = [] := List.drop_eq_nil_of_le (by rw [List.length_append, List.length_append]; omega)
  have e1 : ((P ++ D ++ Z).take b).length = b := by rw [List.length_take, List.length_append, List.length_append]; omega
  have e2 : (P ++ D ++ Z).take a = P := by rw [List.append_assoc]; exact List.take_left' ha
  have e3 : ((P ++ D ++ Z).take b ++ D).take a = P := by rw [List.take_append_of_le_length (by omega), List.take_take, Nat.min_eq_left (by omega), e2]
  have e4 : ((P ++ D ++ Z).take b ++ D).drop b = D := List.drop_left' e1
  rw [e0, List.append_nil, e3, e4]

theorem szI : (Try.prog.info? 57).map (·.size) = some 12 := by
  have := infoN
  rcases h : Try.prog.info? 57 with _ | i
  · rw [h] at this; cases this
  · rw [h] at this; simp at this; simp [this.2.1]

set_option maxRecDepth 100000 in
set_option maxHeartbeats 8000000 in
theorem insert_any (l : List Nx) (A : Option Addr) (c k vb : Nat) (x : Nx) (w : World) (hown : w.ownsRow 0 57 12 (.slice A l.length c) l.length (rv Nx.cells l)) (hl : l.length ≤ 1000) (hk : k ≤ l.length)
    (hv : w.heap[vb]? = some (.cells (Nx.cells x).toArray 57 (0, 0))) (hne : ∀ a, A = some a → a.block ≠ vb) :
    Calls Try.prog 31 #[.slice A l.length c, .int .i64 k, .slice (some ⟨vb, 0, none⟩) 1 1] w fun e w' => ∃ A' c', e = .returned (.slice A' (l.length + 1) c') ∧
      w'.ownsRow 0 57 12 (.slice A' (l.length + 1) c') (l.length + 1) (rv Nx.cells (l.take k ++ x :: l.drop k)) ∧ Fr (fun j => ∃ a, A = some a ∧ a.block = j) w w' ∧ Next w A A' := by
  obtain ⟨n, hn⟩ : ∃ n, l.length = n := ⟨_, rfl⟩
  have hlen : (rv Nx.cells l).length = n * 12 := by rw [rv_length Nx.cells nxc, hn]
  have hxl : (Nx.cells x).length = 1 * 12 := by rw [nxc]
  have rv0 : Rd w (some ⟨vb, 0, none⟩) (Nx.cells x) := fun _ => ⟨vb, 0, rfl, fun j u hu => by rw [Nat.zero_add, cell_of_row w vb j _ _ (0, 0) hv]; simpa using hu⟩
  rw [hn] at hown hl hk ⊢
  have hshape : n ≤ c ∧ c ≤ maxLen := by
    rcases ownS_cases hown with ⟨_, h1, h2, _⟩ | ⟨g, _, _, _, h1, h2⟩
    · subst h1 h2; simp [maxLen]
    · exact ⟨h1, h2⟩
  obtain ⟨hnc, hcm⟩ := hshape
  simp only [maxLen] at hcm
  by_cases hkn : k = n
  · subst hkn
    have HS := cutS_l (P := Try.prog) Try.underlying58 infoN A k c k 0 (k : Int) rfl (by omega) hnc
    have hb : ((k : Int) == (k : Int)) = true := by simp
    have hlist : l.take k ++ x :: l.drop k = l ++ [x] := by rw [List.take_of_length_le (by omega), List.drop_eq_nil_of_le (by omega)]
    have hrow : rv Nx.cells (l.take k ++ x :: l.drop k) = rv Nx.cells l ++ Nx.cells x := by rw [hlist, rv_append, rv_single]
    rw [hrow]
    replace hn := Lib.hid hn
    have ho := Lib.hid hown
    clear hlist hrow hlen hv
    go_enter Try.func31, Try.ntmps31
    go_wp2_with (at_builtin; refine wpList_appS rfl _ _ 58 rfl 0 57 _ 12 56 infoN Try.underlying58 rfl (by decide) (.slice A k c) k (rv Nx.cells l) rfl ho.out ⟨vb, 0, none⟩ 1 1 (Nx.cells x) rfl hxl rv0.cells (nxo x) (by simp only [maxLen]; omega) (by omega) (Nat.zero_le _) ?_; intro A2 c2 w2 ho2 hg2 hat2; replace ho2 := Lib.hid ho2; replace hg2 := Lib.hid hg2; replace hat2 := Lib.hid hat2)
    all_goals
      go_ret
      refine ⟨A2, c2, rfl, ho2.out, (Fr.refl _ w).grown hg2.out (fun j hj _ => ?_), fun a ha => ?_⟩
      · cases A with
        | none => cases hj
        | some a => injection hj with hj; exact ⟨a, rfl, hj⟩
      · have hk2 : (Value.slice A2 (k + 1) c2).ownBlock = some a.block := by rw [ha]; rfl
        rcases hat2.out with e | e
        · rw [e] at hk2
          cases A with
          | none => cases hk2
          | some b => injection hk2 with hk2; exact .inl ⟨b, rfl, hk2⟩
        · rw [e] at hk2; injection hk2 with hk2; exact .inr (by omega)
  · have hkn2 : k < n := by omega
    obtain ⟨g, rfl, hg0, hgl⟩ : ∃ g, A = some ⟨g, 0, none⟩ ∧ 0 ≤ g ∧ g < w.heap.size := by
      rcases ownS_cases hown with ⟨_, h1, _⟩ | ⟨g, h1, h2, h3, _⟩
      · omega
      · exact ⟨g, h1, h2, h3⟩
    have hgv : g ≠ vb := hne _ rfl
    have hb : ((k : Int) == (n : Int)) = false := by rw [beq_eq_false_iff_ne]; omega
    have hvl : vb < w.heap.size := heap_lt hv
    have HS1 := cutS_l (P := Try.prog) Try.underlying58 infoN (some ⟨g, 0, none⟩) n c k (n - k) (k : Int) rfl (by omega) hnc
    rw [if_neg (by omega), show (some (⟨g, 0, none⟩ : Addr)).map (·.add (k * 12)) = some ⟨g, k * 12, none⟩ from by simp [WideShapes.add_plain]] at HS1
    have hD : (rv Nx.cells (l.drop k)).length = (n - k) * 12 := by rw [rv_length Nx.cells nxc, List.length_drop, hn]
    have hP : (rv Nx.cells (l.take k)).length = k * 12 := by rw [rv_length Nx.cells nxc, List.length_take, hn, Nat.min_eq_left (by omega)]
    have hsplit : rv Nx.cells l = rv Nx.cells (l.take k) ++ rv Nx.cells (l.drop k) := by rw [← rv_append, List.take_append_drop]
    have hgoal : rv Nx.cells (l.take k ++ x :: l.drop k) = rv Nx.cells (l.take k) ++ Nx.cells x ++ rv Nx.cells (l.drop k) := by rw [rv_append, rv, List.append_assoc]
    rw [hgoal]
    have hsrcD : Hid (∀ W, Fr (fun j => j ≠ g) w W → ∀ j u, (rv Nx.cells (l.drop k))[j]? = some u → W.cell? ((⟨g, k * 12, none⟩ : Addr).add j) = some u) := Lib.hid (fun W F j u hu => by
      rw [WideShapes.add_plain]
      rw [rv_drop Nx.cells nxc, List.getElem?_drop] at hu
      have := hown.cells (g := g) rfl _ _ hu
      rw [WideShapes.add_plain, Nat.zero_add] at this
      rw [F.cell hgl (fun h => h rfl)]
      exact this)
    by_cases hroom : n + 1 ≤ c
    · -- in place
      have hb2 : decide ((c : Int) < (n : Int) + 1) = false := decide_eq_false (by omega)
      obtain ⟨zs, hzl, o1⟩ := own_more hown (m := 1) (by omega)
      have HS2 := cutS_h (P := Try.prog) Try.underlying58 infoN (some ⟨g, 0, none⟩) n c (n + 1) ((n : Int) + 1) (by omega) (by omega)
      have HS3 := cutS_l (P := Try.prog) Try.underlying58 infoN (some ⟨g, 0, none⟩) (n + 1) c (k + 1) (n - k) ((k : Int) + 1) (by omega) (by omega) (by omega)
      rw [if_neg (by omega), show (some (⟨g, 0, none⟩ : Addr)).map (·.add ((k + 1) * 12)) = some ⟨g, (k + 1) * 12, none⟩ from by simp [WideShapes.add_plain]] at HS3
      have HS4 := cutS_l (P := Try.prog) Try.underlying58 infoN (some ⟨g, 0, none⟩) (n + 1) c k (n + 1 - k) (k : Int) rfl (by omega) (by omega)
      rw [if_neg (by omega), show (some (⟨g, 0, none⟩ : Addr)).map (·.add (k * 12)) = some ⟨g, k * 12, none⟩ from by simp [WideShapes.add_plain]] at HS4
      have hov : ∀ lb cb, (callFunc 37 #[.slice (some ⟨vb, 0, none⟩) 1 1, .slice (some ⟨g, (k + 1) * 12, none⟩) lb cb]).run Try.prog w = .ok (.value (.bool false)) w := fun lb cb => by
        have hshv : w.shape? vb = some (57, 12) := by unfold World.shape?; rw [hv]; simp [nxc]
        obtain ⟨cur, hcur, hpos⟩ : ∃ cur : Array Value, w.heap[g]? = some (.cells cur 57 (0, 0)) ∧ cur.size ≠ 0 := by
          rcases hown.2 with ⟨h', _⟩ | ⟨g', cap', cur, h', _, hg', hnc', _, hcs, _⟩
          · cases h'
          · injection h' with h1 h2 h3
            injection h1 with h1
            injection h1 with h1
            subst h1 h3
            exact ⟨cur, hg', by rw [hcs]; omega⟩
        have hshg : w.shape? g = some (57, cur.size) := by unfold World.shape?; rw [hcur]
        rw [run_callFunc_extern Try.func37 (by kernel_rfl) (by kernel_rfl) (by kernel_rfl) (e := Extern.SlicesOverlaps.overlaps #[58, 58] #[4]) (by kernel_rfl),
          Lib.run_overlaps_apart w 58 4 57 Try.underlying58 12 (Try.sizeOf57) ⟨vb, 0, none⟩ ⟨g, (k + 1) * 12, none⟩ 1 1 lb cb (fun e => hgv e.symm) 57 57 12 cur.size hshv hshg hpos (frozen_of_row w vb 0 _ _ hv) (frozen_of_row w vb 12 _ _ hv)]
        rfl
      have hX := ins_C (rv Nx.cells (l.take k)) (rv Nx.cells (l.drop k)) zs (Nx.cells x) (k * 12) ((k + 1) * 12) ((k + 1) * 12 + (rv Nx.cells (l.drop k)).length) hP (by rw [hxl]; omega) rfl (by omega)
      rw [hsplit] at o1
      have o1' := Lib.hid o1
      have hsrc1 := hsrcD.out w (Fr.refl _ w)
      have hfit1 : (k + 1) * 12 + (rv Nx.cells (l.drop k)).length ≤ (rv Nx.cells (l.take k) ++ rv Nx.cells (l.drop k) ++ zs).length := by rw [List.length_append, List.length_append, hP, hD, hzl]; omega
      have hmin : n - k = Nat.min (n + 1 - k) (n - k) := by simp only [Nat.min_def]; split <;> omega
      have hmin1 : 1 = Nat.min 1 (n + 1 - k) := by simp only [Nat.min_def]; split <;> omega
      have hD1 := rv_one Nx.cells nxo (l.drop k)
      have hrest : Hid (∀ w2, w2.ownsRow 0 57 12 (.slice (some ⟨g, 0, none⟩) (n + 1) c) (n + 1) ((rv Nx.cells (l.take k) ++ rv Nx.cells (l.drop k) ++ zs).take ((k + 1) * 12) ++ rv Nx.cells (l.drop k) ++ (rv Nx.cells (l.take k) ++ rv Nx.cells (l.drop k) ++ zs).drop ((k + 1) * 12 + (rv Nx.cells (l.drop k)).length)) → Fr (fun j => j = g) w w2 →
          (∀ j v, (Nx.cells x)[j]? = some v → w2.cell? ((⟨vb, 0, none⟩ : Addr).add j) = some v) ∧ k * 12 + (Nx.cells x).length ≤ ((rv Nx.cells (l.take k) ++ rv Nx.cells (l.drop k) ++ zs).take ((k + 1) * 12) ++ rv Nx.cells (l.drop k) ++ (rv Nx.cells (l.take k) ++ rv Nx.cells (l.drop k) ++ zs).drop ((k + 1) * 12 + (rv Nx.cells (l.drop k)).length)).length) := Lib.hid (fun w2 ho2 F2 => by
        refine ⟨(rv0.fr F2 (fun _ a ha => by injection ha with ha; subst ha; exact fun e => hgv e.symm)).cells, ?_⟩
        rw [ho2.1, hxl]; omega)
      have hX' := Lib.hid hX
      have e3 : k * 12 + (Nx.cells x).length = (k + 1) * 12 := by rw [hxl]; omega
      have e3' := Lib.hid e3
      have hw1 : IntKind.i64.wrap ((k : Int) + 1) = (k : Int) + 1 := by rw [IntKind.wrap_i64]; omega
      have hkI : (k : Int) ≤ 1000 := by omega
      have hnI : (n : Int) ≤ 1000 := by omega
      have hFr1 := Fr.refl (fun j => j = g) w
      obtain ⟨PC, hPC⟩ : ∃ PC, rv Nx.cells (l.take k) = PC := ⟨_, rfl⟩
      obtain ⟨DC, hDC⟩ : ∃ DC, rv Nx.cells (l.drop k) = DC := ⟨_, rfl⟩
      obtain ⟨XC, hXC⟩ : ∃ XC, Nx.cells x = XC := ⟨_, rfl⟩
      have hx1 := nxo x
      rw [hPC, hDC] at o1' hX' hrest hfit1
      rw [hDC] at hsrc1 hD hD1
      rw [hXC] at hX' hrest hxl e3' hx1
      rw [hPC, hDC, hXC]
      replace hD1 := Lib.hid hD1
      replace hx1 := Lib.hid hx1
      replace hsrc1 := Lib.hid hsrc1
      replace hfit1 := Lib.hid hfit1
      replace hD := Lib.hid hD
      replace hxl := Lib.hid hxl
      replace hmin := Lib.hid hmin
      replace hmin1 := Lib.hid hmin1
      replace hn := Lib.hid hn
      clear hX o1 hown hv rv0 hP hsplit hgoal hlen e3 hPC hDC hXC hsrcD hzl hne hgv hFr1
      go_enter Try.func31, Try.ntmps31
      go_wp2_with (simp only [hov])
      go_region_law (refine step_copyS rfl (.tmp 73) (.tmp 76) 58 58 rfl (base := 0) (e := 57) (size := 12) (g := g) (n := n + 1) (cap := c) (xs := PC ++ DC ++ zs) o1'.out ((k + 1) * 12) (n - k) (c - (k + 1)) ⟨g, k * 12, none⟩ (n + 1 - k) (c - k) (n - k) DC (by simp [Act.eval, Act.put]) (by simp [Act.eval, Act.put]) Try.underlying58 szI hmin.out hD.out hsrc1.out hfit1.out hD1.out ?_; intro w2 ho2 F2)
      obtain ⟨r1, r2⟩ := hrest.out w2 ho2 (((Fr.refl (fun j => j = g) w).drew).trans F2)
      replace ho2 := Lib.hid ho2
      replace F2 := Lib.hid F2
      replace r1 := Lib.hid r1
      replace r2 := Lib.hid r2
      clear hrest
      go_wp2_with (refine wpList_copyS rfl (.tmp 80) (.tmp 81) 58 58 rfl (base := 0) (e := 57) (size := 12) (g := g) (n := n + 1) (cap := c) ho2.out (k * 12) (n + 1 - k) (c - k) ⟨vb, 0, none⟩ 1 1 1 XC (by rfl) (by rfl) Try.underlying58 szI hmin1.out hxl.out r1.out r2.out hx1.out ?_; intro w3 ho3 F3; rw [e3'.out, hX'.out] at ho3; replace ho3 := Lib.hid ho3; replace F3 := Lib.hid F3)
      go_ret
      exact ⟨_, _, rfl, ho3.out, (((Fr.refl (fun j => j = g) w).drew).trans (F2.out.trans F3.out)).mono (fun j hj _ => ⟨_, rfl, hj.symm⟩), Next.refl w _⟩
    · -- a new row
      have hce : c = n := by omega
      subst hce
      have hb2 : decide ((c : Int) < (c : Int) + 1) = true := decide_eq_true (by omega)
      have HS2 := cutS_h (P := Try.prog) Try.underlying58 infoN (some ⟨g, 0, none⟩) c c k (k : Int) rfl hk
      have oc := own_cut hown hk
      rw [hsplit, List.take_left' hP] at oc
      obtain ⟨m1, hm1⟩ : ∃ m1, c + 1 - k = m1 := ⟨_, rfl⟩
      have hm2 : (c : Int) + 1 - (k : Int) = (m1 : Int) := by omega
      have hm3 : k + m1 = c + 1 := by omega
      have hX := fun (zs : List Value) (hz : zs.length = m1 * 12) => ins_B (rv Nx.cells (l.take k)) zs (Nx.cells x) (rv Nx.cells (l.drop k)) (k * 12) ((k + 1) * 12) ((k + 1) * 12 + (rv Nx.cells (l.drop k)).length) hP (by rw [hxl]; omega) rfl (by rw [hz, hxl, hD, ← hm1]; omega)
      have e3 : k * 12 + (Nx.cells x).length = (k + 1) * 12 := by rw [hxl]; omega
      have hmin : c - k = Nat.min (c - k) (c - k) := by simp
      have hmin1 : 1 = Nat.min 1 m1 := by simp only [Nat.min_def]; split <;> omega
      have hD1 := rv_one Nx.cells nxo (l.drop k)
      have hx1 := nxo x
      have hw1 : IntKind.i64.wrap ((k : Int) + 1) = (k : Int) + 1 := by rw [IntKind.wrap_i64]; omega
      have hnI : (c : Int) ≤ 1000 := by omega
      have hgw : Hid (∀ w1, Below w.heap.size w w1 → (∀ j v, (Nx.cells x)[j]? = some v → w1.cell? ((⟨vb, 0, none⟩ : Addr).add j) = some v) ∧ ∀ w2, Fr (fun j => j = w.heap.size) w1 w2 → ∀ j u, (rv Nx.cells (l.drop k))[j]? = some u → w2.cell? ((⟨g, k * 12, none⟩ : Addr).add j) = some u) := Lib.hid (fun w1 hb1 => by
        refine ⟨(rv0.below hb1).cells, fun w2 F2 => hsrcD.out w2 ?_⟩
        refine ⟨F2.os.trans hb1.os, F2.tape.trans hb1.tape, F2.output.trans hb1.output, Nat.le_trans hb1.size F2.size, fun j hj hjg => ?_⟩
        rw [F2.block j (Nat.lt_of_lt_of_le hj hb1.size) (by omega)]
        exact hb1.block j hj)
      obtain ⟨PC, hPC⟩ : ∃ PC, rv Nx.cells (l.take k) = PC := ⟨_, rfl⟩
      obtain ⟨DC, hDC⟩ : ∃ DC, rv Nx.cells (l.drop k) = DC := ⟨_, rfl⟩
      obtain ⟨XC, hXC⟩ : ∃ XC, Nx.cells x = XC := ⟨_, rfl⟩
      rw [hPC] at oc hP
      rw [hPC, hDC, hXC] at hX
      rw [hDC, hXC] at hgw
      rw [hDC] at hD hD1
      rw [hXC] at hxl e3 hx1
      rw [hPC, hDC, hXC]
      have ho := Lib.hid oc
      have hX' := Lib.hid hX
      have hDl := Lib.hid hD
      have hxl' := Lib.hid hxl
      have e3' := Lib.hid e3
      replace hD1 := Lib.hid hD1
      replace hx1 := Lib.hid hx1
      replace hmin := Lib.hid hmin
      replace hmin1 := Lib.hid hmin1
      replace hn := Lib.hid hn
      have hP' := Lib.hid hP
      have hm3' := Lib.hid hm3
      have hk1000 : k ≤ 1000 := by omega
      have hm1000 : m1 ≤ 1001 := by omega
      clear hX oc hown hv rv0 hP hsplit hgoal hlen e3 hPC hDC hXC hsrcD hne hD hxl hm1 hm3
      go_enter Try.func31, Try.ntmps31
      go_wp2_with (first
        | (at_builtin; refine wpList_appZ rfl (.tmp 34) (.tmp 39) 58 3 rfl (e := 57) (size := 12) (g := g) (n := k) (cap := c) _ 56 infoN Try.underlying58 Try.underlying3 rfl (by decide) ho.out m1 (by rfl) (by rfl) (by omega) (by omega) (by simp only [maxLen]; omega) (by omega) ?_; intro c2 zs w1 hz1 ho1 hb1; obtain ⟨hnc2, _⟩ : k + m1 ≤ c2 ∧ c2 ≤ maxLen := (by rcases ownS_cases ho1 with ⟨h, _⟩ | ⟨_, _, _, _, h1, h2⟩ <;> first | (cases h) | exact ⟨h1, h2⟩); have HT1 := cutS_l (P := Try.prog) Try.underlying58 infoN (some ⟨w.heap.size, 0, none⟩) (k + m1) c2 k m1 (k : Int) rfl rfl hnc2; rw [if_neg (by omega), show (some (⟨w.heap.size, 0, none⟩ : Addr)).map (·.add (k * 12)) = some ⟨w.heap.size, k * 12, none⟩ from by simp [WideShapes.add_plain]] at HT1; have HT2 := cutS_l (P := Try.prog) Try.underlying58 infoN (some ⟨w.heap.size, 0, none⟩) (k + m1) c2 (k + 1) (c - k) ((k : Int) + 1) (by omega) (by have := hm3'.out; omega) hnc2; rw [if_neg (by have := hm3'.out; omega), show (some (⟨w.heap.size, 0, none⟩ : Addr)).map (·.add ((k + 1) * 12)) = some ⟨w.heap.size, (k + 1) * 12, none⟩ from by simp [WideShapes.add_plain]] at HT2; replace ho1 := Lib.hid ho1; replace hz1 := Lib.hid hz1; replace hb1 := Lib.hid hb1; have hfit1 : k * 12 + XC.length ≤ (PC ++ zs).length := (by rw [List.length_append, hP'.out, hz1.out, hxl'.out]; omega); have r1 := hgw.out w1 hb1.out; have r1a := Lib.hid r1.1; have r1b := Lib.hid r1.2; replace hfit1 := Lib.hid hfit1; clear hgw r1)
        | (refine wpList_copyS rfl (.tmp 43) (.tmp 44) 58 58 rfl (base := w.heap.size) (e := 57) (size := 12) (g := w.heap.size) (n := k + m1) (cap := c2) (xs := PC ++ zs) ho1.out (k * 12) m1 (c2 - k) ⟨vb, 0, none⟩ 1 1 1 XC (by rfl) (by rfl) Try.underlying58 szI hmin1.out hxl'.out r1a.out hfit1.out hx1.out ?_; intro w2 ho2 F2; have hfit2 : (k + 1) * 12 + DC.length ≤ ((PC ++ zs).take (k * 12) ++ XC ++ (PC ++ zs).drop (k * 12 + XC.length)).length := (by have := ho2.1; have := hDl.out; have := hm3'.out; omega); replace ho2 := Lib.hid ho2; replace F2 := Lib.hid F2; replace hfit2 := Lib.hid hfit2))
      have hsrc2 := Lib.hid (r1b.out w2 F2.out)
      go_region_law (refine step_copyS rfl (.tmp 50) (.tmp 53) 58 58 rfl (base := w.heap.size) (e := 57) (size := 12) (g := w.heap.size) (n := k + m1) (cap := c2) (xs := (PC ++ zs).take (k * 12) ++ XC ++ (PC ++ zs).drop (k * 12 + XC.length)) ho2.out ((k + 1) * 12) (c - k) (c2 - (k + 1)) ⟨g, k * 12, none⟩ (c - k) (c - k) (c - k) DC (by simp [Act.eval, Act.put]) (by simp [Act.eval, Act.put]) Try.underlying58 szI hmin.out hDl.out hsrc2.out hfit2.out hD1.out ?_; intro w3 ho3 F3)
      rw [hX'.out zs hz1.out, hm3'.out] at ho3
      rw [hm3'.out]
      replace ho3 := Lib.hid ho3
      replace F3 := Lib.hid F3
      have hbf : Hid (Below w.heap.size w w3) := Lib.hid (by
        have h2 := Fr.under hb1.out hb1.out.size F2.out (fun j hj _ => by omega)
        exact Fr.under h2 h2.size (((Fr.refl (fun j => j = w.heap.size) w2).drew).trans F3.out) (fun j hj _ => by omega))
      go_wp2_with fail
      go_ret
      exact ⟨_, _, rfl, own_base ho3.out (fun j _ => Nat.zero_le j), Fr.of_below hbf.out _, fun a ha => .inr (by injection ha with ha; subst ha; exact Nat.le_refl _)⟩
end Go.Proofs.Ytgmanhbfdjlhbaa
