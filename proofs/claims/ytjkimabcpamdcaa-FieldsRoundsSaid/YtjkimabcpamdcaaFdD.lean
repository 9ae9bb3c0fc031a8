/- fields: Put. -/
import Derived.Test.YtjkimabcpamdcaaFdC
namespace Go.Proofs.Ytjkimabcpamdcaa
open Go.RowKit

set_option maxHeartbeats 2000000 in
theorem contf_any (l : List Fd) (A : Option Addr) (c : Nat) (g : Nat) (lb : Array Value) (q : Fd → Bool) (w : World) (eg : Ent g) (hr : Rd w A (fdv l)) (hl : l.length ≤ 1000000)
    (hq : ∀ W x, Below w.heap.size w W → x ∈ l → Calls Try.prog g (#[x.agg] ++ lb) W fun e w' => e = .returned (.bool (q x)) ∧ Below w.heap.size w w') :
    Calls Try.prog 17 #[.slice A l.length c, .func (.func g) #[] lb] w fun e w' => e = .returned (.bool (l.any q)) ∧ Below w.heap.size w w' := by
  have CI := Lib.hid (idxf_any l A c g lb q w eg hr hl hq)
  rw [← fidx_any q l]
  clear hq hr
  obtain ⟨V, hV⟩ : ∃ V, fidx q l = V := ⟨_, rfl⟩
  rw [hV] at CI ⊢
  clear hV
  go_enter Try.func17, Try.ntmps17
  go_wp2_with fail
  refine CI.out.mono ?_
  rintro e w' ⟨rfl, hb⟩
  clear CI
  replace hb := Lib.hid hb
  go_wp2_with fail
  go_ret
  exact ⟨rfl, hb.out⟩

theorem put1_any (x : Fd) (w : World) (hs : x.value.size ≤ 1000000) :
    Calls Try.prog 18 (#[x.agg] ++ #[]) w fun e w' => e = .returned (.bool (decide (400 < x.value.size))) ∧ Below w.heap.size w w' := by
  unfold Fd.agg
  show Calls Try.prog 18 #[.agg #[.string x.name, .string x.value]] w _
  obtain ⟨n, hn⟩ : ∃ n, x.value.size = n := ⟨_, rfl⟩
  have hd : decide ((400 : Int) < (n : Int)) = decide (400 < n) := by apply decide_eq_decide.2; omega
  rw [hn]
  go_enter Try.func18, Try.ntmps18
  go_wp2
  go_ret
  refine ⟨ret_bool ?_, (Below.refl _ w).alloc (Nat.le_refl _) _⟩
  first | exact hd | rfl
theorem ent_put1 : Ent 18 := enters_of Try.func18 (by kernel_rfl) rfl

def flines (fs : List Fd) : List UInt8 := fs.flatMap fline
theorem flines_snoc (fs : List Fd) (f : Fd) : flines (fs ++ [f]) = flines fs ++ fline f := by simp [flines]
def fok (f : Fd) : Bool := nameok f.name && valok f.value
def fput (fs : List Fd) : List UInt8 × Int :=
  if decide (16 < fs.length) || fs.any (fun x => decide (400 < x.value.size)) then ([], 4) else if fs.all fok then (0 :: 0 :: flines fs, 0) else ([], 5)
theorem pline_len (f : Fd) (h1 : f.name.size ≤ 60) (h2 : f.value.size ≤ 400) : (fline f).length ≤ 500 := by
  unfold fline
  have hv := ptext_len 0 7 f.value.data.toList
  rw [data_length] at hv
  split
  · rename_i k _
    have := pput_len 192 6 k; omega
  · rw [List.length_append]
    unfold fhead
    split
    · rename_i k _
      have := pput_len 80 4 k; omega
    · have hn := ptext_len 32 3 f.name.data.toList
      rw [data_length] at hn
      omega
theorem nameok_size {s : ByteArray} (h : nameok s = true) : s.size ≤ 60 := by
  unfold nameok at h
  simp only [Bool.and_eq_true, decide_eq_true_eq] at h
  exact h.2
theorem flines_len : ∀ (fs : List Fd), (∀ f ∈ fs, f.name.size ≤ 60 ∧ f.value.size ≤ 400) → (flines fs).length ≤ 500 * fs.length
  | [], _ => by simp [flines]
  | f :: fs, h => by
    have ih := flines_len fs (fun g hg => h g (by simp [hg]))
    have := pline_len f (h f (by simp)).1 (h f (by simp)).2
    rw [show flines (f :: fs) = fline f ++ flines fs from by simp [flines], List.length_append, List.length_cons]
    omega

def RetP (w : World) (x : List UInt8 × Int) (e : Ending) (w' : World) : Prop :=
  ∃ A c, e = .returned (.tuple #[.slice A x.1.length c, .int .i64 x.2]) ∧ w'.ownsRow w.heap.size 5 1 (.slice A x.1.length c) x.1.length (bv x.1) ∧ Below w.heap.size w w'

set_option maxRecDepth 100000 in
set_option maxHeartbeats 4000000 in
theorem fput_any (fs : List Fd) (A : Option Addr) (cap n : Nat) (w : World) (hn : fs.length = n) (hr : Rd w A (fdv fs)) (hl : n ≤ 1000000) (hs : ∀ f ∈ fs, f.name.size ≤ 1000000 ∧ f.value.size ≤ 1000000) :
    Calls Try.prog 8 #[.slice A n cap] w (RetP w (fput fs)) := by
  by_cases h16 : 16 < n
  · have d1 : decide ((16 : Int) < (n : Int)) = true := decide_eq_true (by omega)
    have hp : Hid (fput fs = ([], 4)) := Lib.hid (by unfold fput; rw [hn, decide_eq_true h16]; rfl)
    clear hn hr hs
    go_enter Try.func8, Try.ntmps8
    go_wp2_with fail
    go_ret2
    rw [hp.out]
    exact ⟨none, 0, rfl, World.ownsRow_nil _ _ _ _, Below.refl _ _⟩
  · have d1 : decide ((16 : Int) < (n : Int)) = false := decide_eq_false (by omega)
    have CF := contf_any fs A cap _ #[] (fun x => decide (400 < x.value.size)) w ent_put1 hr (by omega) (fun W x hW hx => (put1_any x W (hs x hx).2).mono (fun e w' h => ⟨h.1, hW.trans (h.2.mono hW.size)⟩))
    rw [hn] at CF
    obtain ⟨B, hB⟩ : ∃ B, (fs.any fun x => decide (400 < x.value.size)) = B := ⟨_, rfl⟩
    rw [hB] at CF
    cases B
    · have hv400 : ∀ f ∈ fs, f.value.size ≤ 400 := fun f hf => by
        have := List.any_eq_false.1 hB f hf
        simpa using this
      have hp : fput fs = if fs.all fok then (0 :: 0 :: flines fs, 0) else ([], 5) := by
        unfold fput; rw [hn, decide_eq_false h16, hB]; rfl
      have HP := Lib.hid hp
      have HR := Lib.hid hr
      have HS := Lib.hid hs
      have HN := Lib.hid hn
      have HV := Lib.hid hv400
      replace CF := Lib.hid CF
      replace hB := Lib.hid hB
      clear hp hr hs hn hv400
      go_enter Try.func8, Try.ntmps8
      go_wp2_with fail
      refine CF.out.mono ?_
      rintro e w1 ⟨rfl, b1⟩
      have H0 : Hid (∀ cs, cs = (bv [0, 0]).toArray → (w1.alloc (.cells cs 5)).ownsRow w.heap.size 5 1 (.slice (some ⟨w1.heap.size, 0, none⟩) 2 2) 2 (bv ([0, 0] ++ flines (fs.take 0))) ∧ Below w.heap.size w (w1.alloc (.cells cs 5))) := Lib.hid (fun cs hcs => by
        subst hcs
        exact ⟨World.ownsRow_lit w1 _ 2 b1.size (by simp [maxLen]) rfl, b1.alloc b1.size _⟩)
      clear CF b1
      go_wp2_with fail
      have K0 := H0.out _ rfl
      replace K0 := Lib.hid K0
      clear H0 d1
      go_loopw [4, 17] (fun v i wr => ∃ (k m c4 : Nat) (A4 : Option Addr), k ≤ n ∧ i = .int .i64 k ∧ v = .slice A4 m c4 ∧ Hid (([0, 0] ++ flines (fs.take k)).length = m ∧ (fs.take k).all fok = true ∧ wr.ownsRow w.heap.size 5 1 (.slice A4 m c4) m (bv ([0, 0] ++ flines (fs.take k))) ∧ Below w.heap.size w wr)) (fun _ i _ => n - (intOf i).toNat)
      case atStart => exact ⟨0, 2, 2, _, by omega, rfl, rfl, Lib.hid ⟨rfl, rfl, K0.out.1, K0.out.2⟩⟩
      case round =>
        clear K0
        obtain ⟨k, m, c4, A4, hk, rfl, rfl, HK⟩ := hrel
        obtain ⟨hm, hall, ho, hb⟩ := HK.out
        clear HK
        by_cases hkn : k < n
        · obtain ⟨f, hf⟩ : ∃ f, fs[k]? = some f := ⟨_, List.getElem?_eq_getElem (by rw [HN.out]; exact hkn)⟩
          obtain ⟨hkl, hfe⟩ := List.getElem?_eq_some_iff.1 hf
          obtain ⟨b, off, rfl, x0, x1⟩ := load_fd (HR.out.below hb) hkl
          rw [hfe] at x0 x1
          have hfm := List.mem_of_getElem? hf
          have hfs := HS.out f hfm
          have hfv := HV.out f hfm
          have htk : fs.take (k + 1) = fs.take k ++ [f] := by rw [List.take_succ_eq_append_getElem hkl, hfe]
          obtain ⟨fa, fb⟩ := f
          simp only at x0 x1 hfs hfv
          have hn60 := @nameok_size fa
          replace HR := HR
          obtain ⟨B1, hB1⟩ : ∃ B1, nameok fa = B1 := ⟨_, rfl⟩
          obtain ⟨B2, hB2⟩ : ∃ B2, valok fb = B2 := ⟨_, rfl⟩
          have hfk : fok ⟨fa, fb⟩ = (B1 && B2) := by unfold fok; rw [hB1, hB2]
          rw [hB1] at hn60
          have NM := Lib.hid (fun W => name_any fa W hfs.1)
          have PL := Lib.hid (fun W => plain_any fb W hfs.2)
          rw [hB1] at NM
          rw [hB2] at PL
          have hno : (B1 && B2) = false → fput fs = ([], 5) := fun h => by
            rw [HP.out, if_neg]
            intro hh
            have := List.all_eq_true.1 hh _ hfm
            rw [hfk, h] at this; cases this
          have hlm : m ≤ 20000 := by
            have := flines_len (fs.take k) (fun g hg => ⟨nameok_size (by
              have := List.all_eq_true.1 hall g hg
              unfold fok at this
              rw [Bool.and_eq_true] at this
              exact this.1), HV.out g (List.mem_of_mem_take hg)⟩)
            rw [List.length_append, List.length_take] at *
            simp only [List.length_cons, List.length_nil] at *
            omega
          replace hfm := Lib.hid hfm
          replace hf := Lib.hid hf
          replace hfe := Lib.hid hfe
          replace htk := Lib.hid htk
          replace hB1 := Lib.hid hB1
          replace hB2 := Lib.hid hB2
          replace hm := Lib.hid hm
          replace hall := Lib.hid hall
          replace ho := Lib.hid ho
          replace hb := Lib.hid hb
          cases B1
          · have hp5 := Lib.hid (hno rfl)
            clear hno hn60 hfk
            go_wp2_with fail
            refine (NM.out _).mono ?_
            rintro e w2 ⟨rfl, rfl⟩
            go_wp2_with fail
            go_ret2
            rw [hp5.out]
            exact ⟨none, 0, rfl, World.ownsRow_nil _ _ _ _, hb.out.alloc hb.out.size _⟩
          · cases B2
            · have hp5 := Lib.hid (hno rfl)
              clear hno hn60 hfk
              go_wp2_with fail
              refine (NM.out _).mono ?_
              rintro e w2 ⟨rfl, rfl⟩
              go_wp2_with fail
              refine (PL.out _).mono ?_
              rintro e w2 ⟨rfl, rfl⟩
              go_wp2_with fail
              go_ret2
              rw [hp5.out]
              exact ⟨none, 0, rfl, World.ownsRow_nil _ _ _ _, hb.out.alloc hb.out.size _⟩
            · have hll := pline_len ⟨fa, fb⟩ (hn60 rfl) hfv
              have hall2 : Hid ((fs.take (k + 1)).all fok = true) := Lib.hid (by rw [htk.out, List.all_append, hall.out]; simp [hfk])
              have hfl : Hid ([0, 0] ++ flines (fs.take (k + 1)) = [0, 0] ++ flines (fs.take k) ++ fline ⟨fa, fb⟩) := Lib.hid (by rw [htk.out, flines_snoc, List.append_assoc])
              obtain ⟨q, hq⟩ : ∃ q, (fline ⟨fa, fb⟩).length = q := ⟨_, rfl⟩
              have LN := Lib.hid (fun W => line_any fa fb W hfs.1 hfs.2)
              rw [hq] at LN hll
              have hm2 : Hid (([0, 0] ++ flines (fs.take (k + 1))).length = m + q) := Lib.hid (by rw [hfl.out, List.length_append, hm.out, hq])
              have b2 := Lib.hid (hb.out.alloc hb.out.size (.cells #[.string fa, .string fb] 24))
              have o2 := Lib.hid (ho.out.alloc (.cells #[.string fa, .string fb] 24))
              clear hno hn60 hfk
              replace hq := Lib.hid hq
              go_wp2_with fail
              refine (NM.out _).mono ?_
              rintro e w2 ⟨rfl, rfl⟩
              go_wp2_with fail
              refine (PL.out _).mono ?_
              rintro e w2 ⟨rfl, rfl⟩
              go_wp2_with fail
              refine (LN.out _).mono ?_
              rintro e w3 ⟨A5, c5, rfl, o5, b5⟩
              have o3 := Lib.hid (own_fr o2.out (Fr.of_below b5 NoS) (fun _ _ x => x))
              have r5 := Lib.hid (Rd.of_own o5)
              have b3 := Lib.hid (b2.out.trans (b5.mono b2.out.size))
              clear o5 b5 o2 b2 ho hb LN NM PL
              go_wp2_with (at_builtin; refine wpList_app _ rfl _ _ 26 rfl w.heap.size 5 (.int .u8 0) 1 infoB Try.underlying26 rfl (.slice A4 m c4) m (bv ([0, 0] ++ flines (fs.take k))) rfl o3.out A5 q c5 (bv (fline ⟨fa, fb⟩)) rfl (by rw [bv_length]; exact hq.out) r5.out (bv_one _) (by unfold maxLen; omega) (by omega) b3.out.size ?_; intro A6 c6 w6 ho6 hg6 _; rw [← bv_append, ← hfl.out] at ho6; have b6 := Lib.hid (Fr.under b3.out b3.out.size ((Fr.refl (fun q => (Value.slice A4 m c4).ownBlock = some q) _).grown hg6 (fun _ hq _ => hq)) (fun q hq _ => (o3.out.lt q hq).1)); replace ho6 := Lib.hid ho6; clear hg6)
              go_roundw
              case rel => exact ⟨k + 1, m + q, c6, A6, by omega, by go_num, by first | rfl | go_num, Lib.hid ⟨hm2.out, hall2.out, ho6.out, b6.out⟩⟩
              case measure => simp [intOf]; omega
        · have hk' : k = n := by omega
          have htk : fs.take k = fs := List.take_of_length_le (by rw [HN.out]; omega)
          rw [htk] at hm hall ho
          have hp0 : Hid (fput fs = (0 :: 0 :: flines fs, 0)) := Lib.hid (by rw [HP.out, if_pos hall])
          replace hm := Lib.hid hm
          replace hall := Lib.hid hall
          replace ho := Lib.hid ho
          replace hb := Lib.hid hb
          replace htk := Lib.hid htk
          go_wp2_with fail
          go_ret2
          rw [hp0.out]
          have e : (0 :: 0 :: flines fs : List UInt8).length = m := hm.out
          refine ⟨A4, c4, by rw [e]; rfl, ?_, hb.out⟩
          rw [e]; exact ho.out
    · have hp : Hid (fput fs = ([], 4)) := Lib.hid (by unfold fput; rw [hn, decide_eq_false h16, hB]; rfl)
      replace CF := Lib.hid CF
      replace hB := Lib.hid hB
      clear hn hr hs
      go_enter Try.func8, Try.ntmps8
      go_wp2_with fail
      refine CF.out.mono ?_
      rintro e w1 ⟨rfl, b1⟩
      replace b1 := Lib.hid b1
      clear CF
      go_wp2_with fail
      go_ret2
      rw [hp.out]
      exact ⟨none, 0, rfl, World.ownsRow_nil _ _ _ _, b1.out⟩
end Go.Proofs.Ytjkimabcpamdcaa
