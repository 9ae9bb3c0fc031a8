/- TableKeeps: it is true at every input. -/
import Derived.Test.YtgcnhppafclnmaaTbN
import Derived.Deep.RegionHeld3
import Derived.Deep.CutRange
import Derived.Test.YtgcnhppafclnmaaStr
namespace Go.Proofs.Ytgcnhppafclnmaa
open Go.RowKit

theorem knm_cell (r : Nat) (hr : r < 3) (W : World) (m : Nat × Nat) : (W.alloc (.cells #[.string ⟨#[97]⟩, .string ⟨#[98, 98]⟩, .string ⟨#[99, 99, 99]⟩] 9 m)).cell? ⟨W.heap.size, r, none⟩ = some (.string (knm r)) := by
  rw [show (#[.string ⟨#[97]⟩, .string ⟨#[98, 98]⟩, .string ⟨#[99, 99, 99]⟩] : Array Value) = ([.string ⟨#[97]⟩, .string ⟨#[98, 98]⟩, .string ⟨#[99, 99, 99]⟩] : List Value).toArray from rfl, cell_mark]
  have h : r = 0 ∨ r = 1 ∨ r = 2 := by omega
  rcases h with rfl | rfl | rfl <;> rfl

theorem get_before (t : Tb) (G : Nat) (hG : t.gone = G) (hGb : G ≤ 1000) (hF : t.F.length < 1000000) : ∃ z : Nat, IntKind.u64.wrap ((G : Int) - 1) = (z : Int) ∧ z < 18446744073709551616 ∧ t.get z = none := by
  unfold Tb.get
  by_cases h : G = 0
  · refine ⟨18446744073709551615, by rw [IntKind.wrap_u64]; omega, by omega, ?_⟩
    rw [List.getElem?_eq_none (by omega)]; split <;> rfl
  · refine ⟨G - 1, by rw [IntKind.wrap_u64]; omega, by omega, by rw [if_neg (by omega)]⟩
theorem fdset {W : World} {B : Nat} {t : TypeId} {x y : Value} (h : HasRow W B t #[x, y]) (u v : Value) : HasRow ((W.setCell ⟨B, 0, none⟩ u).setCell ⟨B, 1, none⟩ v) B t #[u, v] :=
  heap_setCell_same _ B 1 _ t v (heap_setCell_same W B 0 _ t u h)
theorem fdbel {N B : Nat} {w W : World} (h : Below N w W) (hB : N ≤ B) (u v : Value) : Below N w ((W.setCell ⟨B, 0, none⟩ u).setCell ⟨B, 1, none⟩ v) := (h.setCell (p := ⟨B, 0, none⟩) hB u).setCell (p := ⟨B, 1, none⟩) hB v
theorem bcell {W w1 : World} (hb : Below W.heap.size W w1) : (∀ b o, b < W.heap.size → w1.cell? ⟨b, o, none⟩ = W.cell? ⟨b, o, none⟩) ∧ (∀ b o, b < W.heap.size → w1.frozen? ⟨b, o, none⟩ = W.frozen? ⟨b, o, none⟩) :=
  ⟨fun b o h => hb.cell (p := ⟨b, o, none⟩) h, fun b o h => hb.frozen (p := ⟨b, o, none⟩) h⟩
set_option maxRecDepth 100000 in
set_option maxHeartbeats 8000000 in
theorem keeps_in (gs : List Int) (m0 : Int) (A : Option Addr) (cap n : Nat) (w : World) (hn : gs.length = n) (hr : Rd w A (gs.map (Value.int .i64))) (hn30 : n ≤ 30) :
    Calls Try.prog 6 #[.int .i64 m0, .slice A n cap] w fun e w' => e = .returned (.bool true) ∧ Below w.heap.size w w' := by
  have b1 : decide ((30 : Int) < (n : Int)) = false := decide_eq_false (by omega)
  obtain ⟨most, hm, L1⟩ := low_ex m0 513 (by omega) (by omega)
  have hm512 : most ≤ 512 := by omega
  replace L1 := Lib.hid L1
  have HR := Lib.hid hr
  replace hn := Lib.hid hn
  clear hr
  go_enter Try.func6, Try.ntmps6
  go_wp2_with fail
  refine (L1.out _).mono ?_
  rintro e w1 ⟨rfl, rfl⟩
  clear L1
  go_wp2_with fail
  refine (tnew_at (fun k => k < w.heap.size) w (fun _ h => h) most hm512).mono ?_
  rintro e w1 ⟨p, rfl, H, hb⟩
  have HS : Hid (KeSt w w1 (fun k => k < w.heap.size) p (tall most (kfl gs) 0) none 0) := Lib.hid ⟨H, fun _ h => h, World.ownsRow_nil _ _ _ _, (fun a ha => by cases ha), hb⟩
  clear H hb
  go_wp2_with fail
  clear b1
  go_loopw [6, 7] (fun v i wr => ∃ (k N cn : Nat) (An : Option Addr), k ≤ n ∧ i = .int .i64 k ∧ v = .slice An N cn ∧ Hid (∃ P, (tall most (kfl gs) k).F.length = N ∧ KeSt w wr P p (tall most (kfl gs) k) An cn)) (fun _ i _ => n - (intOf i).toNat)
  case atStart => exact ⟨0, 0, 0, none, by omega, rfl, rfl, Lib.hid ⟨_, rfl, HS.out⟩⟩
  case round =>
    clear HS
    obtain ⟨k, N, cn, An, hk, rfl, rfl, HS⟩ := hrel
    obtain ⟨P, hN, HS⟩ := HS.out
    by_cases hkn : k < n
    · obtain ⟨b, off, rfl, hcell⟩ := (HR.out.below HS.bl).at_ (k := k) (by simp; have := hn.out; omega)
      rw [List.getElem_map] at hcell
      obtain ⟨x, hx⟩ : ∃ x, gs[k]'(by have := hn.out; omega) = x := ⟨_, rfl⟩
      rw [hx] at hcell
      have La := la_low gs 90 k x (by rw [← hx]; exact List.getElem?_eq_getElem _) (by omega) (by omega)
      have ha4 := la_lt gs 90 k (by omega) (by omega)
      obtain ⟨T, hT⟩ : ∃ T, tall most (kfl gs) k = T := ⟨_, rfl⟩
      have htt : T.ins (kfl gs k) = tall most (kfl gs) (k + 1) := by rw [← hT]; rfl
      have hok : T.Ok := by rw [← hT]; exact tall_ok _ _ _
      have hTm : T.most = most := by rw [← hT]; exact tall_most _ _ _
      have hFk : T.F.length ≤ 30 := by rw [← hT]; have := tall_len_le most (kfl gs) k; omega
      rw [hT] at hN HS
      unfold kfl at htt
      obtain ⟨a, ha⟩ : ∃ a, la gs 90 k = a := ⟨_, rfl⟩
      rw [ha] at La ha4 htt
      obtain ⟨r, hr3⟩ : ∃ r, a % 3 = r := ⟨_, rfl⟩
      obtain ⟨q, hq3⟩ : ∃ q, a / 3 = q := ⟨_, rfl⟩
      obtain ⟨s, hs5⟩ : ∃ s, a % 5 = s := ⟨_, rfl⟩
      rw [hr3, hq3, hs5] at htt
      have i1 : (a : Int).tmod 3 = (r : Int) := by rw [← hr3]; rfl
      have i2 : (a : Int).tdiv 3 = (q : Int) := by rw [← hq3]; rfl
      have i3 : (a : Int).tmod 5 = (s : Int) := by rw [← hs5]; rfl
      have w2 : IntKind.i64.wrap (q : Int) = (q : Int) := by rw [IntKind.wrap_i64]; omega
      have hr4 : r < 3 := by omega
      have hr4I : (r : Int) < 3 := by omega
      have hq30 : q ≤ 30 := by omega
      have hs6 : s ≤ 5 := by omega
      have hKN := knm_cell r hr4
      have hkns := knm_size r
      obtain ⟨nv, hnv⟩ : ∃ nv, knm r = nv := ⟨_, rfl⟩
      obtain ⟨bs, hbs⟩ : ∃ bs, growl q s = bs := ⟨_, rfl⟩
      have hbl : bs.length = q := by rw [← hbs]; simp
      rw [hnv, hbs] at htt
      rw [hnv] at hKN hkns
      obtain ⟨sz, hsz⟩ : ∃ sz, nv.size + q + 32 = sz := ⟨_, rfl⟩
      have hfsz : (⟨nv, ⟨bs.toArray⟩⟩ : Fd).size = sz := by
        show nv.size + (ByteArray.mk bs.toArray).size + 32 = sz
        rw [show (ByteArray.mk bs.toArray).size = bs.length from by simp [ByteArray.size], hbl]; exact hsz
      have HG : Hid (∀ W, Calls Try.prog 25 #[.int .i64 q, .int .i64 s] W (RetS 5 W q (bv bs))) := Lib.hid (fun W => by rw [← hbs]; exact grow_any q s W (by omega) (by omega))
      replace La := Lib.hid La
      replace htt := Lib.hid htt
      replace hT := Lib.hid hT
      replace hN := Lib.hid hN
      replace hok := Lib.hid hok
      replace hTm := Lib.hid hTm
      replace hsz := Lib.hid hsz
      replace hfsz := Lib.hid hfsz
      replace hbl := Lib.hid hbl
      replace HS := Lib.hid HS
      clear hx ha hr3 hq3 hs5 hnv hbs
      go_wp2_with fail
      refine (La.out _).mono ?_
      rintro e w3 ⟨rfl, rfl⟩
      clear La hcell
      go_wp2_with fail
      have hcvA : Hid (∀ (W : World) (A4 : Option Addr) (c4 : Nat), Rd W A4 (bv bs) → (convert 48 9 (.slice A4 q c4)).run Try.prog W = .ok (.string ⟨bs.toArray⟩) W) := Lib.hid (fun W A4 c4 hrd => by
        have := run_conv_bytes Try.underlying48 Try.underlying5 Try.underlying9 (c := c4) (l := bs) hrd
        rw [hbl.out] at this
        exact this)
      have hK1 := hKN wr (0, 0)
      have hK2 := fun o => Lib.cell?_alloc_some o hK1
      have hK3 := fun o => (by have := hKN (wr.alloc o) (0, 0); rwa [World.size_alloc] at this : ((wr.alloc o).alloc (.cells #[.string ⟨#[97]⟩, .string ⟨#[98, 98]⟩, .string ⟨#[99, 99, 99]⟩] 9 (0, 0))).cell? ⟨wr.heap.size + 1, r, none⟩ = some (.string nv))
      have bl0 : Below wr.heap.size wr wr.drew := (Still.drew wr).below
      have bl1 : ∀ o, Below wr.heap.size wr (wr.alloc o).drew := fun o => ((Below.refl _ wr).alloc (Nat.le_refl _) o).trans ((Still.drew (wr.alloc o)).below.mono (by simp))
      have bl2 : ∀ o o', Below wr.heap.size wr ((wr.alloc o).alloc o').drew := fun o o' => (((Below.refl _ wr).alloc (Nat.le_refl _) o).alloc (by simp) o').trans ((Still.drew ((wr.alloc o).alloc o')).below.mono (by simp; omega))
      replace bl0 := Lib.hid bl0
      replace bl1 := Lib.hid bl1
      replace bl2 := Lib.hid bl2
      go_cut [9] from 44 to 55 (fun v wx => ∃ fb, v = .pointer (some ⟨fb, 0, none⟩) ∧ wr.heap.size ≤ fb ∧ Hid (HasRow wx fb 28 #[.string nv, .string ⟨bs.toArray⟩]) ∧ Hid (Below wr.heap.size wr wx))
      case first =>
        go_region_law (first
          | (go_simp; go_at_call 25; refine (HG.out _).mono ?_; rintro e w4 ⟨A4, c4, rfl, o4, b4⟩; have o4r := Rd.of_own o4; have hc0 := hcvA.out w4 A4 c4 o4r; have hc1 := fun o => hcvA.out (w4.alloc o) A4 c4 (o4r.alloc o); have hc2 := fun o o' => hcvA.out ((w4.alloc o).alloc o') A4 c4 ((o4r.alloc o).alloc o'); obtain ⟨bc4, bf4⟩ := bcell b4; have hk1 := hKN w4 (0, 0); have hk2 := fun o => Lib.cell?_alloc_some o hk1; have hk3 := fun o => (by have := hKN (w4.alloc o) (0, 0); rwa [World.size_alloc] at this : ((w4.alloc o).alloc (.cells #[.string ⟨#[97]⟩, .string ⟨#[98, 98]⟩, .string ⟨#[99, 99, 99]⟩] 9 (0, 0))).cell? ⟨w4.heap.size + 1, r, none⟩ = some (.string nv)); have ca4 := fun o b i (h : b < w4.heap.size) => ((Below.refl _ w4).alloc (Nat.le_refl _) o).cell (p := ⟨b, i, none⟩) h; have fa4 := fun o b i (h : b < w4.heap.size) => ((Below.refl _ w4).alloc (Nat.le_refl _) o).frozen (p := ⟨b, i, none⟩) h; (try (have hz4 : wr.heap.size < w4.heap.size := by (have h := b4.size; simp at h; omega))); (try (have hz5 : wr.heap.size + 1 < w4.heap.size := by (have h := b4.size; simp at h; omega))); have B4 : Hid (Below wr.heap.size wr w4) := Lib.hid (by first | exact bl0.out.trans (b4.mono (by simp)) | exact (bl1.out _).trans (b4.mono (by simp)) | exact (bl2.out _ _).trans (b4.mono (by simp; omega))); (try (have F4 : Hid (HasRow w4 wr.heap.size 28 #[.string ⟨#[]⟩, .string ⟨#[]⟩]) := Lib.hid (by first | exact HasRow.below (W := (wr.alloc (.cells #[.string ⟨#[]⟩, .string ⟨#[]⟩] 28)).drew) (HasRow.new wr _ _) b4 | exact HasRow.below (W := ((wr.alloc (.cells #[.string ⟨#[]⟩, .string ⟨#[]⟩] 28)).alloc _).drew) ((HasRow.new wr _ _).alloc _) b4))); (try (have F5 : Hid (HasRow w4 (wr.heap.size + 1) 28 #[.string ⟨#[]⟩, .string ⟨#[]⟩]) := Lib.hid (by have h := HasRow.new (wr.alloc (.cells #[.string ⟨#[97]⟩, .string ⟨#[98, 98]⟩, .string ⟨#[99, 99, 99]⟩] 9)) 28 #[.string ⟨#[]⟩, .string ⟨#[]⟩]; rw [World.size_alloc] at h; exact HasRow.below (W := ((wr.alloc (.cells #[.string ⟨#[97]⟩, .string ⟨#[98, 98]⟩, .string ⟨#[99, 99, 99]⟩] 9)).alloc (.cells #[.string ⟨#[]⟩, .string ⟨#[]⟩] 28)).drew) h b4))); replace b4 := Lib.hid b4; clear o4 o4r))
        all_goals (go_wp2_with fail; go_meet; first
          | exact ⟨_, rfl, B4.out.size, Lib.hid (HasRow.new w4 _ _), Lib.hid (B4.out.alloc B4.out.size _)⟩
          | exact ⟨_, rfl, Nat.le_succ_of_le B4.out.size, Lib.hid (by have h := HasRow.new (w4.alloc (.cells #[.string ⟨#[97]⟩, .string ⟨#[98, 98]⟩, .string ⟨#[99, 99, 99]⟩] 9)) 28 #[.string nv, .string ⟨bs.toArray⟩]; rwa [World.size_alloc] at h), Lib.hid ((B4.out.alloc B4.out.size _).alloc (by have := B4.out.size; simp; omega) _)⟩
          | exact ⟨_, rfl, B4.out.size, Lib.hid ((HasRow.new w4 _ _).alloc _), Lib.hid ((B4.out.alloc B4.out.size _).alloc (by have := B4.out.size; simp; omega) _)⟩
          | exact ⟨_, rfl, Nat.le_refl _, Lib.hid (fdset F4.out _ _), Lib.hid (fdbel B4.out (Nat.le_refl _) _ _)⟩
          | exact ⟨_, rfl, Nat.le_succ _, Lib.hid (fdset F5.out _ _), Lib.hid (fdbel B4.out (Nat.le_succ _) _ _)⟩
          | exact ⟨_, rfl, Nat.le_refl _, Lib.hid ((fdset F4.out _ _).alloc _), Lib.hid ((fdbel B4.out (Nat.le_refl _) _ _).alloc (by have := B4.out.size; simpa [World.setCell] using this) _)⟩)
      case rest =>
        clear hKN hK1 hK2 hK3
        obtain ⟨fb, rfl, hfb, HF, hB⟩ := hcut
        obtain ⟨fv, hfv⟩ : ∃ fv : ByteArray, (⟨bs.toArray⟩ : ByteArray) = fv := ⟨_, rfl⟩
        rw [hfv] at HF htt hfsz
        have hfvs : fv.size = q := by rw [← hfv, ← hbl.out]; simp [ByteArray.size]
        have K0 := KeSt.kp HS.out hN.out hB.out HF.out hfb
        obtain ⟨P1, hP1⟩ : ∃ P1 : Nat → Prop, (fun x => P x ∨ x = fb) = P1 := ⟨_, rfl⟩
        rw [hP1] at K0
        have x0 := K0.box.cell 0 _ rfl
        have x1 := K0.box.cell 1 _ rfl
        obtain ⟨sa, hsa⟩ : ∃ sa, nv.size = sa := ⟨_, rfl⟩
        have hsz2 : sa + q + 32 = sz := by rw [← hsa]; exact hsz.out
        have hszs : Hid (nv.size + fv.size + 32 = sz) := Lib.hid (by rw [hsa, hfvs]; exact hsz2)
        have hsI : (sa : Int) + (q : Int) + 32 = (sz : Int) := by omega
        have hsab : sa ≤ 3 := by omega
        have hszb : sz ≤ 1000000 := by omega
        obtain ⟨ft, hft⟩ : ∃ ft, decide (sz ≤ most) = ft := ⟨_, rfl⟩
        have hftI : decide ((sz : Int) ≤ (most : Int)) = ft := by rw [← hft]; exact decide_eq_decide.2 (by omega)
        have hftm : Hid (decide (sz ≤ T.most) = ft) := Lib.hid (by rw [hTm.out]; exact hft)
        have hff : (ft != ft) = false := by simp
        obtain ⟨u, hu⟩ : ∃ u, T.used = u := ⟨_, rfl⟩
        obtain ⟨T', hT'⟩ : ∃ T', T.ins ⟨nv, fv⟩ = T' := ⟨_, rfl⟩
        have hTT : Hid (T' = tall most (kfl gs) (k + 1)) := Lib.hid (by rw [← hT']; exact htt.out)
        have OK' : Hid T'.Ok := Lib.hid (by rw [← hT']; exact T.ins_ok _ hok.out)
        have M' : Hid (T'.most = most) := Lib.hid (by rw [← hT', T.ins_most]; exact hTm.out)
        replace hT' := Lib.hid hT'
        replace hu := Lib.hid hu
        replace hfv := Lib.hid hfv
        replace hP1 := Lib.hid hP1
        replace K0 := Lib.hid K0
        have hft2 := Lib.hid hft
        clear HS HF hB htt
        go_wp2_with fail
        refine (kp_used K0.out u hu.out).mono ?_
        rintro e w3 ⟨rfl, rfl⟩
        go_wp2_with fail
        refine (kp_ins K0.out T' ft sz hszs.out hszb (by have := hFk; omega) hftm.out hT'.out).mono ?_
        rintro e w3 ⟨rfl, K3⟩
        have x0 := K3.box.cell 0 _ rfl
        have x1 := K3.box.cell 1 _ rfl
        replace K3 := Lib.hid K3
        clear K0
        rcases (by cases ft <;> simp : ft = true ∨ ft = false) with rfl | rfl
        · have hle : sz ≤ most := of_decide_eq_true hft2.out
          have hfsz2 : (⟨nv, fv⟩ : Fd).size ≤ T.most := by rw [hfsz.out, hTm.out]; exact hle
          have HF' : Hid (T'.F = T.F ++ [⟨nv, fv⟩]) := Lib.hid (by rw [← hT'.out, T.ins_yes _ hfsz2])
          have hfnd : Hid (T'.find ⟨nv, fv⟩ = (T'.F.length - 1, true, true)) := Lib.hid (by rw [← hT'.out]; exact find_last T _ hok.out hfsz2)
          have hLp : Hid (0 < T'.l.length) := Lib.hid (by rw [← hT'.out]; exact ins_ne T _ hok.out hfsz2)
          have hc63 := K3.out.fin
          have hN30 : N ≤ 30 := by have := hN.out; omega
          replace hfsz2 := Lib.hid hfsz2
          replace hle := Lib.hid hle
          clear hft hftI hff
          go_wp2_with (at_builtin; refine Hid.out ?_)
          refine Lib.hid ?_
          refine wpList_appS rfl _ _ 22 rfl w.heap.size 28 _ 2 32 infoF Try.underlying22 rfl (by decide) (.slice An N cn) N (fdv T.F) rfl (K3.out.own.alloc _) ⟨w3.heap.size, 0, none⟩ 1 1 [.string nv, .string fv] rfl rfl (Rd.fresh_mark w3 [.string nv, .string fv] _ _).cells (by intro u hu; simp at hu; rcases hu with rfl | rfl <;> rfl) (by unfold maxLen; omega) (by omega) (by have := K3.out.below.size; simp only [World.size_alloc]; omega) ?_
          intro A8 c8 w8 o8 g8 hat
          obtain ⟨P2, K8⟩ := kp_app K3.out _ A8 c8 w8 o8 g8 hat
          rw [← HF'.out] at K8
          obtain ⟨N1, hN1⟩ : ∃ N1, N + 1 = N1 := ⟨_, rfl⟩
          rw [hN1] at K8 ⊢
          have NE1 : Hid (T'.F.length = N1) := Lib.hid (by rw [HF'.out, List.length_append, hN.out]; exact hN1)
          have hNN1 : N1 ≤ 31 := by omega
          have hfnd2 : Hid (T'.find ⟨nv, fv⟩ = (N, true, true)) := Lib.hid (by rw [hfnd.out, NE1.out, ← hN1]; rfl)
          have hNI1 : IntKind.u64.wrap ((N1 : Int) - 1) = (N : Int) := by rw [IntKind.wrap_u64]; omega
          replace K8 := Lib.hid K8
          replace hN1 := Lib.hid hN1
          clear o8 g8 hat x0 x1 K3
          -- all the calls behind
          have hL1 := T'.len_add OK'.out
          obtain ⟨l, hl⟩ : ∃ l, T'.l = l := ⟨_, rfl⟩
          obtain ⟨L, hL⟩ : ∃ L, l.length = L := ⟨_, rfl⟩
          obtain ⟨G, hG⟩ : ∃ G, T'.gone = G := ⟨_, rfl⟩
          obtain ⟨u2, hu2⟩ : ∃ u2, T'.used = u2 := ⟨_, rfl⟩
          have hu2m : u2 ≤ most := by have := OK'.out.used; rw [hu2, M'.out] at this; exact this
          have hu2l : tsum l = u2 := by rw [← hl]; exact hu2
          rw [hl, hL, hG, NE1.out] at hL1
          have hget : Hid (∀ j, j < L → T'.get (G + j) = l[j]?) := Lib.hid (fun j hj => by
            unfold Tb.get
            rw [if_pos (by omega), ← hl, Tb.l, List.getElem?_drop, hG])
          have hFl : Hid (∀ j, j < L → T'.F[G + j]? = l[j]?) := Lib.hid (fun j hj => by
            rw [← hl, Tb.l, List.getElem?_drop, hG])
          have hGN : (N1 : Int) - (L : Int) = (G : Int) := by omega
          have hNs : N1 ≤ 31 := hNN1
          have hGs : G ≤ 31 := by omega
          have hLs : L ≤ 31 := by omega
          have hw1 : IntKind.u64.wrap (N1 : Int) = (N1 : Int) := by rw [IntKind.wrap_u64]; omega
          have d2 : decide ((N1 : Int) < (L : Int)) = false := decide_eq_false (by omega)
          have d2' : decide (N1 < L) = false := decide_eq_false (by omega)
          have eL : ((L : Int) == 0) = false := by rw [beq_eq_false_iff_ne]; have h := hLp.out; rw [hl, hL] at h; omega
          obtain ⟨z, hz1, hz2, hz3⟩ := get_before T' G hG (by omega) (by rw [NE1.out]; omega)
          replace hl := Lib.hid hl
          replace hL := Lib.hid hL
          replace hG := Lib.hid hG
          replace hu2 := Lib.hid hu2
          replace hu2l := Lib.hid hu2l
          have hz4 : Hid ((T'.get z).getD fd0 = ⟨⟨#[]⟩, ⟨#[]⟩⟩) := Lib.hid (by rw [hz3]; rfl)
          have hz5 : Hid ((T'.get z).isSome = false) := Lib.hid (by rw [hz3]; rfl)
          clear hz3
          replace hz1 := Lib.hid hz1
          go_wp2_with fail
          refine (kp_list K8.out l L hl.out hL.out).mono ?_
          rintro e wa ⟨A5, c5, rfl, R5, K5⟩
          replace K5 := Lib.hid K5
          clear K8
          go_wp2_with fail
          refine (kp_count K5.out N1 NE1.out).mono ?_
          rintro e wb ⟨rfl, K6, bb⟩
          have R6 := Lib.hid (R5.below bb)
          replace K6 := Lib.hid K6
          clear bb R5 K5
          go_wp2_with fail
          clear d2 d2' hw1
          go_loopw [13, 15] (fun s i wq => ∃ (j v : Nat), j ≤ L ∧ i = .int .i64 j ∧ s = .int .i64 v ∧ v ≤ u2 ∧ Hid (v = tsum (l.take j)) ∧ Hid (KpSt w wq P2 p T' A8 N1 c8 T'.F fb nv fv ∧ Below wb.heap.size wb wq)) (fun _ i _ => L - (intOf i).toNat)
          case atStart => exact ⟨0, 0, by omega, rfl, rfl, by omega, Lib.hid rfl, Lib.hid ⟨K6.out, Below.refl _ _⟩⟩
          case round =>
            clear K6
            obtain ⟨j, v, hj, rfl, rfl, hv, HV, HK⟩ := hrel
            by_cases hjL : j < L
            · rename_i aa; clear aa
              have hjl : j < l.length := by rw [hL.out]; omega
              obtain ⟨f, hf⟩ : ∃ f, l[j] = f := ⟨_, rfl⟩
              obtain ⟨x, y⟩ := f
              obtain ⟨q1, hq1⟩ : ∃ q1, G + j = q1 := ⟨_, rfl⟩
              have hqI : (G : Int) + (j : Int) = (q1 : Int) := by omega
              have hqw : IntKind.u64.wrap (q1 : Int) = (q1 : Int) := by rw [IntKind.wrap_u64]; omega
              have hgq := hget.out j (by omega)
              have hfq := hFl.out j (by omega)
              rw [hq1, List.getElem?_eq_getElem hjl, hf] at hgq hfq
              obtain ⟨s1, hs1⟩ : ∃ s1, x.size + y.size + 32 = s1 := ⟨_, rfl⟩
              have hts := tsum_take l j ⟨x, y⟩ (by rw [List.getElem?_eq_getElem hjl, hf])
              have hts2 : tsum (l.take (j + 1)) = v + s1 := by rw [hts, ← HV.out, ← hs1]; rfl
              have htle := tsum_take_le l (j + 1)
              rw [hts2, hu2l.out] at htle
              obtain ⟨v2, hv2⟩ : ∃ v2, v + s1 = v2 := ⟨_, rfl⟩
              have hv2I : (v : Int) + (s1 : Int) = (v2 : Int) := by omega
              have hv2u : v2 ≤ u2 := by omega
              have hs1b : s1 ≤ 1000000 := by omega
              have HV2 : Hid (v2 = tsum (l.take (j + 1))) := Lib.hid (by omega)
              have hq1N : (q1 : Int) < (N1 : Int) := by omega
              have hjI : (j : Int) < (L : Int) := by omega
              replace hs1 := Lib.hid hs1
              replace hq1 := Lib.hid hq1
              replace hgq := Lib.hid hgq
              replace hfq := Lib.hid hfq
              replace hf := Lib.hid hf
              clear hts hts2 htle hv2 HV
              go_wp2_with fail
              refine (kp_get HK.out.1 x y true q1 (by omega) (by rw [hgq.out]; rfl) (by rw [hgq.out]; rfl)).mono ?_
              rintro e wc2 ⟨rfl, Kc, bc⟩
              have Bc := HK.out.2.trans (bc.mono HK.out.2.size)
              go_wp2_with fail
              obtain ⟨W7, hW7⟩ : ∃ W7, wc2.alloc (.cells #[.string x, .string y] 28) = W7 := ⟨_, rfl⟩
              have b67 := (Below.refl _ wc2).alloc (Nat.le_refl _) (.cells #[.string x, .string y] 28)
              have hR7 := HasRow.new wc2 28 #[.string x, .string y]
              rw [hW7] at b67 hR7 ⊢
              obtain ⟨gb, hgb⟩ : ∃ gb, wc2.heap.size = gb := ⟨_, rfl⟩
              have K7 := Lib.hid (Kc.bel b67)
              have B7 := Bc.trans (b67.mono Bc.size)
              rw [hgb] at hR7 ⊢
              have x0 := hR7.cell 0 _ rfl
              have x1 := hR7.cell 1 _ rfl
              obtain ⟨b5, o5, rfl, y0, y1⟩ := load_fd (R6.out.below B7) hjl
              rw [hf.out] at y0 y1
              obtain ⟨hql, hqe⟩ := List.getElem?_eq_some_iff.1 hfq.out
              obtain ⟨b6, o6, rfl, z0, z1⟩ := load_fd (Rd.of_ownS K7.out.own) hql
              rw [hqe] at z0 z1
              simp only at y0 y1 z0 z1
              have R7r := Lib.hid hR7
              replace B7 := Lib.hid B7
              replace hW7 := Lib.hid hW7
              replace hgb := Lib.hid hgb
              clear b67 hR7 Kc bc Bc HK hql hqe
              go_big_quiet (fail)
              clear y0 y1 z0 z1
              go_wp2_with fail
              refine (size_at x y s1 _ hs1.out hs1b).mono ?_
              rintro e wd ⟨rfl, bd⟩
              have bd2 := (Still.drewN W7 nq).below.trans (bd.mono (Still.drewN W7 nq).below.size)
              have K8 := Lib.hid (K7.out.bel bd2)
              have B8 := Lib.hid (B7.out.trans (bd2.mono B7.out.size))
              clear bd bd2 K7 B7 x0 x1
              go_wp2_with fail
              go_roundw
              case rel => exact ⟨j + 1, v2, by omega, by go_num, rfl, hv2u, HV2, Lib.hid ⟨K8.out, B8.out⟩⟩
              case measure => simp [intOf]; omega
            · have hjL' : j = L := by omega
              have hvu : v = u2 := by have := HV.out; rw [hjL', List.take_of_length_le (by rw [hL.out]; exact Nat.le_refl _), hu2l.out] at this; exact this
              subst hvu
              have K9 := Lib.hid HK.out.1
              replace hjL' := Lib.hid hjL'
              have hzI := hz1.out
              clear HK HV
              go_wp2_with fail
              (with_reducible refine (kp_get K9.out ⟨#[]⟩ ⟨#[]⟩ false z hz2 hz4.out hz5.out).mono ?_)
              rintro e we ⟨rfl, Ke, be⟩
              have x0 := fun o => (Ke.bel ((Below.refl _ we).alloc (Nat.le_refl _) o)).box.cell 0 _ rfl
              have x1 := fun o => (Ke.bel ((Below.refl _ we).alloc (Nat.le_refl _) o)).box.cell 1 _ rfl
              replace Ke := Lib.hid Ke
              clear be K9 hzI
              go_wp2_with fail
              obtain ⟨W9, hW9⟩ : ∃ W9, we.alloc (.cells #[.string ⟨#[]⟩, .string ⟨#[]⟩] 28) = W9 := ⟨_, rfl⟩
              have b9 := (Below.refl _ we).alloc (Nat.le_refl _) (.cells #[.string ⟨#[]⟩, .string ⟨#[]⟩] 28)
              rw [hW9] at b9 ⊢
              have Kf := Lib.hid (Ke.out.bel b9)
              replace hW9 := Lib.hid hW9
              clear b9 Ke
              refine (kp_find Kf.out N true true nv fv hfnd2.out).mono ?_
              rintro e wg ⟨rfl, Kg, bg⟩
              replace Kg := Lib.hid Kg
              clear bg x0 x1 Kf
              have dm : decide ((most : Int) < (v : Int)) = false := decide_eq_false (by omega)
              have dm' : decide (most < v) = false := decide_eq_false (by omega)
              go_wp2_with fail
              refine (kp_used Kg.out v hu2.out).mono ?_
              rintro e wh ⟨rfl, rfl⟩
              go_wp2_with fail
              refine (kp_count Kg.out N1 NE1.out).mono ?_
              rintro e wi ⟨rfl, Ki, bi⟩
              replace Ki := Lib.hid Ki
              clear bi Kg
              go_wp2_with fail
              go_roundw
              case rel => exact ⟨k + 1, N1, c8, A8, by omega, by go_num, rfl, Lib.hid (by rw [← hTT.out]; exact ⟨_, NE1.out, Ki.out.ke rfl NE1.out⟩)⟩
              case measure => simp [intOf]; omega
        · have hle : most < sz := by have := of_decide_eq_false hft2.out; omega
          have HF' : T' = T := by rw [← hT'.out]; exact T.ins_no _ (by rw [hfsz.out, hTm.out]; exact hle)
          have hN30 : N ≤ 31 := by have := hN.out; omega
          have NE1 : Hid (T'.F.length = N) := Lib.hid (by rw [HF']; exact hN.out)
          obtain ⟨b1, hb1⟩ : ∃ b1, T'.find ⟨nv, fv⟩ = b1 := ⟨_, rfl⟩
          obtain ⟨fa, f1, f2⟩ := b1
          rw [← HF'] at K3 hu
          replace hle := Lib.hid hle
          replace HF' := Lib.hid HF'
          have hfnd := Lib.hid hb1
          clear hft hftI hff hb1
          go_wp2_with fail
          refine (kp_used K3.out u hu.out).mono ?_
          rintro e w9 ⟨rfl, rfl⟩
          clear x0 x1
          -- all the calls behind
          have hL1 := T'.len_add OK'.out
          obtain ⟨l, hl⟩ : ∃ l, T'.l = l := ⟨_, rfl⟩
          obtain ⟨L, hL⟩ : ∃ L, l.length = L := ⟨_, rfl⟩
          obtain ⟨G, hG⟩ : ∃ G, T'.gone = G := ⟨_, rfl⟩
          obtain ⟨u2, hu2⟩ : ∃ u2, T'.used = u2 := ⟨_, rfl⟩
          have hu2m : u2 ≤ most := by have := OK'.out.used; rw [hu2, M'.out] at this; exact this
          have hu2l : tsum l = u2 := by rw [← hl]; exact hu2
          rw [hl, hL, hG, NE1.out] at hL1
          have hget : Hid (∀ j, j < L → T'.get (G + j) = l[j]?) := Lib.hid (fun j hj => by
            unfold Tb.get
            rw [if_pos (by omega), ← hl, Tb.l, List.getElem?_drop, hG])
          have hFl : Hid (∀ j, j < L → T'.F[G + j]? = l[j]?) := Lib.hid (fun j hj => by
            rw [← hl, Tb.l, List.getElem?_drop, hG])
          have hGN : (N : Int) - (L : Int) = (G : Int) := by omega
          have hNs : N ≤ 31 := hN30
          have hGs : G ≤ 31 := by omega
          have hLs : L ≤ 31 := by omega
          have hw1 : IntKind.u64.wrap (N : Int) = (N : Int) := by rw [IntKind.wrap_u64]; omega
          have d2 : decide ((N : Int) < (L : Int)) = false := decide_eq_false (by omega)
          have d2' : decide (N < L) = false := decide_eq_false (by omega)
          obtain ⟨z, hz1, hz2, hz3⟩ := get_before T' G hG (by omega) (by rw [NE1.out]; omega)
          replace hl := Lib.hid hl
          replace hL := Lib.hid hL
          replace hG := Lib.hid hG
          replace hu2 := Lib.hid hu2
          replace hu2l := Lib.hid hu2l
          have hz4 : Hid ((T'.get z).getD fd0 = ⟨⟨#[]⟩, ⟨#[]⟩⟩) := Lib.hid (by rw [hz3]; rfl)
          have hz5 : Hid ((T'.get z).isSome = false) := Lib.hid (by rw [hz3]; rfl)
          clear hz3
          replace hz1 := Lib.hid hz1
          go_wp2_with fail
          refine (kp_list K3.out l L hl.out hL.out).mono ?_
          rintro e wa ⟨A5, c5, rfl, R5, K5⟩
          replace K5 := Lib.hid K5
          clear K3
          go_wp2_with fail
          refine (kp_count K5.out N NE1.out).mono ?_
          rintro e wb ⟨rfl, K6, bb⟩
          have R6 := Lib.hid (R5.below bb)
          replace K6 := Lib.hid K6
          clear bb R5 K5
          go_wp2_with fail
          clear d2 d2' hw1
          go_loopw [13, 15] (fun s i wq => ∃ (j v : Nat), j ≤ L ∧ i = .int .i64 j ∧ s = .int .i64 v ∧ v ≤ u2 ∧ Hid (v = tsum (l.take j)) ∧ Hid (KpSt w wq P1 p T' An N cn T'.F fb nv fv ∧ Below wb.heap.size wb wq)) (fun _ i _ => L - (intOf i).toNat)
          case atStart => exact ⟨0, 0, by omega, rfl, rfl, by omega, Lib.hid rfl, Lib.hid ⟨K6.out, Below.refl _ _⟩⟩
          case round =>
            clear K6
            obtain ⟨j, v, hj, rfl, rfl, hv, HV, HK⟩ := hrel
            by_cases hjL : j < L
            · rename_i aa; clear aa
              have hjl : j < l.length := by rw [hL.out]; omega
              obtain ⟨f, hf⟩ : ∃ f, l[j] = f := ⟨_, rfl⟩
              obtain ⟨x, y⟩ := f
              obtain ⟨q1, hq1⟩ : ∃ q1, G + j = q1 := ⟨_, rfl⟩
              have hqI : (G : Int) + (j : Int) = (q1 : Int) := by omega
              have hqw : IntKind.u64.wrap (q1 : Int) = (q1 : Int) := by rw [IntKind.wrap_u64]; omega
              have hgq := hget.out j (by omega)
              have hfq := hFl.out j (by omega)
              rw [hq1, List.getElem?_eq_getElem hjl, hf] at hgq hfq
              obtain ⟨s1, hs1⟩ : ∃ s1, x.size + y.size + 32 = s1 := ⟨_, rfl⟩
              have hts := tsum_take l j ⟨x, y⟩ (by rw [List.getElem?_eq_getElem hjl, hf])
              have hts2 : tsum (l.take (j + 1)) = v + s1 := by rw [hts, ← HV.out, ← hs1]; rfl
              have htle := tsum_take_le l (j + 1)
              rw [hts2, hu2l.out] at htle
              obtain ⟨v2, hv2⟩ : ∃ v2, v + s1 = v2 := ⟨_, rfl⟩
              have hv2I : (v : Int) + (s1 : Int) = (v2 : Int) := by omega
              have hv2u : v2 ≤ u2 := by omega
              have hs1b : s1 ≤ 1000000 := by omega
              have HV2 : Hid (v2 = tsum (l.take (j + 1))) := Lib.hid (by omega)
              have hq1N : (q1 : Int) < (N : Int) := by omega
              have hjI : (j : Int) < (L : Int) := by omega
              replace hs1 := Lib.hid hs1
              replace hq1 := Lib.hid hq1
              replace hgq := Lib.hid hgq
              replace hfq := Lib.hid hfq
              replace hf := Lib.hid hf
              clear hts hts2 htle hv2 HV
              go_wp2_with fail
              refine (kp_get HK.out.1 x y true q1 (by omega) (by rw [hgq.out]; rfl) (by rw [hgq.out]; rfl)).mono ?_
              rintro e wc2 ⟨rfl, Kc, bc⟩
              have Bc := HK.out.2.trans (bc.mono HK.out.2.size)
              go_wp2_with fail
              obtain ⟨W7, hW7⟩ : ∃ W7, wc2.alloc (.cells #[.string x, .string y] 28) = W7 := ⟨_, rfl⟩
              have b67 := (Below.refl _ wc2).alloc (Nat.le_refl _) (.cells #[.string x, .string y] 28)
              have hR7 := HasRow.new wc2 28 #[.string x, .string y]
              rw [hW7] at b67 hR7 ⊢
              obtain ⟨gb, hgb⟩ : ∃ gb, wc2.heap.size = gb := ⟨_, rfl⟩
              have K7 := Lib.hid (Kc.bel b67)
              have B7 := Bc.trans (b67.mono Bc.size)
              rw [hgb] at hR7 ⊢
              have x0 := hR7.cell 0 _ rfl
              have x1 := hR7.cell 1 _ rfl
              obtain ⟨b5, o5, rfl, y0, y1⟩ := load_fd (R6.out.below B7) hjl
              rw [hf.out] at y0 y1
              obtain ⟨hql, hqe⟩ := List.getElem?_eq_some_iff.1 hfq.out
              obtain ⟨b6, o6, rfl, z0, z1⟩ := load_fd (Rd.of_ownS K7.out.own) hql
              rw [hqe] at z0 z1
              simp only at y0 y1 z0 z1
              have R7r := Lib.hid hR7
              replace B7 := Lib.hid B7
              replace hW7 := Lib.hid hW7
              replace hgb := Lib.hid hgb
              clear b67 hR7 Kc bc Bc HK hql hqe
              go_big_quiet (fail)
              clear y0 y1 z0 z1
              go_wp2_with fail
              refine (size_at x y s1 _ hs1.out hs1b).mono ?_
              rintro e wd ⟨rfl, bd⟩
              have bd2 := (Still.drewN W7 nq).below.trans (bd.mono (Still.drewN W7 nq).below.size)
              have K8 := Lib.hid (K7.out.bel bd2)
              have B8 := Lib.hid (B7.out.trans (bd2.mono B7.out.size))
              clear bd bd2 K7 B7 x0 x1
              go_wp2_with fail
              go_roundw
              case rel => exact ⟨j + 1, v2, by omega, by go_num, rfl, hv2u, HV2, Lib.hid ⟨K8.out, B8.out⟩⟩
              case measure => simp [intOf]; omega
            · have hjL' : j = L := by omega
              have hvu : v = u2 := by have := HV.out; rw [hjL', List.take_of_length_le (by rw [hL.out]; exact Nat.le_refl _), hu2l.out] at this; exact this
              subst hvu
              have K9 := Lib.hid HK.out.1
              replace hjL' := Lib.hid hjL'
              have hzI := hz1.out
              clear HK HV
              go_wp2_with fail
              (with_reducible refine (kp_get K9.out ⟨#[]⟩ ⟨#[]⟩ false z hz2 hz4.out hz5.out).mono ?_)
              rintro e we ⟨rfl, Ke, be⟩
              have x0 := fun o => (Ke.bel ((Below.refl _ we).alloc (Nat.le_refl _) o)).box.cell 0 _ rfl
              have x1 := fun o => (Ke.bel ((Below.refl _ we).alloc (Nat.le_refl _) o)).box.cell 1 _ rfl
              replace Ke := Lib.hid Ke
              clear be K9 hzI
              go_wp2_with fail
              obtain ⟨W9, hW9⟩ : ∃ W9, we.alloc (.cells #[.string ⟨#[]⟩, .string ⟨#[]⟩] 28) = W9 := ⟨_, rfl⟩
              have b9 := (Below.refl _ we).alloc (Nat.le_refl _) (.cells #[.string ⟨#[]⟩, .string ⟨#[]⟩] 28)
              rw [hW9] at b9 ⊢
              have Kf := Lib.hid (Ke.out.bel b9)
              replace hW9 := Lib.hid hW9
              clear b9 Ke
              refine (kp_find Kf.out fa f1 f2 nv fv hfnd.out).mono ?_
              rintro e wg ⟨rfl, Kg, bg⟩
              replace Kg := Lib.hid Kg
              clear bg x0 x1 Kf
              have dm : decide ((most : Int) < (v : Int)) = false := decide_eq_false (by omega)
              have dm' : decide (most < v) = false := decide_eq_false (by omega)
              go_wp2_with fail
              refine (kp_used Kg.out v hu2.out).mono ?_
              rintro e wh ⟨rfl, rfl⟩
              go_wp2_with fail
              go_roundw
              case rel => exact ⟨k + 1, N, cn, An, by omega, by go_num, rfl, Lib.hid (by rw [← hTT.out]; exact ⟨_, NE1.out, Kg.out.ke rfl NE1.out⟩)⟩
              case measure => simp [intOf]; omega
    · have hb := Lib.hid HS.bl
      clear HS
      go_wp2_with fail
      refine (awake_any _).mono ?_
      rintro e wf ⟨rfl, hbf⟩
      go_wp2_with fail
      go_ret
      exact ⟨rfl, hb.out.trans (hbf.mono hb.out.size)⟩
set_option maxRecDepth 100000 in
set_option maxHeartbeats 2000000 in
theorem keeps_any (gs : List Int) (m0 : Int) (A : Option Addr) (cap : Nat) (w : World) (hr : Rd w A (gs.map (Value.int .i64))) (hc : gs.length ≤ 9223372036854775807) :
    Calls Try.prog 6 #[.int .i64 m0, .slice A gs.length cap] w fun e w' => e = .returned (.bool true) ∧ Below w.heap.size w w' := by
  obtain ⟨n, hn⟩ : ∃ n, gs.length = n := ⟨_, rfl⟩
  rw [hn] at hc ⊢
  by_cases h : n ≤ 30
  · exact keeps_in gs m0 A cap n w hn hr h
  · have b2 : decide ((30 : Int) < (n : Int)) = true := decide_eq_true (by omega)
    clear hn hr
    go_enter Try.func6, Try.ntmps6
    go_wp2_with fail
    refine (awake_any _).mono ?_
    rintro e wf ⟨rfl, hbf⟩
    go_wp2_with fail
    go_ret
    exact ⟨rfl, hbf⟩
end Go.Proofs.Ytgcnhppafclnmaa
