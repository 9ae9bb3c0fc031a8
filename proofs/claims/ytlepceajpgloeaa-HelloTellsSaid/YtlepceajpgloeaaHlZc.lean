/- hello: of: the document's own hello of a hello. -/
import Derived.Test.YtlepceajpgloeaaHlZb
import Derived.Test.YtlepceajpgloeaaHlU
namespace Go.Proofs.Ytlepceajpgloeaa
open Go.RowKit

theorem results_cell1 {P : Program} {fn : Func} {p : Nat} {ty : TypeId} (h : fn.results = #[.cell p ty]) (tmps : Array Value) (w : World) (g : Nat) (t : TypeId) (cs : Array Value) (d : TypeDesc)
    (hp : tmps.getD p undef = .pointer (some ⟨g, 0, none⟩)) (hg : w.heap[g]? = some (.cells cs t (0, 0)))
    (hu : P.underlying ty = some d) (hd : (match d with | .struct _ | .array _ _ => true | _ => false) = true) (hi : (P.info? ty).map (·.size) = some cs.size) :
    (results fn tmps).run P w = .ok (.agg cs) w := by
  have hp' : tmps[p]?.getD undef = .pointer (some ⟨g, 0, none⟩) := by simpa using hp
  simp [results, h, hp', asAddr, run_loadVar_row w g t ty cs (0, 0) d hg hu hd hi]
theorem build32q (s : Bool) (r : List UInt8) (A : Option Addr) (n c : Nat) (h : r.length = 32) (w : World) : (Instr.build 32 #[(0, .bool s), (1, .agg (bv r).toArray), (2, .slice A n c)]).run Try.prog w = .ok (.agg (hcl s r A n c)) w := by
  obtain ⟨x0, x1, x2, x3, x4, x5, x6, x7, x8, x9, x10, x11, x12, x13, x14, x15, x16, x17, x18, x19, x20, x21, x22, x23, x24, x25, x26, x27, x28, x29, x30, x31, rfl⟩ := list32 r h
  kernel_rfl
theorem hinfo32 : (Try.prog.info? 32).map (·.size) = some 34 := by kernel_rfl
set_option maxRecDepth 100000 in
set_option maxHeartbeats 2000000 in
theorem of_any (s : Bool) (r : List UInt8) (A : Option Addr) (n c : Nat) (w : World) (hr : r.length = 32) :
    Calls Try.prog 11 #[.agg (hcl s r A n c)] w fun e w' => e = .returned (.agg (hcl s r A n c)) ∧ Below w.heap.size w w' := by
  have HB := Lib.hid (fun W => build32q s r A n c hr W)
  have k0 := hcl_0 s r A n c
  have k33 := hcl_33 s r A n c hr
  have hL : Hid (hcl s r A n c = (hcs s r A n c).toArray) := Lib.hid rfl
  have h1 : Hid (∀ u ∈ hcs s r A n c, u.oneCell' = true) := Lib.hid (by
    intro u hu
    unfold hcs at hu
    rcases List.mem_cons.1 hu with rfl | hu
    · rfl
    · rcases List.mem_append.1 hu with hu | hu
      · exact bv_one _ u hu
      · rw [List.mem_singleton.1 hu]; rfl)
  have hsz : Hid ((hcs s r A n c).length = 34) := Lib.hid (by simp [hcs, hr])
  have HR : Hid (∀ o, ((w.alloc (.cells (hcl s r A n c) 27)).alloc o).rangeAt w.heap.size 1 (bv r)) := Lib.hid (fun o => by
    have H1 := heap_fr (heap_alloc_new w (.cells (hcl s r A n c) 27 (0, 0))) (Fr.of_below ((Below.refl _ (w.alloc (.cells (hcl s r A n c) 27 (0, 0)))).alloc (Nat.le_refl _) o) NoS) (fun x => x)
    intro j v hv
    rw [cell_of_row _ w.heap.size (1 + j) _ _ (0, 0) H1]
    exact hcl_r s r A n c j v hv)
  have H2 : Hid (∀ W : World, W.heap.size = w.heap.size + 1 → ∀ lit, (W.alloc (.cells lit 32)).heap[w.heap.size + 1]? = some (.cells lit 32 (0, 0))) := Lib.hid (fun W hW lit => by
    rw [← hW]; exact heap_alloc_new W _)
  have hs1 : Hid (∀ o, (w.alloc o).heap.size = w.heap.size + 1) := Lib.hid (fun o => by simp)
  obtain ⟨LS, hLS⟩ : ∃ LS, hcs s r A n c = LS := ⟨_, rfl⟩
  obtain ⟨cs, hcs'⟩ : ∃ cs, hcl s r A n c = cs := ⟨_, rfl⟩
  rw [hcs'] at HB k0 k33 HR hL ⊢
  rw [hLS] at hL h1 hsz
  have hbr : Hid ((bv r).length = 32) := Lib.hid (by rw [bv_length, hr])
  replace hLS := Lib.hid hLS
  replace hcs' := Lib.hid hcs'
  replace hr := Lib.hid hr
  go_enter Try.func11, Try.ntmps11
  go_wp2_with (first
    | (refine wpList_load_mid rfl 22 (.tmp 5) rfl w.heap.size 1 rfl (bv r) _ (HR.out _) Try.underlying22 rfl (by rw [hbr.out]; exact hinfo22) ?_)
    | (refine wpList_build rfl 32 #[(0, .tmp 4), (1, .tmp 6), (2, .tmp 8)] rfl (.agg cs) #[(0, .bool s), (1, .agg (bv r).toArray), (2, .slice A n c)] (by simp only [List.map_toArray, List.map_cons, List.map_nil]; rfl) (HB.out _) ?_; refine Hid.out ?_))
  refine Lib.hid ?_
  refine wpList_store_block rfl 32 (.tmp 2) (.tmp 9) rfl (w.heap.size + 1) 0 LS ?hx ?hy _ _ (H2.out _ (hs1.out _) _) ?hle (by rw [hsz.out]; exact hinfo32) h1.out ?_
  case hle => rw [hsz.out]; exact Nat.le_refl _
  case hx => rfl
  case hy => rw [← hL.out]; rfl
  intro w2 h2 F2
  go_wp2_with fail
  rw [over_full LS _ (by rw [hsz.out]; rfl), ← hL.out] at h2
  refine bodyPost_ret (results_cell1 Try.results11 _ w2 (w.heap.size + 1) 32 cs _ rfl h2 Try.underlying32 rfl (by rw [hL.out, List.size_toArray, hsz.out]; exact hinfo32)) rfl ?_
  exact ⟨rfl, Fr.under (((Below.refl _ w).alloc (Nat.le_refl _) _).alloc (by simp) _) (by simp; omega) F2 (fun k hk _ => by omega)⟩
end Go.Proofs.Ytlepceajpgloeaa
