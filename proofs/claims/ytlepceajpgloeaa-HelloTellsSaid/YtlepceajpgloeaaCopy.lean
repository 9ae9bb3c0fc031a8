/- The builtin copy of bytes into a row that is known whole: what the row is then, and that nothing else turns. -/
import Derived.Test.YtlepceajpgloeaaCut
import Derived.Laws.CopyOwn
namespace Go.Proofs.Ytlepceajpgloeaa
open Go.RowKit

theorem wpList_copyB {P : Program} {w : World} {ops : Array Oper} {rest : List Oper} {o : Oper} {a : Act} {Q : Exit → Act → World → Prop} (hgd : o.guard = none) (d s : Operand) (dT sT : TypeId)
    (ho : o.op = .call { callee := .builtin .copy, args := #[d, s], argTypes := #[dT, sT] }) (elem : TypeId) (hu : P.underlying dT = some (.slice elem)) (hsz : (P.info? elem).map (·.size) = some 1)
    (dp sp : Option Addr) (dLen dCap m sCap : Nat) (hd : a.eval d = .slice dp dLen dCap) (hs : a.eval s = .slice sp m sCap)
    (g off : Nat) (G b : List UInt8) (t : TypeId) (hg : w.heap[g]? = some (.cells (bv G).toArray t (0, 0))) (hb : b.length = m) (hm : m ≤ dLen) (hdp : 0 < m → dp = some ⟨g, off, none⟩) (hr : Rd w sp (bv b)) (hfit : off + m ≤ G.length)
    (h : ∀ w', w'.heap[g]? = some (.cells (bv (G.take off ++ b ++ G.drop (off + m))).toArray t (0, 0)) → Fr (· = g) w w' → wpList P ops Q rest (a.put o.dst (goInt m)) w') : wpList P ops Q (o :: rest) a w := by
  subst hb
  by_cases h0 : b.length = 0
  · obtain rfl : b = [] := List.eq_nil_of_length_eq_zero h0
    refine wpList_copy_nothing hgd d s dT sT ho elem hu hsz dp sp dLen dCap _ sCap hd hs (by simp) ?_
    exact h w (by simpa using hg) (Fr.refl _ _)
  · obtain rfl := hdp (by omega)
    obtain ⟨b0, o0, rfl, hc⟩ := hr (by simp; omega)
    refine wpList_copy_own hgd d s dT sT ho elem hu hsz g off dLen dCap ⟨b0, o0, none⟩ _ sCap hd hs (bv G).toArray t hg (bv b) (by rw [bv_length]; exact (Nat.min_eq_left hm).symm) (fun j v hv => by rw [WideShapes.add_plain]; exact hc j v hv) (by simpa using hfit) (bv_one _) ?_
    have e : (bv G).toArray.toList.take off ++ (bv b ++ (bv G).toArray.toList.drop (off + (bv b).length)) = bv (G.take off ++ b ++ G.drop (off + b.length)) := by
      simp [bv, List.map_take, List.map_drop]
    rw [e, bv_length]
    exact h _ (setRow_heap w g _ _ t _ hg) ⟨rfl, rfl, rfl, by simp, fun k _ hk => setRow_other w g k _ hk⟩
end Go.Proofs.Ytlepceajpgloeaa
