/- cids: the pool as an object; its calls in the form in which the laws use them. -/
import Derived.Test.YtgmanhbfdjlhbaaCdM
import Derived.Test.YtgmanhbfdjlhbaaAt
namespace Go.Proofs.Ytgmanhbfdjlhbaa
open Go.RowKit

/-- A pool, its blocks, what it holds. -/
def OC (w : World) (p : Nat) (S : Nat → Prop) (s : Cd) : Prop := ∃ A c l, IsCd w p A c l s.use ∧ nms l = s.l ∧ 0 < l.length ∧ (∃ r, SimC s r) ∧ S = OnC p A l
theorem okC : ObjOk OC :=
  ⟨fun ⟨A, c, l, h, e1, e2, e3, e4⟩ f hS => ⟨A, c, l, h.fr f (fun k hk => hS k (by rw [e4]; exact hk)), e1, e2, e3, e4⟩, fun ⟨A, c, l, h, _, _, _, e4⟩ k hk => by rw [e4] at hk; exact h.on_lt k hk⟩

/-- A call that hands back a new row, which is guarded from then on; the object's blocks are the ones that it had. -/
theorem At.stepG {σ : Type} {I : World → Nat → (Nat → Prop) → σ → Prop} {P S S' : Nat → Prop} {w w' : World} {p : Nat} {s' : σ} {e : TypeId} {sz n : Nat} {v : Value} {xs : List Value} (hn : ∀ k, S k → ¬ P k) (hlt : ∀ k, P k → k < w.heap.size) (hS : ∀ k, S k → k < w.heap.size) (I' : I w' p S' s') (F : Fr S w w') (N : ∀ k, S' k → S k) (o : w'.ownsRow w.heap.size e sz v n xs) :
    At I (fun k => P k ∨ v.ownBlock = some k) w' p s' ∧ Fr (NotP P) w w' := by
  refine ⟨⟨⟨S', I', fun k hk hp => ?_⟩, fun k hk => ?_⟩, F.mono (fun k hk _ => hn k hk)⟩
  · rcases hp with hp | hp
    · exact hn k (N k hk) hp
    · have := (o.lt k hp).1; have := hS k (N k hk); omega
  · rcases hk with hk | hk
    · have := hlt k hk; have := F.size; omega
    · exact (o.lt k hk).2
section
variable {l : List Nx}
theorem fidx_find (r : Nx → Bool) (l : List Nx) : (fidx r l = -1 ∧ l.find? r = none) ∨ ∃ (k : Nat) (hk : k < l.length), fidx r l = k ∧ l.find? r = some l[k] := by
  unfold fidx
  rcases h : l.findIdx? r with _ | k
  · left
    refine ⟨rfl, ?_⟩
    rw [List.findIdx?_eq_none_iff] at h
    rw [List.find?_eq_none]
    intro x hx
    rw [h x hx]; simp
  · right
    obtain ⟨hk, hr, hb⟩ := List.findIdx?_eq_some_iff_getElem.1 h
    exact ⟨k, hk, rfl, List.find?_eq_some_iff_getElem.2 ⟨hr, k, hk, rfl, fun j hj => by simpa using hb j hj⟩⟩
theorem nms_find (r : Nm → Bool) (l : List Nx) : (nms l).find? r = (l.find? fun n => r n.x).map Nx.x := by
  unfold nms; rw [List.find?_map]; rfl
theorem cat_pick (l : List Nx) (q : Int) : (cpick (nms l) q = none → cat l q = -1) ∧ ∀ x, cpick (nms l) q = some x → ∃ (k : Nat) (hk : k < l.length), cat l q = k ∧ (l[k]).x = x := by
  unfold cpick cat
  rw [nms_find, nms_find]
  rcases fidx_find (fun n => decide (n.x.path = q)) l with ⟨e1, e2⟩ | ⟨k, hk, e1, e2⟩
  · have e2' : (l.find? fun n => decide (n.x.path = q)) = none := e2
    rw [e2', e1, if_pos (by omega), Option.map_none, Option.none_or]
    rcases fidx_find (fun n => n.x.free) l with ⟨e3, e4⟩ | ⟨j, hj, e3, e4⟩
    · have e4' : (l.find? fun n => Nm.free n.x) = none := e4
      rw [e4', e3]
      exact ⟨fun _ => rfl, fun x hx => by cases hx⟩
    · have e4' : (l.find? fun n => Nm.free n.x) = some l[j] := e4
      rw [e4', e3]
      exact ⟨fun h => (by cases h), fun x hx => ⟨j, hj, rfl, by injection hx⟩⟩
  · have e2' : (l.find? fun n => decide (n.x.path = q)) = some l[k] := e2
    rw [e2', e1, if_neg (by omega), Option.map_some, Option.some_or]
    exact ⟨fun h => (by cases h), fun x hx => ⟨k, hk, rfl, by injection hx⟩⟩
theorem cset_nms (rise : (nms l).Pairwise (fun a b => a.seq < b.seq)) {k : Nat} (hk : k < l.length) (q : Int) : nms (l.set k (nxp l[k] q)) = cset (nms l) (l[k]).x.seq q := by
  unfold cset nms
  apply List.ext_getElem?
  intro i
  rw [List.getElem?_map, List.getElem?_set, List.getElem?_map, List.getElem?_map]
  by_cases h : k = i
  · subst h
    rw [if_pos rfl, if_pos hk, List.getElem?_eq_getElem hk]
    simp [nxp]
  · rw [if_neg h]
    rcases hi : l[i]? with _ | y
    · rfl
    · obtain ⟨hil, rfl⟩ := List.getElem?_eq_some_iff.1 hi
      have hne : (l[i]).x.seq ≠ (l[k]).x.seq := by
        rcases Nat.lt_or_ge k i with h1 | h1
        · have := List.pairwise_iff_getElem.1 rise k i (by simpa using hk) (by simpa using hil) h1
          simp only [List.getElem_map] at this
          omega
        · have := List.pairwise_iff_getElem.1 rise i k (by simpa using hil) (by simpa using hk) (by omega)
          simp only [List.getElem_map] at this
          omega
      simp [hne]
theorem cret_nms (use : Int) : nms (l.map (nxr use)) = (nms l).map fun x => if x.old use then { x with told := true } else x := by
  unfold nms
  rw [List.map_map, List.map_map]
  refine List.map_congr_left fun n _ => ?_
  show (nxr use n).x = if n.x.old use then { n.x with told := true } else n.x
  unfold nxr nxt
  split <;> rfl
theorem rou_nms (use : Int) : rou use l l.length = ((nms l).filter (Nm.old use)).map Nm.seq := by
  unfold rou nms
  rw [List.take_length, List.filter_map, List.map_map]
  rfl
end
section
variable {P : Nat → Prop} {w : World} {p : Nat} {s : Cd}
theorem cnew_at (hP : ∀ k, P k → k < w.heap.size) (first : List UInt8) (A : Option Addr) (c : Nat) (h8 : first.length = 8) (hr : Rd w A (bv first)) : Calls Try.prog 9 #[.slice A 8 c] w fun e w' =>
    ∃ p, e = .returned (.pointer (some ⟨p, 0, none⟩)) ∧ At OC P w' p (cnew first) ∧ Below w.heap.size w w' ∧ w.heap.size ≤ p := by
  refine (cnew_any first A c w h8 hr).mono ?_
  rintro e w' ⟨p, A', c', rfl, hp, hI, hb, hA⟩
  refine ⟨p, rfl, At.new hP ⟨A', c', _, hI, rfl, by simp, ⟨_, SimC.new first h8⟩, rfl⟩ hb (fun k hk => ?_), hb, hp⟩
  rcases hk with hk | ⟨a, ha, hk⟩ | ⟨n, hn, a, ha, hk⟩
  · omega
  · have := hA a ha; omega
  · rw [List.mem_singleton.1 hn] at ha; cases ha
theorem cadd_at (v : Int) (s' : Cd) (h : At OC P w p s) (q : Nat) (cid tok : List UInt8) (C B : Option Addr) (nc nb cc cb : Nat) (hnc : cid.length = nc) (hnb : tok.length = nb) (hC : Rd w C (bv cid)) (hB : Rd w B (bv tok)) (hl : s.l.length ≤ 99) (hv : caddE s.l q cid tok = v) (hs' : cadd s q cid tok = s') :
    Calls Try.prog 11 #[.pointer (some ⟨p, 0, none⟩), .int .u64 (q : Int), .slice C nc cc, .slice B nb cb] w fun e w' => e = .returned (.int .i64 v) ∧ At OC P w' p s' ∧ Fr (NotP P) w w' := by
  obtain ⟨⟨S, ⟨A, c, l, hI, e1, e2, ⟨r, hr⟩, rfl⟩, hn⟩, hlt⟩ := h
  subst hv hs' hnc hnb
  by_cases hf : cid.length = 8 ∧ tok.length = 16
  · obtain ⟨h8, h16⟩ := hf
    rw [h8, h16]
    have hs : (⟨nms l, s.use⟩ : Cd) = s := by rw [e1]
    refine (cadd_any0 hI (by have := congrArg List.length e1; rw [List.length_map] at this; omega) (by rw [e1]; exact hr.rise) (by rw [e1]; exact hr.ne) q cid tok C B cc cb h8 h16 hC hB).mono ?_
    rintro e w' ⟨rfl, A', c', l', I', m', F', N'⟩
    rw [e1]
    refine ⟨rfl, At.step hn hlt ⟨A', c', l', ?_, ?_, ?_, ⟨_, hr.add q cid tok⟩, rfl⟩ (F'.mono (fun k hk _ => ?_)) N'⟩
    · have : (cadd s q cid tok).use = s.use := by unfold cadd; split <;> rfl
      rw [this]; exact I'
    · rw [m', hs]
    · have hlen := congrArg List.length m'
      rw [List.length_map, hs] at hlen
      have hl0 := congrArg List.length e1
      rw [List.length_map] at hl0
      rw [hlen]
      unfold cadd
      split
      · rw [(cins_perm _ _).length_eq]; simp
      · omega
    · rcases hk with hk | hk
      · exact .inl hk
      · exact .inr (.inl hk)
  · refine (cadd_form_any q C B _ cc _ cb w hf).mono ?_
    rintro e w' ⟨rfl, rfl⟩
    obtain ⟨f1, f2⟩ := cadd_form (q := q) (use := s.use) hf s.l
    have hs : cadd s q cid tok = s := by
      unfold cadd caddN; rw [decide_eq_false hf]; rfl
    rw [f1, hs]
    exact ⟨rfl, ⟨⟨_, ⟨A, c, l, hI, e1, e2, ⟨r, hr⟩, rfl⟩, hn⟩, hlt⟩, Fr.refl _ _⟩
theorem cfree_at (v : Nat) (h : At OC P w p s) (hv : cfree s.l = v) : Calls Try.prog 12 #[.pointer (some ⟨p, 0, none⟩)] w fun e w' => e = .returned (.int .i64 v) ∧ Below w.heap.size w w' := by
  obtain ⟨⟨S, ⟨A, c, l, hI, e1, _⟩, _⟩, _⟩ := h
  rw [← hv, ← e1]
  exact cfree_any hI
theorem ctok_at (v : Bool) (h : At OC P w p s) (t : List UInt8) (B : Option Addr) (m d : Nat) (hm : t.length = m) (ht : Rd w B (bv t)) (hv : ctok s.l t = v) :
    Calls Try.prog 23 #[.pointer (some ⟨p, 0, none⟩), .slice B m d] w fun e w' => e = .returned (.bool v) ∧ Below w.heap.size w w' := by
  obtain ⟨⟨S, ⟨A, c, l, hI, e1, _⟩, _⟩, _⟩ := h
  rw [← hv, ← e1]
  exact ctoken_any hI t B m d hm ht
theorem cforn_at (s' : Cd) (h : At OC P w p s) (q : Int) (hs : cforBy cpick s q = (s', none)) : Calls Try.prog 16 #[.pointer (some ⟨p, 0, none⟩), .int .i64 q] w fun e w' =>
    e = .returned (.tuple #[.slice none 0 0, .bool false]) ∧ s' = s ∧ Below w.heap.size w w' := by
  obtain ⟨⟨S, ⟨A, c, l, hI, e1, _⟩, _⟩, _⟩ := h
  have hh : s' = s ∧ (q < 0 ∨ cat l q = -1) := by
    unfold cforBy at hs
    split at hs
    · injection hs with h1; exact ⟨h1.symm, .inl (by assumption)⟩
    · split at hs
      · rename_i hp
        injection hs with h1
        rw [← e1] at hp
        exact ⟨h1.symm, .inr ((cat_pick l q).1 hp)⟩
      · injection hs with _ h2; cases h2
  refine (cfor_no hI q hh.2).mono ?_
  rintro e w' ⟨rfl, hb⟩
  exact ⟨rfl, hh.1, hb⟩
theorem cfory_at (s' : Cd) (id : List UInt8) (h : At OC P w p s) (q : Int) (hs : cforBy cpick s q = (s', some id)) : Calls Try.prog 16 #[.pointer (some ⟨p, 0, none⟩), .int .i64 q] w fun e w' =>
    ∃ A2 c2, e = .returned (.tuple #[.slice A2 8 c2, .bool true]) ∧ w'.ownsRow w.heap.size 5 1 (.slice A2 8 c2) 8 (bv id) ∧ id.length = 8 ∧ At OC (fun k => P k ∨ (Value.slice A2 8 c2).ownBlock = some k) w' p s' ∧ Fr (NotP P) w w' := by
  obtain ⟨⟨S, ⟨A, c, l, hI, e1, e2, ⟨r, hr⟩, rfl⟩, hn⟩, hlt⟩ := h
  have hsim := hr.for q
  rw [hs] at hsim
  unfold cforBy at hs
  split at hs
  · injection hs with _ h2; cases h2
  · rename_i h0
    split at hs
    · injection hs with _ h2; cases h2
    · rename_i x hp
      injection hs with h1 h2
      injection h2 with h2
      rw [← e1] at hp
      obtain ⟨k, hk, hc, hx⟩ := (cat_pick l q).2 x hp
      refine (cfor_yes hI q (by omega) k hc hk).mono ?_
      rintro e w' ⟨A2, c2, rfl, o2, I2, F2⟩
      rw [hx, h2] at o2
      refine ⟨A2, c2, rfl, o2, by rw [← h2, ← hx]; exact hI.ids _ (List.getElem_mem hk), At.stepG hn hlt (fun k hk => hI.on_lt k hk) ⟨A, c, l.set k (nxp l[k] q), ?_, ?_, by rw [List.length_set]; exact e2, ⟨_, hsim.1⟩, rfl⟩ (F2.mono (fun j hj _ => ?_)) (fun j hj => ?_) o2⟩
      · rw [← h1]; exact I2
      · rw [← h1, cset_nms (by rw [e1]; exact hr.rise) hk, hx, e1]
      · rcases hj with hj | hj
        · exact .inl hj
        · exact .inr (.inl hj)
      · rcases hj with hj | hj | ⟨n, hn2, a, ha, hj⟩
        · exact .inl hj
        · exact .inr (.inl hj)
        · refine .inr (.inr ?_)
          rcases set_mem hk _ n hn2 with e | e
          · rw [e] at ha; exact ⟨l[k], List.getElem_mem hk, a, ha, hj⟩
          · exact ⟨n, e, a, ha, hj⟩
theorem cret_at (s' : Cd) (out : List Nat) (m : Nat) (h : At OC P w p s) (hs : cret s = (s', out)) (hm : out.length = m) : Calls Try.prog 20 #[.pointer (some ⟨p, 0, none⟩)] w fun e w' =>
    ∃ A2 c2, e = .returned (.slice A2 m c2) ∧ w'.ownsRow w.heap.size 31 1 (.slice A2 m c2) m (nv out) ∧ At OC (fun k => P k ∨ (Value.slice A2 m c2).ownBlock = some k) w' p s' ∧ Fr (NotP P) w w' := by
  obtain ⟨⟨S, ⟨A, c, l, hI, e1, e2, ⟨r, hr⟩, rfl⟩, hn⟩, hlt⟩ := h
  have hsim := hr.ret
  rw [hs] at hsim
  unfold cret at hs
  injection hs with h1 h2
  refine (cret_any hI e2).mono ?_
  rintro e w' ⟨A2, c2, rfl, o2, I2, F2⟩
  rw [rou_nms, e1, h2] at o2 ⊢
  rw [hm] at o2 ⊢
  refine ⟨A2, c2, rfl, o2, At.stepG hn hlt (fun k hk => hI.on_lt k hk) ⟨A, c, l.map (nxr s.use), ?_, ?_, by rw [List.length_map]; exact e2, ⟨_, hsim.1⟩, rfl⟩ (F2.mono (fun j hj _ => ?_)) (fun j hj => ?_) o2⟩
  · rw [← h1]; exact I2
  · rw [← h1, cret_nms, e1]
  · rcases hj with hj | hj
    · exact .inl hj
    · exact .inr (.inl hj)
  · rcases hj with hj | hj | ⟨n, hn2, a, ha, hj⟩
    · exact .inl hj
    · exact .inr (.inl hj)
    · refine .inr (.inr ?_)
      obtain ⟨x, hx, rfl⟩ := List.mem_map.1 hn2
      refine ⟨x, hx, a, ?_, hj⟩
      rw [← ha]; unfold nxr; split <;> rfl
end
end Go.Proofs.Ytgmanhbfdjlhbaa
