/-
  The document's Set and Drop. Conditions: as stated.
-/
import Derived.Test.YthgdkmbcibfehaaDoorDcG
import Derived.Test.YthgdkmbcibfehaaDoorDcI
set_option maxRecDepth 100000
set_option linter.unusedSimpArgs false
set_option linter.unusedVariables false
namespace Go.Proofs.YthgdkmbcibfehaaDoor.DcJ
open Go.RowKit Go.Proofs.YthgdkmbcibfehaaDoor.Mem Go.Proofs.YthgdkmbcibfehaaDoor.DcA Go.Proofs.YthgdkmbcibfehaaDoor.DcB Go.Proofs.YthgdkmbcibfehaaDoor.DcC Go.Proofs.YthgdkmbcibfehaaDoor.DcD Go.Proofs.YthgdkmbcibfehaaDoor.DcE Go.Proofs.YthgdkmbcibfehaaDoor.DcF Go.Proofs.YthgdkmbcibfehaaDoor.DcG Go.Proofs.YthgdkmbcibfehaaDoor.DcH Go.Proofs.YthgdkmbcibfehaaDoor.DcI

theorem flds_one (l : List Fld) : ∀ u ∈ flds l, u.oneCell' = true := by
  intro u hu
  unfold flds at hu
  rw [List.mem_flatMap] at hu
  obtain ⟨f, _, h⟩ := hu
  simp at h
  rcases h with rfl | rfl <;> rfl
theorem flds_app (a b : List Fld) : flds (a ++ b) = flds a ++ flds b := by unfold flds; rw [List.flatMap_append]
theorem flds_take : ∀ (l : List Fld) (k : Nat), (flds l).take (k * 2) = flds (l.take k)
  | [], k => by simp [flds]
  | f :: l, 0 => by simp [flds]
  | f :: l, k + 1 => by
    have := flds_take l k
    show (Value.string f.1 :: Value.string f.2 :: flds l).take ((k + 1) * 2) = Value.string f.1 :: Value.string f.2 :: flds (l.take k)
    rw [show (k + 1) * 2 = k * 2 + 1 + 1 by omega, List.take_succ_cons, List.take_succ_cons, this]
theorem flds_drop : ∀ (l : List Fld) (k : Nat), (flds l).drop (k * 2) = flds (l.drop k)
  | [], k => by simp [flds]
  | f :: l, 0 => by simp [flds]
  | f :: l, k + 1 => by
    have := flds_drop l k
    show (Value.string f.1 :: Value.string f.2 :: flds l).drop ((k + 1) * 2) = flds (l.drop k)
    rw [show (k + 1) * 2 = k * 2 + 1 + 1 by omega, List.drop_succ_cons, List.drop_succ_cons, this]
theorem rdf_take {w : World} {A : Option Addr} {n c : Nat} {l : List Fld} (h : RdF w A n c l) {k : Nat} (hk : k ≤ n) : RdF w A k c (l.take k) := by
  have := Rd.take h hk
  rwa [flds_take] at this
theorem rdf_drop {w : World} {A : Option Addr} {n c : Nat} {l : List Fld} (h : RdF w A n c l) {k : Nat} (hk : k ≤ n) : RdF w (if c = k then A else A.map (·.add (k * 2))) (n - k) (c - k) (l.drop k) := by
  have := Rd.drop h hk
  rwa [flds_drop] at this
theorem app_F {ops : Array Oper} {rest : List Oper} {o : Oper} {a : Act} {Q : Exit → Act → World → Prop} {W : World} (hgd : o.guard = none) (s x : Operand)
    (ho : o.op = .call { callee := .builtin .append, args := #[s, x], argTypes := #[22, 22] })
    (w0 : World) (v : Value) (xs : List Fld) (hs : a.eval s = v) (hown : OwnF W w0.heap.size v xs) (hb : Below w0.heap.size w0 W)
    (A : Option Addr) (m c : Nat) (ys : List Fld) (hx : a.eval x = .slice A m c) (hr : RdF W A m c ys) (N : Nat) (zs : List Fld) (hzs : zs = xs ++ ys) (hN : N = zs.length) (hlen : N ≤ 2000000000)
    (h : ∀ A' c' w', OwnF w' w0.heap.size (.slice A' N c') zs → Below w0.heap.size w0 w' → wpList Tryd.prog ops Q rest (a.put o.dst (.slice A' N c')) w') :
    wpList Tryd.prog ops Q (o :: rest) a W := by
  obtain rfl := rdf_len hr
  subst hzs hN
  rw [List.length_append] at hlen
  refine wpList_app hgd s x elF ho w0.heap.size v xs.length (flds xs) hs hown A ys.length c (flds ys) hx hr (flds_one ys) (by unfold maxLen; omega) (by omega) hb.size ?_
  intro v' w' o1 f1 _
  have o2 : OwnF w' w0.heap.size v' (xs ++ ys) := by
    unfold OwnF
    rw [List.length_append, flds_app]
    exact o1
  obtain ⟨A', c', rfl⟩ := own_form o2
  exact h A' c' w' o2 (f1.after hb (Nat.le_refl _) (fun k hk => (hown.lt k hk).1))
theorem own_rd {w : World} {B : Nat} {v : Value} {l : List Fld} (h : OwnF w B v l) : ∃ A c, v = .slice A l.length c ∧ RdF w A l.length c l := by
  obtain ⟨A, c, rfl⟩ := own_form h
  exact ⟨A, c, rfl, Rd.of_own h⟩
theorem cut_tail (A : Option Addr) (n c k : Nat) (hk : k ≤ n) (w : World) :
    (Instr.slice 22 (.slice A n c) (some (.int .i64 k)) none none).run Tryd.prog w = .ok (.slice (if c = k then A else A.map (·.add (k * 2))) (n - k) (c - k)) w := by
  rw [run_slice_l w 22 A n c (by kernel_rfl) .i64 k (by omega) (by omega)]
  go_simp
set_option maxHeartbeats 4000000 in
theorem setR_calls (A : Option Addr) (n c : Nat) (l : List Fld) (k x : ByteArray) (w : World) (hr : RdF w A n c l) (hl : Ris l) (hn : n ≤ 1000000000) :
    Calls Tryd.prog 11 #[.slice A n c, .string k, .string x] w fun e w' => ∃ v, e = .returned (.tuple #[v, .bool (!(getL l k).isSome)]) ∧ OwnF w' w.heap.size v (setL l k x) ∧ Below w.heap.size w w' := by
  obtain rfl := rdf_len hr
  have hcap := hr.cap
  have hbig : c ≤ 9223372036854775807 := hr.big
  have hfind := find_calls A l.length c l k w hr hl hn
  have hp := pos_le l k
  have hS := set_pos hl k x
  obtain ⟨P, hP⟩ : ∃ P, P = posL l k := ⟨_, rfl⟩
  have hlt : (getL l k).isSome = true → P < l.length := fun h => by
    obtain ⟨s, hs⟩ := Option.isSome_iff_exists.1 h
    have := get_some_pos hl hs
    rw [hP]
    exact (List.getElem?_eq_some_iff.1 this).1
  rw [← hP] at hfind hp hS
  rw [hS]
  obtain ⟨b, hb⟩ : ∃ b, b = (getL l k).isSome := ⟨_, rfl⟩
  rw [← hb] at hfind hlt ⊢
  clear hS hP hb
  have Hr := Lib.hid hr
  clear hr
  rcases b with _ | _
  · rw [if_neg (by simp)]
    clear hlt
    have hltP : P ≤ l.length := hp
    obtain ⟨L1, hL1⟩ : ∃ L1, L1 = l.take P := ⟨_, rfl⟩
    obtain ⟨L2, hL2⟩ : ∃ L2, L2 = L1 ++ [(k, x)] := ⟨_, rfl⟩
    obtain ⟨L3, hL3⟩ : ∃ L3, L3 = L2 ++ l.drop P := ⟨_, rfl⟩
    obtain ⟨N, hN⟩ : ∃ N, N = P + 1 + (l.length - P) := ⟨_, rfl⟩
    obtain ⟨A4, hA4⟩ : ∃ A4, A4 = (if c = P then A else A.map (·.add (P * 2))) := ⟨_, rfl⟩
    obtain ⟨n4, hn4⟩ : ∃ n4, n4 = l.length - P := ⟨_, rfl⟩
    obtain ⟨c4, hc4⟩ : ∃ c4, c4 = c - P := ⟨_, rfl⟩
    have hcut := fun w => cut_tail A l.length c P hltP w
    have hrd : Hid (∀ w', Below w.heap.size w w' → RdF w' A4 n4 c4 (l.drop P)) := fun w' bb => by
      rw [hA4, hn4, hc4]
      exact rdf_drop (Hr.out.below bb) hltP
    rw [← hA4, ← hn4, ← hc4] at hcut
    have n1 : P = L1.length := by rw [hL1, List.length_take]; omega
    have n2 : P + 1 = L2.length := by rw [hL2, List.length_append, ← n1]; rfl
    have n3 : N = L3.length := by rw [hL3, List.length_append, ← n2, List.length_drop]; omega
    have hN2 : N ≤ 2000000000 := by omega
    have hfin : L3 = l.take P ++ (k, x) :: l.drop P := by rw [hL3, hL2, hL1, List.append_assoc]; rfl
    rw [← hfin]
    have N1 := Lib.hid n1
    have N2 := Lib.hid n2
    have N3 := Lib.hid n3
    have HL := Lib.hid (And.intro hL1 (And.intro hL2 hL3))
    clear n1 n2 n3 hL1 hL2 hL3 hfin hN hA4 hn4 hc4
    go_enter Tryd.func11, Tryd.ntmps11
    go_wp2_with fail
    refine hfind.mono ?_
    rintro e w1 ⟨rfl, nd, rfl⟩
    have R0 := Hr.out.drawn nd
    have B0 : Below w.heap.size w (w.drewN nd) := ⟨rfl, rfl, rfl, Nat.le_refl _, fun _ _ => rfl⟩
    go_wp2_with (first
      | (at_builtin; refine app_F rfl (.tmp 17) (.tmp 20) rfl w _ [] rfl (World.ownsRow_nil _ _ _ _) B0 A P c (l.take P) rfl (rdf_take R0 hp) P L1 (by rw [HL.out.1]; rfl) N1.out (by omega) ?_; intro A1 c1 w1 o1 b1)
      | (at_builtin; refine app_F rfl (.tmp 22) (.tmp 26) rfl w _ L1 rfl (o1.alloc _) (b1.alloc b1.size _) (some ⟨w1.heap.size, 0, none⟩) 1 1 [(k, x)] rfl (rd_two w1 _ _ _) (P + 1) L2 HL.out.2.1 N2.out (by omega) ?_; intro A2 c2 w2 o2 b2)
      | (at_builtin; refine app_F rfl (.tmp 31) (.tmp 34) rfl w _ L2 rfl o2 b2 A4 n4 c4 (l.drop P) rfl (hrd.out _ b2) N L3 HL.out.2.2 N3.out (by omega) ?_; intro A3 c3 w3 o3 b3))
    go_ret2
    exact ⟨_, rfl, o3, b3⟩
  · rw [if_pos rfl]
    have hltP : P + 1 ≤ l.length := hlt rfl
    clear hlt
    obtain ⟨L1, hL1⟩ : ∃ L1, L1 = l.take P := ⟨_, rfl⟩
    obtain ⟨L2, hL2⟩ : ∃ L2, L2 = L1 ++ [(k, x)] := ⟨_, rfl⟩
    obtain ⟨L3, hL3⟩ : ∃ L3, L3 = L2 ++ l.drop (P + 1) := ⟨_, rfl⟩
    obtain ⟨N, hN⟩ : ∃ N, N = P + 1 + (l.length - (P + 1)) := ⟨_, rfl⟩
    obtain ⟨A4, hA4⟩ : ∃ A4, A4 = (if c = (P + 1) then A else A.map (·.add ((P + 1) * 2))) := ⟨_, rfl⟩
    obtain ⟨n4, hn4⟩ : ∃ n4, n4 = l.length - (P + 1) := ⟨_, rfl⟩
    obtain ⟨c4, hc4⟩ : ∃ c4, c4 = c - (P + 1) := ⟨_, rfl⟩
    have hcut := fun w => cut_tail A l.length c (P + 1) hltP w
    have hrd : Hid (∀ w', Below w.heap.size w w' → RdF w' A4 n4 c4 (l.drop (P + 1))) := fun w' bb => by
      rw [hA4, hn4, hc4]
      exact rdf_drop (Hr.out.below bb) hltP
    rw [← hA4, ← hn4, ← hc4] at hcut
    rw [show ((P + 1 : Nat) : Int) = (P : Int) + 1 by omega] at hcut
    have n1 : P = L1.length := by rw [hL1, List.length_take]; omega
    have n2 : P + 1 = L2.length := by rw [hL2, List.length_append, ← n1]; rfl
    have n3 : N = L3.length := by rw [hL3, List.length_append, ← n2, List.length_drop]; omega
    have hN2 : N ≤ 2000000000 := by omega
    have hfin : L3 = l.take P ++ (k, x) :: l.drop (P + 1) := by rw [hL3, hL2, hL1, List.append_assoc]; rfl
    rw [← hfin]
    have N1 := Lib.hid n1
    have N2 := Lib.hid n2
    have N3 := Lib.hid n3
    have HL := Lib.hid (And.intro hL1 (And.intro hL2 hL3))
    clear n1 n2 n3 hL1 hL2 hL3 hfin hN hA4 hn4 hc4
    go_enter Tryd.func11, Tryd.ntmps11
    go_wp2_with fail
    refine hfind.mono ?_
    rintro e w1 ⟨rfl, nd, rfl⟩
    have R0 := Hr.out.drawn nd
    have B0 : Below w.heap.size w (w.drewN nd) := ⟨rfl, rfl, rfl, Nat.le_refl _, fun _ _ => rfl⟩
    go_wp2_with (first
      | (at_builtin; refine app_F rfl (.tmp 17) (.tmp 20) rfl w _ [] rfl (World.ownsRow_nil _ _ _ _) B0 A P c (l.take P) rfl (rdf_take R0 hp) P L1 (by rw [HL.out.1]; rfl) N1.out (by omega) ?_; intro A1 c1 w1 o1 b1)
      | (at_builtin; refine app_F rfl (.tmp 22) (.tmp 26) rfl w _ L1 rfl (o1.alloc _) (b1.alloc b1.size _) (some ⟨w1.heap.size, 0, none⟩) 1 1 [(k, x)] rfl (rd_two w1 _ _ _) (P + 1) L2 HL.out.2.1 N2.out (by omega) ?_; intro A2 c2 w2 o2 b2)
      | (at_builtin; refine app_F rfl (.tmp 31) (.tmp 34) rfl w _ L2 rfl o2 b2 A4 n4 c4 (l.drop (P + 1)) rfl (hrd.out _ b2) N L3 HL.out.2.2 N3.out (by omega) ?_; intro A3 c3 w3 o3 b3))
    go_ret2
    exact ⟨_, rfl, o3, b3⟩
set_option maxHeartbeats 4000000 in
theorem dropR_calls (A : Option Addr) (n c : Nat) (l : List Fld) (k : ByteArray) (w : World) (hr : RdF w A n c l) (hl : Ris l) (hn : n ≤ 1000000000) :
    Calls Tryd.prog 13 #[.slice A n c, .string k] w fun e w' => ∃ A' n' c', e = .returned (.tuple #[.slice A' n' c', .bool (getL l k).isSome]) ∧ RdF w' A' n' c' (dropL l k) ∧ Below w.heap.size w w' := by
  obtain rfl := rdf_len hr
  have hcap := hr.cap
  have hbig : c ≤ 9223372036854775807 := hr.big
  have hfind := find_calls A l.length c l k w hr hl hn
  have hp := pos_le l k
  have hS := drop_pos hl k
  obtain ⟨P, hP⟩ : ∃ P, P = posL l k := ⟨_, rfl⟩
  have hlt : (getL l k).isSome = true → P < l.length := fun h => by
    obtain ⟨s, hs⟩ := Option.isSome_iff_exists.1 h
    have := get_some_pos hl hs
    rw [hP]
    exact (List.getElem?_eq_some_iff.1 this).1
  rw [← hP] at hfind hp hS
  rw [hS]
  obtain ⟨b, hb⟩ : ∃ b, b = (getL l k).isSome := ⟨_, rfl⟩
  rw [← hb] at hfind hlt ⊢
  clear hS hP hb
  have Hr := Lib.hid hr
  clear hr
  rcases b with _ | _
  · rw [if_neg (by simp)]
    clear hlt
    go_enter Tryd.func13, Tryd.ntmps13
    go_wp2_with fail
    refine hfind.mono ?_
    rintro e w1 ⟨rfl, nd, rfl⟩
    go_wp2_with fail
    go_ret2
    exact ⟨_, _, _, rfl, Hr.out.drawn nd, ⟨rfl, rfl, rfl, Nat.le_refl _, fun _ _ => rfl⟩⟩
  · rw [if_pos rfl]
    have hltP : P + 1 ≤ l.length := hlt rfl
    clear hlt
    obtain ⟨L1, hL1⟩ : ∃ L1, L1 = l.take P := ⟨_, rfl⟩
    obtain ⟨L3, hL3⟩ : ∃ L3, L3 = L1 ++ l.drop (P + 1) := ⟨_, rfl⟩
    obtain ⟨N, hN⟩ : ∃ N, N = P + (l.length - (P + 1)) := ⟨_, rfl⟩
    obtain ⟨A4, hA4⟩ : ∃ A4, A4 = (if c = (P + 1) then A else A.map (·.add ((P + 1) * 2))) := ⟨_, rfl⟩
    obtain ⟨n4, hn4⟩ : ∃ n4, n4 = l.length - (P + 1) := ⟨_, rfl⟩
    obtain ⟨c4, hc4⟩ : ∃ c4, c4 = c - (P + 1) := ⟨_, rfl⟩
    have hcut := fun w => cut_tail A l.length c (P + 1) hltP w
    have hrd : Hid (∀ w', Below w.heap.size w w' → RdF w' A4 n4 c4 (l.drop (P + 1))) := fun w' bb => by
      rw [hA4, hn4, hc4]
      exact rdf_drop (Hr.out.below bb) hltP
    rw [← hA4, ← hn4, ← hc4] at hcut
    rw [show ((P + 1 : Nat) : Int) = (P : Int) + 1 by omega] at hcut
    have n1 : P = L1.length := by rw [hL1, List.length_take]; omega
    have n3 : N = L3.length := by rw [hL3, List.length_append, ← n1, List.length_drop]; omega
    have hN2 : N ≤ 2000000000 := by omega
    have hfin : L3 = l.take P ++ l.drop (P + 1) := by rw [hL3, hL1]
    rw [← hfin]
    have N1 := Lib.hid n1
    have N3 := Lib.hid n3
    have HL := Lib.hid (And.intro hL1 hL3)
    clear n1 n3 hL1 hL3 hfin hN hA4 hn4 hc4
    go_enter Tryd.func13, Tryd.ntmps13
    go_wp2_with fail
    refine hfind.mono ?_
    rintro e w1 ⟨rfl, nd, rfl⟩
    have R0 := Hr.out.drawn nd
    have B0 : Below w.heap.size w (w.drewN nd) := ⟨rfl, rfl, rfl, Nat.le_refl _, fun _ _ => rfl⟩
    go_wp2_with (first
      | (at_builtin; refine app_F rfl (.tmp 18) (.tmp 21) rfl w _ [] rfl (World.ownsRow_nil _ _ _ _) B0 A P c (l.take P) rfl (rdf_take R0 hp) P L1 (by rw [HL.out.1]; rfl) N1.out (by omega) ?_; intro A1 c1 w1 o1 b1)
      | (at_builtin; refine app_F rfl (.tmp 23) (.tmp 27) rfl w _ L1 rfl o1 b1 A4 n4 c4 (l.drop (P + 1)) rfl (hrd.out _ b1) N L3 HL.out.2 N3.out (by omega) ?_; intro A3 c3 w3 o3 b3))
    go_ret2
    refine ⟨_, _, _, rfl, ?_, b3⟩
    obtain ⟨A', c', e, h⟩ := own_rd o3
    injection e with e1 e2 e3
    subst e1 e2 e3
    exact h
end Go.Proofs.YthgdkmbcibfehaaDoor.DcJ
