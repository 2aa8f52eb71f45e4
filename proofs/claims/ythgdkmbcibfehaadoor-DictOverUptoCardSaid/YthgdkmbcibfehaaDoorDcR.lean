/-
  The law DictWalk: After, again and again from the name that was told last, tells all names behind a name, each once. Conditions: as stated.
-/
import Derived.Test.YthgdkmbcibfehaaDoorDcQ
import Derived.Laws.Cover1
set_option maxRecDepth 100000
set_option linter.unusedSimpArgs false
set_option linter.unusedVariables false
namespace Go.Proofs.YthgdkmbcibfehaaDoor.DcR
open Go.RowKit Go.Proofs.YthgdkmbcibfehaaDoor.Mem Go.Proofs.YthgdkmbcibfehaaDoor.NumA Go.Proofs.YthgdkmbcibfehaaDoor.NumB Go.Proofs.YthgdkmbcibfehaaDoor.NumE Go.Proofs.YthgdkmbcibfehaaDoor.DcA Go.Proofs.YthgdkmbcibfehaaDoor.DcB Go.Proofs.YthgdkmbcibfehaaDoor.DcC Go.Proofs.YthgdkmbcibfehaaDoor.DcD Go.Proofs.YthgdkmbcibfehaaDoor.DcE Go.Proofs.YthgdkmbcibfehaaDoor.DcF Go.Proofs.YthgdkmbcibfehaaDoor.DcG Go.Proofs.YthgdkmbcibfehaaDoor.DcI Go.Proofs.YthgdkmbcibfehaaDoor.DcJ Go.Proofs.YthgdkmbcibfehaaDoor.DcK Go.Proofs.YthgdkmbcibfehaaDoor.DcL Go.Proofs.YthgdkmbcibfehaaDoor.DcM Go.Proofs.YthgdkmbcibfehaaDoor.DcN Go.Proofs.YthgdkmbcibfehaaDoor.DcP Go.Proofs.YthgdkmbcibfehaaDoor.DcQ

def lenOf : Value → Nat
  | .slice _ n _ => n
  | _ => 0
def gtL (l : List Fld) (k : ByteArray) : List Fld := l.filter fun f => ltS k f.1
theorem gt_next {l : List Fld} {k : Nat} {f : Fld} (hf : l[k]? = some f) (x : ByteArray) : gtL (l.take (k + 1)) x = gtL (l.take k) x ++ if ltS x f.1 then [f] else [] := by
  obtain ⟨hk, he⟩ := List.getElem?_eq_some_iff.1 hf
  rw [List.take_succ_eq_append_getElem hk, he]
  unfold gtL
  rw [List.filter_append]
  congr 1
  cases h : ltS x f.1 <;> simp [h]
theorem gt_drop {l : List Fld} (hr : Ris l) (x : ByteArray) : gtL l x = l.drop (aftP l x) := by
  have e : gtL (l.take (aftP l x) ++ l.drop (aftP l x)) x = l.drop (aftP l x) := by
    unfold gtL
    rw [List.filter_append, List.filter_eq_nil_iff.2 (fun f hf => ?_), List.filter_eq_self.2 (fun f hf => ?_), List.nil_append]
    · obtain ⟨i, hi⟩ := List.getElem?_of_mem hf
      rw [List.getElem?_drop] at hi
      exact (aft_iff hr hi).2 (by omega)
    · obtain ⟨i, hi⟩ := List.getElem?_of_mem hf
      rw [List.getElem?_take] at hi
      split at hi
      · intro h
        have := (aft_iff hr hi).1 h
        omega
      · cases hi
  rwa [List.take_append_drop] at e
theorem aft_at {l : List Fld} (hr : Ris l) {i : Nat} {f : Fld} (hf : l[i]? = some f) : aftP l f.1 = i + 1 := by
  have h1 : ¬ aftP l f.1 ≤ i := fun h => by
    have := (aft_iff hr (k := f.1) hf).2 h
    rw [lt_irr] at this; cases this
  have hi := (List.getElem?_eq_some_iff.1 hf).1
  by_cases hn : i + 1 < l.length
  · have hg : l[i + 1]? = some l[i + 1] := List.getElem?_eq_getElem hn
    have h2 := (aft_iff hr (k := f.1) hg).1 (by
      have := List.pairwise_iff_getElem.1 hr i (i + 1) hi hn (by omega)
      rw [(List.getElem?_eq_some_iff.1 hf).2] at this
      exact this)
    omega
  · have := aft_le l hr f.1
    omega
theorem leq_is (a b : ByteArray) : (Op.bytesLess a.toList b.toList || a.toList == b.toList) = !ltS b a := by
  rw [← gtr_is, Bool.not_not]
/-- The last of what was told. -/
theorem aft_last {l : List Fld} (hr : Ris l) {k : ByteArray} {M : Int} {L : List Fld} (hL : L = aftL l k M) {j : Nat} (hj : L.length = j + 1) : ∃ f, L[j]? = some f ∧ ltS k f.1 = true ∧ aftP l f.1 = aftP l k + L.length := by
  obtain ⟨f, hf⟩ : ∃ f, L[j]? = some f := ⟨_, List.getElem?_eq_getElem (by omega)⟩
  have hf' := hf
  rw [hL] at hf'
  unfold aftL at hf'
  rw [List.getElem?_take] at hf'
  split at hf'
  · rw [List.getElem?_drop] at hf'
    exact ⟨f, hf, (aft_iff hr hf').2 (by omega), by rw [aft_at hr hf']; omega⟩
  · cases hf'
theorem aft_none {l : List Fld} {k : ByteArray} {M : Int} (hM : 1 ≤ M) (h : (aftL l k M).length = 0) : l.length ≤ aftP l k := by
  unfold aftL at h
  rw [List.length_take, List.length_drop] at h
  omega
theorem aft_most (l : List Fld) (k : ByteArray) (M : Int) : (aftL l k M).length ≤ M.toNat := by
  unfold aftL
  rw [List.length_take]; omega
theorem aft_app (l : List Fld) (k : ByteArray) (M : Int) (P j : Nat) (hP : aftP l k = P + j) (h : P + j ≤ l.length) : (l.drop P).take j ++ aftL l k M = (l.drop P).take (j + (aftL l k M).length) := by
  have e : aftL l k M = ((l.drop P).drop j).take (aftL l k M).length := by
    conv => lhs; unfold aftL
    rw [hP, List.drop_drop]
    unfold aftL
    rw [hP, List.length_take]
    apply List.ext_getElem?
    intro i
    rw [List.getElem?_take, List.getElem?_take, List.length_drop]
    split
    · split
      · rfl
      · rw [List.getElem?_eq_none (by rw [List.length_drop]; omega)]
    · split
      · omega
      · rfl
  conv => lhs; rw [e]
  rw [← List.take_add]
theorem app_F2 {ops : Array Oper} {rest : List Oper} {o : Oper} {a : Act} {Q : Exit → Act → World → Prop} {W : World} (hgd : o.guard = none) (s x : Operand)
    (ho : o.op = .call { callee := .builtin .append, args := #[s, x], argTypes := #[22, 22] })
    (w0 : World) (v : Value) (xs : List Fld) (hs : a.eval s = v) (hown : OwnF W w0.heap.size v xs) (hb : Below w0.heap.size w0 W)
    (A : Option Addr) (m c : Nat) (ys : List Fld) (hx : a.eval x = .slice A m c) (hr : RdF W A m c ys) (N : Nat) (zs : List Fld) (hzs : zs = xs ++ ys) (hN : N = zs.length) (hlen : N ≤ 2000000000)
    (h : ∀ A' c' w', OwnF w' w0.heap.size (.slice A' N c') zs → Below w0.heap.size w0 w' → Only (fun k => v.ownBlock = some k) W w' → wpList Tryd.prog ops Q rest (a.put o.dst (.slice A' N c')) w') :
    wpList Tryd.prog ops Q (o :: rest) a W := by
  obtain rfl := rdf_len hr
  subst hzs hN
  rw [List.length_append] at hlen
  refine wpList_app hgd s x elF ho w0.heap.size v xs.length (flds xs) hs hown A ys.length c (flds ys) hx hr (flds_one ys) (by unfold maxLen; omega) (by omega) hb.size ?_
  intro v' w' o1 f1 _
  have o2 : OwnF w' w0.heap.size v' (xs ++ ys) := by
    unfold OwnF
    rw [List.length_append, flds_app]
    exact o1
  obtain ⟨A', c', rfl⟩ := own_form o2
  exact h A' c' w' o2 (f1.after hb (Nat.le_refl _) (fun k hk => (hown.lt k hk).1)) f1
set_option maxHeartbeats 16000000 in
theorem walk_calls (A : Option Addr) (c : Nat) (l : List Fld) (fr : ByteArray) (most : Int) (W : World) (hr : RdF W A l.length c l) (hg : Gd l) (hn : l.length ≤ 1048576) (hm : inR most) (hL : Laid W) :
    Calls Tryd.prog 6 #[.slice A l.length c, .string fr, .int .i64 most] W fun e w' => e = .returned (.bool true) ∧ Below W.heap.size W w' := by
  have hof := of_ho A c l W hr hg (by omega)
  have hcap := hr.cap
  have hbig : c ≤ 9223372036854775807 := hr.big
  obtain ⟨M, hM⟩ : ∃ M, max 1 most = M := ⟨_, rfl⟩
  have HM := Lib.hid (show 1 ≤ M ∧ inR M by unfold inR at *; omega)
  have HR := Lib.hid (And.intro hr (And.intro hg hL))
  clear hr hg hL hm
  go_enter Tryd.func6, Tryd.ntmps6
  go_wp2_with fail
  refine hof.mono ?_
  clear hof
  rintro e w1 (⟨hl, g, m, rfl, d1⟩ | ⟨hl, rfl, b1⟩)
  · have Hl := Lib.hid hl
    have H1 := Lib.hid d1
    clear hl d1
    go_wp2_with fail
    go_loopw [9, 11] (fun v i wr => ∃ (k : Nat) (A' : Option Addr) (c' : Nat), k ≤ l.length ∧ i = .int .i64 k ∧ v = .slice A' (gtL (l.take k) fr).length c' ∧ OwnF wr w1.heap.size v (gtL (l.take k) fr) ∧ Below w1.heap.size w1 wr) (fun _ i _ => l.length - (intOf i).toNat)
    case atStart => exact ⟨0, none, 0, Nat.zero_le _, rfl, rfl, World.ownsRow_nil _ _ _ _, Below.refl _ _⟩
    case round =>
      obtain ⟨k, A1, c1, hk, rfl, rfl, ho, hb⟩ := hrel
      have HO := Lib.hid (And.intro ho hb)
      clear ho hb
      by_cases hlt : k < l.length
      · obtain ⟨f, hf⟩ : ∃ f, l[k]? = some f := ⟨_, List.getElem?_eq_getElem (by omega)⟩
        obtain ⟨p, rfl, x0, x1⟩ := rdf_get ((HR.out.1.below H1.out.bel).below HO.out.2) hf
        obtain ⟨L1, hL1⟩ : ∃ L1, L1 = gtL (l.take k) fr := ⟨_, rfl⟩
        have hnx := gt_next hf fr
        rw [← hL1] at hnx
        have hcl : L1.length ≤ l.length := by
          rw [hL1]
          exact Nat.le_trans (List.length_filter_le _ _) (by rw [List.length_take]; omega)
        have ho := HO.out.1
        rw [← hL1] at ho
        rw [← hL1]
        have HO2 := Lib.hid (And.intro ho (And.intro HO.out.2 (And.intro hnx hcl)))
        clear hf hL1 hnx ho HO hcl
        obtain ⟨fk, fv⟩ := f
        simp only at x0 x1
        have hgt := gtr_is fk fr
        cases hcmp : ltS fr fk
        · rw [hcmp] at hgt
          have HC := Lib.hid hcmp
          clear hcmp
          go_wp2_with fail
          refine ⟨⟨k + 1, A1, c1, by omega, by go_num, ?_, ?_, HO2.out.2.1⟩, by simp [intOf]; omega⟩
          · rw [HO2.out.2.2.1, HC.out]; simp
          · rw [HO2.out.2.2.1, HC.out]; simpa using HO2.out.1
        · rw [hcmp] at hgt
          have HC := Lib.hid hcmp
          clear hcmp
          obtain ⟨N2, hN2⟩ : ∃ N2, N2 = L1.length + 1 := ⟨_, rfl⟩
          obtain ⟨L2, hL2⟩ : ∃ L2, L2 = L1 ++ [(fk, fv)] := ⟨_, rfl⟩
          have HL2 := Lib.hid (show L2 = L1 ++ [(fk, fv)] ∧ N2 = L2.length ∧ N2 ≤ 2000000000 by have := HO2.out.2.2.2; refine ⟨hL2, by rw [hL2, hN2]; simp, by omega⟩)
          clear hN2 hL2
          go_wp2_with (at_builtin; refine app_F rfl (.tmp 46) (.tmp 51) rfl w1 _ L1 rfl (HO2.out.1.alloc _) (HO2.out.2.1.alloc HO2.out.2.1.size _) (some ⟨wr.heap.size, 0, none⟩) 1 1 [(fk, fv)] rfl (rd_two wr _ _ _) N2 L2 HL2.out.1 HL2.out.2.1 HL2.out.2.2 ?_; intro A2 c2 w2 o2 b2)
          have e2 : gtL (l.take (k + 1)) fr = L2 := by rw [HO2.out.2.2.1, HL2.out.1]; simp [HC.out]
          refine ⟨⟨k + 1, A2, c2, by omega, by go_num, ?_, ?_, b2⟩, by simp [intOf]; omega⟩
          · rw [e2, ← HL2.out.2.1]
          · rw [e2]; exact o2
      · obtain rfl : k = l.length := by omega
        obtain ⟨wo, hwo⟩ : ∃ wo, wo = wr := ⟨wr, rfl⟩
        subst hwo
        obtain ⟨ho, hb⟩ := HO.out
        rw [List.take_length] at ho ⊢
        have HD := Lib.hid (H1.out.below hb)
        obtain ⟨P0, hP0⟩ : ∃ P0, P0 = aftP l fr := ⟨_, rfl⟩
        have hgd := gt_drop Hl.out fr
        rw [← hP0] at hgd
        obtain ⟨K, hK⟩ : ∃ K, K = gtL l fr := ⟨_, rfl⟩
        rw [← hK] at ho hgd ⊢
        have HK := Lib.hid (And.intro hgd (And.intro hP0 (Rd.of_own ho)))
        have hKl : K.length ≤ l.length := by rw [hgd, List.length_drop]; omega
        have HKl := Lib.hid hKl
        have hcapL : c1 ≤ 9223372036854775807 := (Rd.of_own ho).big
        have hcapL2 := (Rd.of_own ho).cap
        clear hgd hP0 hK ho hb HO hKl
        go_wp2_with fail
        go_loopw [10, 12] (fun gv av wr => ∃ (A2 : Option Addr) (c2 : Nat) (G : List Fld) (atk : ByteArray), gv = .slice A2 G.length c2 ∧ av = .string atk ∧ OwnF wr wo.heap.size gv G ∧ Below wo.heap.size wo wr ∧ Hid (aftP l atk = P0 + G.length ∧ P0 + G.length ≤ l.length ∧ G = (l.drop P0).take G.length)) (fun gv _ _ => l.length - lenOf gv)
        case atStart => exact ⟨none, 0, [], fr, rfl, rfl, World.ownsRow_nil _ _ _ _, Below.refl _ _, Lib.hid ⟨by simp [HK.out.2.1], by have := aft_le l Hl.out fr; rw [HK.out.2.1]; simpa using this, by simp⟩⟩
        case round =>
          obtain ⟨A2, c2, G, atk, rfl, rfl, ho, hb, hrel2⟩ := hrel
          have HD2 := Lib.hid (HD.out.below hb)
          have haf := after_calls W.heap.size g m l l.length atk M wr HD2.out.dc HM.out.2 (by omega)
          obtain ⟨L, hLL⟩ : ∃ L, L = aftL l atk M := ⟨_, rfl⟩
          rw [← hLL] at haf
          have hGl : G.length ≤ l.length := by have := hrel2.out.2.1; omega
          have hmo := aft_most l atk M
          rw [← hLL] at hmo
          have HLL := Lib.hid (And.intro hLL hmo)
          have HO := Lib.hid (And.intro ho hb)
          have hcapG : c2 ≤ 9223372036854775807 := (Rd.of_own ho).big
          have hcapG2 := (Rd.of_own ho).cap
          clear hLL hmo ho hb
          go_wp2_with fail
          refine haf.mono ?_
          clear haf
          rintro e w3 ⟨v3, rfl, o3, b3⟩
          obtain ⟨A3, c3, rfl, r3⟩ := own_rd o3
          have hown3 : OwnF w3 wo.heap.size (.slice A2 G.length c2) G := own_only HO.out.1 (Only.of_below b3) (fun k hk => by have := (HO.out.1.lt k hk).2; omega)
          have hbe3 : Below wo.heap.size wo w3 := HO.out.2.trans (b3.mono HO.out.2.size)
          obtain ⟨n3, hn3⟩ : ∃ n3, n3 = L.length := ⟨_, rfl⟩
          rw [← hn3] at o3 r3 ⊢
          have hcap3 := r3.cap
          have hbig3 : c3 ≤ 9223372036854775807 := r3.big
          have H3 := Lib.hid (And.intro o3 (And.intro b3 (And.intro r3 (And.intro hown3 (And.intro hbe3 hn3)))))
          clear o3 b3 r3 hown3 hbe3 hn3
          by_cases h0 : n3 = 0
          · subst h0
            have hno := aft_none HM.out.1 (by rw [← HLL.out.1]; exact H3.out.2.2.2.2.2.symm)
            have hGK : G = K := by
              obtain ⟨e1, e2, e3⟩ := hrel2.out
              rw [HK.out.1, e3]
              exact List.take_of_length_le (by rw [List.length_drop]; omega)
            have hsm := same_true A2 A1 G.length c2 K.length c1 G K w3 (Rd.of_own H3.out.2.2.2.1) (HK.out.2.2.below H3.out.2.2.2.2.1) (by omega) (by have := HKl.out; omega) hGK
            clear hno hGK
            go_wp2_with fail
            refine hsm.mono ?_
            clear hsm
            rintro e w4 ⟨rfl, nd, rfl⟩
            have H4 := Lib.hid ((HD.out.below H3.out.2.2.2.2.1).below (below_drawn_' nd))
            have hsr := sure_calls _ (H4.out.laid HR.out.2.2)
            go_wp2_with fail
            refine hsr.mono ?_
            clear hsr
            rintro e w5 ⟨rfl, b5⟩
            go_wp2_with fail
            go_ret
            exact ⟨rfl, below_seq H4.out.bel b5⟩
          · obtain ⟨j, hj⟩ : ∃ j, n3 = j + 1 := ⟨n3 - 1, by omega⟩
            obtain ⟨f, hf, hgt, haf⟩ := aft_last Hl.out HLL.out.1 (j := j) (by rw [← H3.out.2.2.2.2.2]; exact hj)
            obtain ⟨p3, rfl, y0, y1⟩ := rdf_get H3.out.2.2.1 hf
            obtain ⟨fk, fv⟩ := f
            simp only at y0 y1 hgt haf
            have hle := leq_is fk atk
            rw [hgt] at hle
            have hk3 : ((n3 : Int) - 1) = (j : Int) := by omega
            have hj2 : j < n3 := by omega
            have hnM : (n3 : Int) ≤ M := by have := HLL.out.2; have := HM.out.1; have := H3.out.2.2.2.2.2; omega
            obtain ⟨G2, hG2⟩ : ∃ G2, G2 = G ++ L := ⟨_, rfl⟩
            obtain ⟨N2, hN2⟩ : ∃ N2, N2 = G2.length := ⟨_, rfl⟩
            have hlen2 : N2 = G.length + n3 := by rw [hN2, hG2, List.length_append, H3.out.2.2.2.2.2]
            have hall : aftP l fk = P0 + N2 := by have := hrel2.out.1; have := H3.out.2.2.2.2.2; omega
            have hal2 := aft_le l Hl.out fk
            have Hnew := Lib.hid (show aftP l fk = P0 + N2 ∧ P0 + N2 ≤ l.length ∧ G2 = (l.drop P0).take N2 ∧ G.length < N2 ∧ G2 = G ++ L ∧ N2 = G2.length ∧ N2 ≤ 2000000000 by
              refine ⟨hall, by omega, ?_, by omega, hG2, hN2, by omega⟩
              obtain ⟨e1, e2, e3⟩ := hrel2.out
              have := aft_app l atk M P0 G.length e1 e2
              rw [← HLL.out.1, ← e3, ← H3.out.2.2.2.2.2, ← hlen2] at this
              rw [hG2, this])
            have hni : ¬ ((l.length : Int) < (G.length : Int)) := by omega
            have Hy := Lib.hid y0
            clear hall hal2 hlen2 hG2 hN2 haf hf hgt h0 hj y1
            go_wp2_with (at_builtin; refine app_F2 rfl (.tmp 83) (.tmp 84) rfl wo _ G rfl H3.out.2.2.2.1 H3.out.2.2.2.2.1 (some p3) n3 c3 L rfl H3.out.2.2.1 N2 G2 Hnew.out.2.2.2.2.1 Hnew.out.2.2.2.2.2.1 Hnew.out.2.2.2.2.2.2 ?_; intro A4 c4 w4 o4 b4 f4; have y4 : w4.cell? (p3.add (j * 2)) = some (.string fk) := f4.cell Hy.out (fun e => by rw [add_block] at e; have h1 := (H3.out.1.lt _ rfl).1; have h2 := (HO.out.1.lt _ e).2; omega))
            exact ⟨⟨A4, c4, G2, fk, by rw [← Hnew.out.2.2.2.2.2.1], rfl, o4, b4, Lib.hid (by rw [← Hnew.out.2.2.2.2.2.1]; exact ⟨Hnew.out.1, Hnew.out.2.1, Hnew.out.2.2.1⟩)⟩, by have h1 := Hnew.out.2.2.2.1; have h2 := Hnew.out.2.1; simp [lenOf]; omega⟩
  · have Hl := Lib.hid hl
    have H1 := Lib.hid b1
    clear hl b1
    have hrs := not_rises A c l w1 (HR.out.1.below H1.out) hn Hl.out
    go_wp2_with fail
    refine hrs.mono ?_
    clear hrs
    rintro e w2 ⟨rfl, b2⟩
    have hsr := sure_calls w2 (HR.out.2.2.below (below_seq H1.out b2))
    have H2 := Lib.hid b2
    clear b2
    go_wp2_with fail
    refine hsr.mono ?_
    clear hsr
    rintro e w3 ⟨rfl, b3⟩
    go_wp2_with fail
    go_ret
    exact ⟨rfl, below_seq (below_seq H1.out H2.out) b3⟩
theorem walk_law (A : Option Addr) (n c : Nat) (l : List Fld) (fr : ByteArray) (most : Int) (W : World) (hr : Rd W 2 A n c (l.flatMap fF)) (hl : l.length = n) (h1 : ∀ x ∈ l, fOK x) (h2 : (l.map fM).sum ≤ 1048576)
    (h3 : fr.size ≤ 1048576) (h4 : -9223372036854775808 ≤ most) (h5 : most ≤ 9223372036854775807) (hL : Laid W) :
    Calls Tryd.prog 6 #[.slice A n c, .string fr, .int .i64 most] W fun e w' => e = .returned (.bool true) ∧ Below W.heap.size W w' := by
  subst hl
  exact walk_calls A c l fr most W hr (Gd.of_sum h2) (by have := LawR.len_sum fM (fun x => by unfold fM; omega) l; omega) ⟨h4, h5⟩ hL
end Go.Proofs.YthgdkmbcibfehaaDoor.DcR
