/-
  The walk of ValueOwn. Conditions: as stated.
-/
import Derived.Test.YthglmpkcfigelaaVcV
import Derived.Test.YthglmpkcfigelaaVbB
import Derived.Test.YthglmpkcfigelaaVcS
import Derived.Test.YthglmpkcfigelaaLawW
import Derived.Deep.RegionWith
import Derived.Sort.AtCall
set_option maxRecDepth 100000
set_option linter.unusedSimpArgs false
set_option linter.unusedVariables false
namespace Go.Proofs.Ythglmpkcfigelaa.VcW
open Go Go.RowKit Go.Proofs.Ythglmpkcfigelaa.Mem Go.Proofs.Ythglmpkcfigelaa.VaA Go.Proofs.Ythglmpkcfigelaa.VaC Go.Proofs.Ythglmpkcfigelaa.VaH Go.Proofs.Ythglmpkcfigelaa.VaL Go.Proofs.Ythglmpkcfigelaa.VaS Go.Proofs.Ythglmpkcfigelaa.VaT Go.Proofs.Ythglmpkcfigelaa.VaW Go.Proofs.Ythglmpkcfigelaa.VbB Go.Proofs.Ythglmpkcfigelaa.VcV

/-- Its three rows may be written. -/
structure WrV (w : World) (x : VV) : Prop where
  l : Wr w 9 1 x.ln x.lc x.LA
  f : Wr w 49 2 x.fn x.fc x.FA
  k : Wr w 51 2 x.kn x.kc x.KA
theorem WrV.below {w w' : World} {x : VV} (h : WrV w x) (hb : Below w.heap.size w w') : WrV w' x := ⟨h.l.below hb, h.f.below hb, h.k.below hb⟩
theorem WrV.put {w : World} {x : VV} (h : WrV w x) (b j : Nat) (u : Value) : WrV (w.setCell ⟨b, j, none⟩ u) x := ⟨h.l.put b j u, h.f.put b j u, h.k.put b j u⟩
/-- The blocks of its rows. -/
def Tch (x : VV) (k : Nat) : Prop := (∃ a, x.LA = some a ∧ a.block = k) ∨ (∃ a, x.FA = some a ∧ a.block = k) ∨ (∃ a, x.KA = some a ∧ a.block = k)
theorem tch_lt {w : World} {x : VV} (h : WrV w x) {k : Nat} (hk : Tch x k) : k < w.heap.size := by
  rcases hk with ⟨a, h1, rfl⟩ | ⟨a, h1, rfl⟩ | ⟨a, h1, rfl⟩
  · exact h.l.lt a h1
  · exact h.f.lt a h1
  · exact h.k.lt a h1
/-- The state of spoil: its box, the rows, the frame. -/
structure Sp (w : World) (x : VV) (wr : World) : Prop where
  b : Bv wr w.heap.size x.kind x.text (.slice x.LA x.ln x.lc) (.slice x.FA x.fn x.fc) (.slice x.KA x.kn x.kc)
  r : WrV wr x
  o : Only (Tch x) w wr
theorem Sp.put {w wr : World} {x : VV} (hw : WrV w x) (h : Sp w x wr) {g : Nat} (hg : Tch x g) (j : Nat) (u : Value) : Sp w x (wr.setCell ⟨g, j, none⟩ u) := by
  have hlt := tch_lt hw hg
  exact ⟨(onlyG g j u wr).heap h.b (by omega), h.r.put g j u, h.o.put (p := ⟨g, j, none⟩) (.inl hg) u⟩
theorem wr_some {w : World} {e : TypeId} {sz n c : Nat} {A : Option Addr} (h : Wr w e sz n c A) {j : Nat} (hj : j < n) : ∃ g, A = some ⟨g, 0, none⟩ ∧ ∀ i, i < sz → (∃ u, w.cell? ⟨g, j * sz + i, none⟩ = some u) ∧ w.frozen? ⟨g, j * sz + i, none⟩ = false := by
  rcases h with ⟨_, rfl, _⟩ | ⟨g, cur, h1, h2, h3, h4, h5⟩
  · omega
  · refine ⟨g, h1, fun i hi => ⟨?_, wr_free h2⟩⟩
    have : (j + 1) * sz ≤ c * sz := Nat.mul_le_mul_right _ (by omega)
    rw [Nat.succ_mul] at this
    exact ⟨_, wr_cell h2 (by omega)⟩

/-- A row of what may be turned, or a new one. -/
def Far (w : World) (x : VV) (A : Option Addr) : Prop := ∀ a, A = some a → Tch x a.block ∨ w.heap.size ≤ a.block
abbrev behB : ByteArray := ⟨#[98, 101, 104, 105, 110, 100]⟩
theorem al (w : World) (o : Obj) : Below w.heap.size w (w.alloc o) := (Below.refl _ w).alloc (Nat.le_refl _) o
theorem go_on {w wr w' : World} {x : VV} {A A' : Option Addr} (ho : Only (Tch x) w wr) (hA : Far w x A) (hO : Only (fun k => ∃ b, A = some b ∧ b.block = k) wr w') (hA' : A' = A ∨ ∀ b, A' = some b → wr.heap.size ≤ b.block) : Only (Tch x) w w' ∧ Far w x A' := by
  refine ⟨ho.trans hO (fun b ⟨a, e, hb⟩ => hb ▸ hA a e), fun a e => ?_⟩
  rcases hA' with h | h
  · subst h; exact hA a e
  · exact .inr (Nat.le_trans ho.size (h a e))
theorem near {w : World} {A A' : Option Addr} (h : A' = A ∨ ∀ b, A' = some b → w.heap.size ≤ b.block) : A' = A ∨ ∀ b, A' = some b → w.heap.size ≤ b.block := h
theorem two_new (w : World) (a b : Value) (T : TypeId) : ∀ j u, [a, b][j]? = some u → (w.alloc (.cells #[a, b] T)).cell? ((⟨w.heap.size, 0, none⟩ : Addr).add j) = some u := fun j u hu => by
  obtain ⟨ad, e, h⟩ := (VaW.rd_two w a b T).get j u hu
  injection e with e
  subst e
  exact h
set_option maxHeartbeats 4000000 in
theorem spoil_calls (x : VV) (w : World) (hw : WrV w x) (n1 : x.ln ≤ 100000000) (n2 : x.fn ≤ 100000000) (n3 : x.kn ≤ 100000000) :
    Calls Try.prog 21 #[x.val] w fun e w' => e = .returned (.tuple #[]) ∧ Only (Tch x) w w' := by
  have hv : x.val = .agg #[.int .i64 x.kind, .string x.text, .slice x.LA x.ln x.lc, .slice x.FA x.fn x.fc, .slice x.KA x.kn x.kc] := rfl
  rw [hv]
  obtain ⟨W0, hW0⟩ : ∃ W0, w.alloc (.cells #[.int .i64 x.kind, .string x.text, .slice x.LA x.ln x.lc, .slice x.FA x.fn x.fc, .slice x.KA x.kn x.kc] 26) = W0 := ⟨_, rfl⟩
  have s0 : Sp w x W0 := by
    rw [← hW0]
    exact ⟨heap_alloc_new w _, hw.below ((Below.refl _ w).alloc (Nat.le_refl _) _), (Only.refl _ w).alloc _⟩
  have H0 := Lib.hid hW0
  clear hW0
  have gc1 := hw.l.cap
  have gc2 := hw.f.cap
  have gc3 := hw.k.cap
  unfold maxLen at gc1 gc2 gc3
  go_enter Try.func21, Try.ntmps21
  go_wp2_with fail
  rw [H0.out]
  go_loopw [2] (fun i wr => ∃ j : Nat, j ≤ x.ln ∧ i = .int .i64 j ∧ Sp w x wr) (fun i _ => x.ln - (intOf i).toNat)
  case atStart => exact ⟨0, Nat.zero_le _, rfl, s0⟩
  case round =>
    obtain ⟨j, hj, rfl, s1⟩ := hrel
    clear s0 H0
    obtain ⟨x0, x1, x2, x3, x4⟩ := s1.b.cells
    by_cases hlt : j < x.ln
    · obtain ⟨g, hA, hc⟩ := wr_some s1.r.l hlt
      obtain ⟨⟨u, hcu⟩, hfu⟩ := hc 0 (by omega)
      rw [Nat.mul_one, Nat.add_zero] at hcu hfu
      have tg : Tch x g := .inl ⟨_, hA, rfl⟩
      rw [hA] at x2
      clear hc
      go_wp2_with fail
      exact ⟨⟨j + 1, by omega, by go_num, s1.put hw tg j _⟩, by simp [intOf]; omega⟩
    · have hnlt : ¬ ((j : Int) < (x.ln : Int)) := by omega
      go_wp2_with fail
      go_loopw [3] (fun i wr => ∃ j : Nat, j ≤ x.fn ∧ i = .int .i64 j ∧ Sp w x wr) (fun i _ => x.fn - (intOf i).toNat)
      case atStart => exact ⟨0, Nat.zero_le _, rfl, s1⟩
      case round =>
        obtain ⟨j', hj', rfl, s2⟩ := hrel
        clear s1 x0 x1 x2 x3 x4 hnlt
        obtain ⟨x0, x1, x2, x3, x4⟩ := s2.b.cells
        by_cases hlt : j' < x.fn
        · obtain ⟨g, hA, hc⟩ := wr_some s2.r.f hlt
          obtain ⟨⟨u, hcu⟩, hfu⟩ := hc 0 (by omega)
          obtain ⟨⟨u', hcu'⟩, hfu'⟩ := hc 1 (by omega)
          rw [Nat.add_zero] at hcu hfu
          have tg : Tch x g := .inr (.inl ⟨_, hA, rfl⟩)
          rw [hA] at x3
          clear hc
          go_wp2_with fail
          exact ⟨⟨j' + 1, by omega, by go_num, (s2.put hw tg (j' * 2) _).put hw tg (j' * 2 + 1) _⟩, by simp [intOf]; omega⟩
        · have hnlt : ¬ ((j' : Int) < (x.fn : Int)) := by omega
          go_wp2_with fail
          go_loopw [4] (fun i wr => ∃ j : Nat, j ≤ x.kn ∧ i = .int .i64 j ∧ Sp w x wr) (fun i _ => x.kn - (intOf i).toNat)
          case atStart => exact ⟨0, Nat.zero_le _, rfl, s2⟩
          case round =>
            obtain ⟨j, hj, rfl, s3⟩ := hrel
            clear s2 x0 x1 x2 x3 x4 hnlt
            obtain ⟨x0, x1, x2, x3, x4⟩ := s3.b.cells
            by_cases hlt : j < x.kn
            · obtain ⟨g, hA, hc⟩ := wr_some s3.r.k hlt
              obtain ⟨⟨u, hcu⟩, hfu⟩ := hc 0 (by omega)
              obtain ⟨⟨u', hcu'⟩, hfu'⟩ := hc 1 (by omega)
              rw [Nat.add_zero] at hcu hfu
              have tg : Tch x g := .inr (.inr ⟨_, hA, rfl⟩)
              rw [hA] at x4
              clear hc
              go_wp2_with fail
              exact ⟨⟨j + 1, by omega, by go_num, (s3.put hw tg (j * 2) _).put hw tg (j * 2 + 1) _⟩, by simp [intOf]; omega⟩
            · have hnlt : ¬ ((j : Int) < (x.kn : Int)) := by omega
              have S3 := Lib.hid s3
              go_wp2_with fail
              go_quiet (fail)
              clear s3
              go_wp2_with fail
              go_loopw [5, 6, 7, 8] (fun v5 v6 v7 v8 wr => ∃ (k : Nat) (A5 : Option Addr) (c5 : Nat) (A6 : Option Addr) (c6 : Nat) (A7 : Option Addr) (c7 : Nat), k ≤ 9 ∧ v8 = .int .i64 k ∧ v5 = .slice A5 (x.ln + k) c5 ∧ v6 = .slice A6 (x.fn + k) c6 ∧ v7 = .slice A7 (x.kn + k) c7 ∧ Wr wr 9 1 (x.ln + k) c5 A5 ∧ Wr wr 49 2 (x.fn + k) c6 A6 ∧ Wr wr 51 2 (x.kn + k) c7 A7 ∧ Far w x A5 ∧ Far w x A6 ∧ Far w x A7 ∧ Only (Tch x) w wr) (fun _ _ _ i _ => 9 - (intOf i).toNat)
              case atStart => exact ⟨0, x.LA, x.lc, x.FA, x.fc, x.KA, x.kc, by omega, rfl, rfl, rfl, rfl, S3.out.r.l, S3.out.r.f, S3.out.r.k, fun a e => .inl (.inl ⟨a, e, rfl⟩), fun a e => .inl (.inr (.inl ⟨a, e, rfl⟩)), fun a e => .inl (.inr (.inr ⟨a, e, rfl⟩)), S3.out.o.drawn _⟩
              case round =>
                obtain ⟨k, A5, c5, A6, c6, A7, c7, hk, rfl, rfl, rfl, rfl, r5, r6, r7, f5, f6, f7, o⟩ := hrel
                clear x0 x1 x2 x3 x4 hnlt S3
                by_cases hlt : k < 9
                · go_wp2_with (first
                    | (at_builtin; refine wpList_appW rfl (.tmp 54) (.tmp 55) elS rfl A5 (x.ln + k) c5 rfl (r5.below (al _ _)) ⟨_, 0, none⟩ [.string behB] rfl rfl (fun j u hu => cell_one_new _ _ _ j u hu) (by simp; rfl) (by unfold maxLen; omega) (by omega) ?_; intro A5' c5' w5 e5 o5 g5 p5; obtain ⟨O5, F5⟩ := go_on (o.alloc _) f5 o5 (near g5); have q6 := p5 _ _ _ _ _ (r6.below (al _ _)); have q7 := p5 _ _ _ _ _ (r7.below (al _ _)))
                    | (at_builtin; refine wpList_appW rfl (.tmp 57) (.tmp 59) elF rfl A6 (x.fn + k) c6 rfl (q6.below (al _ _)) ⟨_, 0, none⟩ [.string behB, .string ⟨#[]⟩] rfl rfl (two_new _ _ _ _) (by simp; exact ⟨rfl, rfl⟩) (by unfold maxLen; omega) (by omega) ?_; intro A6' c6' w6 e6 o6 g6 p6; obtain ⟨O6, F6⟩ := go_on (O5.alloc _) f6 o6 (near g6); have q5 := p6 _ _ _ _ _ (e5.below (al _ _)); have q7' := p6 _ _ _ _ _ (q7.below (al _ _)))
                    | (at_builtin; refine wpList_appW rfl (.tmp 61) (.tmp 63) elK rfl A7 (x.kn + k) c7 rfl (q7'.below (al _ _)) ⟨_, 0, none⟩ [.string ⟨#[]⟩, .int .i64 79] rfl rfl (two_new _ _ _ _) (by simp; exact ⟨rfl, rfl⟩) (by unfold maxLen; omega) (by omega) ?_; intro A7' c7' w7 e7 o7 g7 p7; obtain ⟨O7, F7⟩ := go_on (O6.alloc _) f7 o7 (near g7); have d5 := p7 _ _ _ _ _ (q5.below (al _ _)); have d6 := p7 _ _ _ _ _ (e6.below (al _ _)); clear r5 r6 r7 o o5 o6 o7 p5 p6 p7 q5 q6 q7 q7' e5 e6 O5 O6))
                  exact ⟨⟨k + 1, A5', c5', A6', c6', A7', c7', by omega, by go_num, rfl, rfl, rfl, d5, d6, e7, F5, F6, F7, O7⟩, by simp [intOf]; omega⟩
                · obtain rfl : k = 9 := by omega
                  go_wp2_with fail
                  exact bodyPost_end (results_none rfl _ _ _) rfl ⟨rfl, o⟩
end Go.Proofs.Ythglmpkcfigelaa.VcW

namespace Go.Proofs.Ythglmpkcfigelaa.VcX
open Go Go.RowKit Go.Proofs.Ythglmpkcfigelaa.Mem Go.Proofs.Ythglmpkcfigelaa.VaA Go.Proofs.Ythglmpkcfigelaa.VaB Go.Proofs.Ythglmpkcfigelaa.VaC Go.Proofs.Ythglmpkcfigelaa.VaH Go.Proofs.Ythglmpkcfigelaa.VaI Go.Proofs.Ythglmpkcfigelaa.VaL Go.Proofs.Ythglmpkcfigelaa.VaS Go.Proofs.Ythglmpkcfigelaa.VaT Go.Proofs.Ythglmpkcfigelaa.VcV Go.Proofs.Ythglmpkcfigelaa.VcW

set_option maxHeartbeats 2000000 in
theorem copyW_calls (x : VV) (w : World) (hr : RdV w x) (hs : Sm x) :
    Calls Try.prog 20 #[x.val] w fun e w' => ∃ y : VV, e = .returned y.val ∧ y.kind = x.kind ∧ y.text = x.text ∧ y.list = x.list ∧ y.flds = x.flds ∧ y.rank = x.rank ∧ RdV w' y ∧ WrV w' y ∧ (Nw w.heap.size y.LA ∧ Nw w.heap.size y.FA ∧ Nw w.heap.size y.KA) ∧ Below w.heap.size w w' := by
  have hv : x.val = .agg #[.int .i64 x.kind, .string x.text, .slice x.LA x.ln x.lc, .slice x.FA x.fn x.fc, .slice x.KA x.kn x.kc] := rfl
  rw [hv]
  have b0 : Below w.heap.size w ((w.alloc (.cells #[.int .i64 x.kind, .string x.text, .slice x.LA x.ln x.lc, .slice x.FA x.fn x.fc, .slice x.KA x.kn x.kc] 26)).alloc (.cells #[.int .i64 0, .string ⟨#[]⟩, .slice none 0 0, .slice none 0 0, .slice none 0 0] 26)) := ((Below.refl _ w).alloc (Nat.le_refl _) _).alloc (by simp) _
  have p0 : Bv ((w.alloc (.cells #[.int .i64 x.kind, .string x.text, .slice x.LA x.ln x.lc, .slice x.FA x.fn x.fc, .slice x.KA x.kn x.kc] 26)).alloc (.cells #[.int .i64 0, .string ⟨#[]⟩, .slice none 0 0, .slice none 0 0, .slice none 0 0] 26)) w.heap.size x.kind x.text (.slice x.LA x.ln x.lc) (.slice x.FA x.fn x.fc) (.slice x.KA x.kn x.kc) :=
    ((Only.refl (fun _ => False) (w.alloc _)).alloc _).heap (heap_alloc_new w _) id
  have z0 : Bv ((w.alloc (.cells #[.int .i64 x.kind, .string x.text, .slice x.LA x.ln x.lc, .slice x.FA x.fn x.fc, .slice x.KA x.kn x.kc] 26)).alloc (.cells #[.int .i64 0, .string ⟨#[]⟩, .slice none 0 0, .slice none 0 0, .slice none 0 0] 26)) (w.heap.size + 1) 0 ⟨#[]⟩ (.slice none 0 0) (.slice none 0 0) (.slice none 0 0) := by
    have h := heap_alloc_new (w.alloc (.cells #[.int .i64 x.kind, .string x.text, .slice x.LA x.ln x.lc, .slice x.FA x.fn x.fc, .slice x.KA x.kn x.kc] 26)) (.cells #[.int .i64 0, .string ⟨#[]⟩, .slice none 0 0, .slice none 0 0, .slice none 0 0] 26)
    rw [World.size_alloc] at h
    exact h
  have sz0 : ((w.alloc (.cells #[.int .i64 x.kind, .string x.text, .slice x.LA x.ln x.lc, .slice x.FA x.fn x.fc, .slice x.KA x.kn x.kc] 26)).alloc (.cells #[.int .i64 0, .string ⟨#[]⟩, .slice none 0 0, .slice none 0 0, .slice none 0 0] 26)).heap.size = w.heap.size + 2 := by simp
  go_enter Try.func20, Try.ntmps20
  go_wp2_with fail
  refine (cloneS_calls x.LA x.ln x.lc x.list _ (hr.l.below b0) (by have := hs.ln; omega)).mono ?_
  rintro e w1 ⟨v1, rfl, o1, b1⟩
  obtain ⟨A1, c1, rfl⟩ := own_form o1
  have hl1 : x.list.length = x.ln := rds_len hr.l
  have R1 : RdS w1 A1 x.ln x.ln x.list := by have h := clip_rd (rds_own o1); rwa [hl1] at h
  have V1 : Wr w1 9 1 x.ln x.ln A1 := by have h := (wr_own o1).clip; rwa [hl1] at h
  have cap1 : x.ln ≤ c1 := by have h := (rds_own o1).cap; omega
  have N1 := nw_own o1
  rw [sz0] at N1
  have p1 := p0.below b1
  have z1 := z0.below b1
  have B1 := b0.trans (b1.mono b0.size)
  have sz1 := b1.size
  rw [sz0] at sz1
  clear p0 z0 b0 b1 o1 sz0
  have q23 := p1.cells.2.2.2.1
  have f2 := p1.free 2
  have q2 := p1.cells.2.2.1
  have hclip := clipS_calls A1 x.ln c1 w1 cap1
  rw [hl1]
  go_wp2_with fail
  refine hclip.mono ?_
  rintro e w1' ⟨rfl, rfl⟩
  go_wp2_with fail
  obtain ⟨w3, hw⟩ : ∃ w3, w1'.setCell ⟨w.heap.size, 2, none⟩ (.slice A1 x.ln x.ln) = w3 := ⟨_, rfl⟩
  have p3 := p1.putL (.slice A1 x.ln x.ln)
  have z3 := ((Only.refl (fun k => k = w.heap.size) w1').put (p := ⟨w.heap.size, 2, none⟩) (.inl rfl) (.slice A1 x.ln x.ln)).heap z1 (by omega)
  have B3 := B1.setCell (p := ⟨w.heap.size, 2, none⟩) (Nat.le_refl _) (.slice A1 x.ln x.ln)
  have hsz := ((Only.refl (fun k => k = w.heap.size) w1').put (p := ⟨w.heap.size, 2, none⟩) (.inl rfl) (.slice A1 x.ln x.ln)).size
  have R13 := rd_set (b := w.heap.size) (i := 2) R1 (fun ad e => by have := N1 ad e; omega) (.slice A1 x.ln x.ln)
  have V13 := V1.put w.heap.size 2 (.slice A1 x.ln x.ln)
  rw [hw] at p3 z3 B3 hsz R13 V13 ⊢
  clear hw
  have sz3 : w.heap.size + 2 ≤ w3.heap.size := by omega
  clear hsz f2 q2 q23 hclip p1 z1 B1 R1 sz1
  have q3 := p3.cells.2.2.2.1
  have f3 := p3.free 3
  refine (cloneF_calls x.FA x.fn x.fc x.flds _ (hr.f.below B3) (by have := hs.fn; omega)).mono ?_
  rintro e w4 ⟨v4, rfl, o4, b4⟩
  obtain ⟨A4, c4, rfl⟩ := own_form o4
  have hl4 : x.flds.length = x.fn := rdf_len hr.f
  have R4 : RdF w4 A4 x.fn x.fn x.flds := by have h := clip_rd (Rd.of_own (by unfold OwnF at o4; rw [own_n o4] at o4; exact o4)); rwa [hl4] at h
  have V4 : Wr w4 49 2 x.fn x.fn A4 := by have h := (wr_own o4).clip; rwa [hl4] at h
  have V14 := V13.below b4
  have cap4 : x.fn ≤ c4 := by have h := (Rd.of_own (by unfold OwnF at o4; rw [own_n o4] at o4; exact o4)).cap; omega
  have N4 := nw_own o4
  have p4 := p3.below b4
  have z4 : Bv w4 (w.heap.size + 1) 0 ⟨#[]⟩ (.slice none 0 0) (.slice none 0 0) (.slice none 0 0) := Bv.below z3 b4
  have R14 := R13.below b4
  have B4 := B3.trans (b4.mono B3.size)
  have sz4 := b4.size
  clear p3 z3 B3 R13 b4 o4 q3 f3
  have f4 := p4.free 3
  have q4 := p4.cells.2.2.2.1
  have q44 := p4.cells.2.2.2.2
  have hclip := clipF_calls A4 x.fn c4 w4 cap4
  rw [hl4]
  go_wp2_with fail
  refine hclip.mono ?_
  rintro e w4' ⟨rfl, rfl⟩
  go_wp2_with fail
  obtain ⟨w5, hw⟩ : ∃ w5, w4'.setCell ⟨w.heap.size, 3, none⟩ (.slice A4 x.fn x.fn) = w5 := ⟨_, rfl⟩
  have p5 := p4.putF (.slice A4 x.fn x.fn)
  have z5 := ((Only.refl (fun k => k = w.heap.size) w4').put (p := ⟨w.heap.size, 3, none⟩) (.inl rfl) (.slice A4 x.fn x.fn)).heap z4 (by omega)
  have B5 := B4.setCell (p := ⟨w.heap.size, 3, none⟩) (Nat.le_refl _) (.slice A4 x.fn x.fn)
  have hsz := ((Only.refl (fun k => k = w.heap.size) w4').put (p := ⟨w.heap.size, 3, none⟩) (.inl rfl) (.slice A4 x.fn x.fn)).size
  have R15 := rd_set (b := w.heap.size) (i := 3) R14 (fun ad e => by have := N1 ad e; omega) (.slice A4 x.fn x.fn)
  have R45 := rd_set (b := w.heap.size) (i := 3) R4 (fun ad e => by have := N4 ad e; omega) (.slice A4 x.fn x.fn)
  have V15 := V14.put w.heap.size 3 (.slice A4 x.fn x.fn)
  have V45 := V4.put w.heap.size 3 (.slice A4 x.fn x.fn)
  rw [hw] at p5 z5 B5 hsz R15 R45 V15 V45 ⊢
  clear hw
  have sz5 : w.heap.size + 2 ≤ w5.heap.size := by omega
  clear hsz f4 q4 q44 hclip p4 z4 B4 R14 R4 sz4
  have q5 := p5.cells.2.2.2.2
  have f5 := p5.free 4
  refine (cloneK_calls x.KA x.kn x.kc x.rank _ (hr.k.below B5) (by have := hs.kn; omega)).mono ?_
  rintro e w6 ⟨v6, rfl, o6, b6⟩
  obtain ⟨A6, c6, rfl⟩ := own_form o6
  have hl6 : x.rank.length = x.kn := rdk_len hr.k
  have R6 : RdK w6 A6 x.kn x.kn x.rank := by have h := clip_rd (Rd.of_own (by unfold OwnK at o6; rw [own_n o6] at o6; exact o6)); rwa [hl6] at h
  have V6 : Wr w6 51 2 x.kn x.kn A6 := by have h := (wr_own o6).clip; rwa [hl6] at h
  have V16 := V15.below b6
  have V46 := V45.below b6
  have cap6 : x.kn ≤ c6 := by have h := (Rd.of_own (by unfold OwnK at o6; rw [own_n o6] at o6; exact o6)).cap; omega
  have N6 := nw_own o6
  have p6 := p5.below b6
  have z6 : Bv w6 (w.heap.size + 1) 0 ⟨#[]⟩ (.slice none 0 0) (.slice none 0 0) (.slice none 0 0) := Bv.below z5 b6
  have R16 := R15.below b6
  have R46 := R45.below b6
  have B6 := B5.trans (b6.mono B5.size)
  have sz6 := b6.size
  clear p5 z5 B5 R15 R45 b6 o6 q5 f5
  have f6 := p6.free 4
  obtain ⟨r0, r1, r2, r3, q6⟩ := p6.cells
  have hclip := clipK_calls A6 x.kn c6 w6 cap6
  rw [hl6]
  go_wp2_with fail
  refine hclip.mono ?_
  rintro e w6' ⟨rfl, rfl⟩
  obtain ⟨s0, s1, s2, s3, s4⟩ := z6.cells
  have g0 := z6.free 0
  have g1 := z6.free 1
  have g2 := z6.free 2
  have g3 := z6.free 3
  have g4 := z6.free 4
  go_wp2_with fail
  have O : Only (fun b => b = w.heap.size ∨ b = w.heap.size + 1) w6' ((((((w6'.setCell ⟨w.heap.size, 4, none⟩ (.slice A6 x.kn x.kn)).setCell ⟨w.heap.size + 1, 0, none⟩ (.int .i64 x.kind)).setCell ⟨w.heap.size + 1, 1, none⟩ (.string x.text)).setCell ⟨w.heap.size + 1, 2, none⟩ (.slice A1 x.ln x.ln)).setCell ⟨w.heap.size + 1, 3, none⟩ (.slice A4 x.fn x.fn)).setCell ⟨w.heap.size + 1, 4, none⟩ (.slice A6 x.kn x.kn)) :=
    ((((((Only.refl _ w6').put (p := ⟨w.heap.size, 4, none⟩) (.inl (.inl rfl)) _).put (p := ⟨w.heap.size + 1, 0, none⟩) (.inl (.inr rfl)) _).put (p := ⟨w.heap.size + 1, 1, none⟩) (.inl (.inr rfl)) _).put (p := ⟨w.heap.size + 1, 2, none⟩) (.inl (.inr rfl)) _).put (p := ⟨w.heap.size + 1, 3, none⟩) (.inl (.inr rfl)) _).put (p := ⟨w.heap.size + 1, 4, none⟩) (.inl (.inr rfl)) _
  have zF : Bv ((((((w6'.setCell ⟨w.heap.size, 4, none⟩ (.slice A6 x.kn x.kn)).setCell ⟨w.heap.size + 1, 0, none⟩ (.int .i64 x.kind)).setCell ⟨w.heap.size + 1, 1, none⟩ (.string x.text)).setCell ⟨w.heap.size + 1, 2, none⟩ (.slice A1 x.ln x.ln)).setCell ⟨w.heap.size + 1, 3, none⟩ (.slice A4 x.fn x.fn)).setCell ⟨w.heap.size + 1, 4, none⟩ (.slice A6 x.kn x.kn)) (w.heap.size + 1) x.kind x.text (.slice A1 x.ln x.ln) (.slice A4 x.fn x.fn) (.slice A6 x.kn x.kn) := by
    unfold Bv at z6 ⊢
    simp [World.setCell, Array.getElem?_modify, z6]
  obtain ⟨wF, hwF⟩ : ∃ wF, ((((((w6'.setCell ⟨w.heap.size, 4, none⟩ (.slice A6 x.kn x.kn)).setCell ⟨w.heap.size + 1, 0, none⟩ (.int .i64 x.kind)).setCell ⟨w.heap.size + 1, 1, none⟩ (.string x.text)).setCell ⟨w.heap.size + 1, 2, none⟩ (.slice A1 x.ln x.ln)).setCell ⟨w.heap.size + 1, 3, none⟩ (.slice A4 x.fn x.fn)).setCell ⟨w.heap.size + 1, 4, none⟩ (.slice A6 x.kn x.kn)) = wF := ⟨_, rfl⟩
  rw [hwF] at O zF ⊢
  obtain ⟨t0, t1, t2, t3, t4⟩ := zF.cells
  refine bodyPost_ret (v := .agg #[.int .i64 x.kind, .string x.text, .slice A1 x.ln x.ln, .slice A4 x.fn x.fn, .slice A6 x.kn x.kn]) (by simp [results, Try.f20, go_sem, t0, t1, t2, t3, t4]) rfl ?_
  have hN1 : ∀ ad, A1 = some ad → ¬ (ad.block = w.heap.size ∨ ad.block = w.heap.size + 1) := fun ad e h => by have := N1 ad e; omega
  have hN4 : ∀ ad, A4 = some ad → ¬ (ad.block = w.heap.size ∨ ad.block = w.heap.size + 1) := fun ad e h => by have := N4 ad e; omega
  have hN6 : ∀ ad, A6 = some ad → ¬ (ad.block = w.heap.size ∨ ad.block = w.heap.size + 1) := fun ad e h => by have := N6 ad e; omega
  exact ⟨{ x with LA := A1, lc := x.ln, FA := A4, fc := x.fn, KA := A6, kc := x.kn }, rfl, rfl, rfl, rfl, rfl, rfl, ⟨R16.only O hN1, R46.only O hN4, R6.only O hN6⟩, ⟨V16.only O hN1, V46.only O hN4, V6.only O hN6⟩, ⟨fun ad e => by have := N1 ad e; omega, fun ad e => by have := N4 ad e; omega, fun ad e => by have := N6 ad e; omega⟩, O.after B6 (Nat.le_refl _) (fun b h => by omega)⟩
end Go.Proofs.Ythglmpkcfigelaa.VcX

namespace Go.Proofs.Ythglmpkcfigelaa.VcY
open Go Go.RowKit Go.Proofs.Ythglmpkcfigelaa.Mem Go.Proofs.Ythglmpkcfigelaa.VaA Go.Proofs.Ythglmpkcfigelaa.VaC Go.Proofs.Ythglmpkcfigelaa.VaH Go.Proofs.Ythglmpkcfigelaa.VaI Go.Proofs.Ythglmpkcfigelaa.VaT Go.Proofs.Ythglmpkcfigelaa.VaW Go.Proofs.Ythglmpkcfigelaa.VaX Go.Proofs.Ythglmpkcfigelaa.VaY Go.Proofs.Ythglmpkcfigelaa.VbA Go.Proofs.Ythglmpkcfigelaa.VbB Go.Proofs.Ythglmpkcfigelaa.VbE Go.Proofs.Ythglmpkcfigelaa.VcL Go.Proofs.Ythglmpkcfigelaa.VcO Go.Proofs.Ythglmpkcfigelaa.VcQ Go.Proofs.Ythglmpkcfigelaa.VcR Go.Proofs.Ythglmpkcfigelaa.VcS Go.Proofs.Ythglmpkcfigelaa.VcV Go.Proofs.Ythglmpkcfigelaa.VcW Go.Proofs.Ythglmpkcfigelaa.VcX

/-- What a copy is. -/
structure Cp (w0 : World) (y u : VV) (w : World) : Prop where
  s : sameV u y = true
  r : RdV w u
  w : WrV w u
  n : Nw w0.heap.size u.LA ∧ Nw w0.heap.size u.FA ∧ Nw w0.heap.size u.KA

/-- An empty box. -/
abbrev Zv (w : World) (g : Nat) : Prop := Bv w g 0 ⟨#[]⟩ (.slice none 0 0) (.slice none 0 0) (.slice none 0 0)
abbrev zo : Obj := .cells #[.int .i64 0, .string ⟨#[]⟩, .slice none 0 0, .slice none 0 0, .slice none 0 0] 26
section
variable {X w9 : World}
theorem after_one (bb : Below (X.alloc zo).heap.size (X.alloc zo) w9) : Zv w9 X.heap.size := Bv.below (heap_alloc_new X zo) bb
theorem after_two (bb : Below ((X.alloc zo).alloc zo).heap.size ((X.alloc zo).alloc zo) w9) : Zv w9 X.heap.size ∧ Zv w9 (X.heap.size + 1) := by
  have h := heap_alloc_new (X.alloc zo) zo
  rw [World.size_alloc] at h
  exact ⟨Bv.below (((Only.refl (fun _ => False) (X.alloc zo)).alloc zo).heap (heap_alloc_new X zo) id) bb, Bv.below h bb⟩
theorem undrew (bb : Below X.drew.heap.size X.drew w9) : Below X.heap.size X w9 := ((Below.refl _ X).drew).trans bb
theorem below_1 {o : Obj} (bb : Below (X.alloc o).heap.size (X.alloc o) w9) : Below X.heap.size X w9 := (al X o).trans (bb.mono (al X o).size)
theorem below_2 {o o' : Obj} (bb : Below ((X.alloc o).alloc o').heap.size ((X.alloc o).alloc o') w9) : Below X.heap.size X w9 := below_1 (below_1 bb)
theorem bv_below1 {g : Nat} {k : Int} {t : ByteArray} {L F K : Value} (h : Bv X g k t L F K) (bb : Below (X.alloc zo).heap.size (X.alloc zo) w9) : Bv w9 g k t L F K :=
  Bv.below (((Only.refl (fun _ => False) X).alloc zo).heap h id) bb
theorem box_all {g : Nat} {k : Int} {t : ByteArray} {L F K : Value} (h : Bv X g k t L F K) :
    (X.cell? ⟨g, 0, none⟩ = some (.int .i64 k) ∧ X.cell? ⟨g, 1, none⟩ = some (.string t) ∧ X.cell? ⟨g, 2, none⟩ = some L ∧ X.cell? ⟨g, 3, none⟩ = some F ∧ X.cell? ⟨g, 4, none⟩ = some K) ∧
    ((∀ o, (X.alloc o).cell? ⟨g, 0, none⟩ = some (.int .i64 k)) ∧ (∀ o, (X.alloc o).cell? ⟨g, 1, none⟩ = some (.string t)) ∧ (∀ o, (X.alloc o).cell? ⟨g, 2, none⟩ = some L) ∧ (∀ o, (X.alloc o).cell? ⟨g, 3, none⟩ = some F) ∧ (∀ o, (X.alloc o).cell? ⟨g, 4, none⟩ = some K)) ∧
    ((∀ o o', ((X.alloc o).alloc o').cell? ⟨g, 0, none⟩ = some (.int .i64 k)) ∧ (∀ o o', ((X.alloc o).alloc o').cell? ⟨g, 1, none⟩ = some (.string t)) ∧ (∀ o o', ((X.alloc o).alloc o').cell? ⟨g, 2, none⟩ = some L) ∧ (∀ o o', ((X.alloc o).alloc o').cell? ⟨g, 3, none⟩ = some F) ∧ (∀ o o', ((X.alloc o).alloc o').cell? ⟨g, 4, none⟩ = some K)) := by
  obtain ⟨h0, h1, h2, h3, h4⟩ := h.cells
  exact ⟨⟨h0, h1, h2, h3, h4⟩, ⟨fun o => cell_al h0 o, fun o => cell_al h1 o, fun o => cell_al h2 o, fun o => cell_al h3 o, fun o => cell_al h4 o⟩, fun o o' => cell_al (cell_al h0 o) o', fun o o' => cell_al (cell_al h1 o) o', fun o o' => cell_al (cell_al h2 o) o', fun o o' => cell_al (cell_al h3 o) o', fun o o' => cell_al (cell_al h4 o) o'⟩
theorem bv_all {g : Nat} (h : Zv X g) : (X.cell? ⟨g, 0, none⟩ = some (.int .i64 0) ∧ X.cell? ⟨g, 1, none⟩ = some (.string ⟨#[]⟩) ∧ X.cell? ⟨g, 2, none⟩ = some (.slice none 0 0) ∧ X.cell? ⟨g, 3, none⟩ = some (.slice none 0 0) ∧ X.cell? ⟨g, 4, none⟩ = some (.slice none 0 0)) ∧
    (X.frozen? ⟨g, 0, none⟩ = false ∧ X.frozen? ⟨g, 1, none⟩ = false ∧ X.frozen? ⟨g, 2, none⟩ = false ∧ X.frozen? ⟨g, 3, none⟩ = false ∧ X.frozen? ⟨g, 4, none⟩ = false) ∧
    ((∀ o, (X.alloc o).cell? ⟨g, 0, none⟩ = some (.int .i64 0)) ∧ (∀ o, (X.alloc o).cell? ⟨g, 1, none⟩ = some (.string ⟨#[]⟩)) ∧ (∀ o, (X.alloc o).cell? ⟨g, 2, none⟩ = some (.slice none 0 0)) ∧ (∀ o, (X.alloc o).cell? ⟨g, 3, none⟩ = some (.slice none 0 0)) ∧ (∀ o, (X.alloc o).cell? ⟨g, 4, none⟩ = some (.slice none 0 0))) ∧
    ((∀ o, (X.alloc o).frozen? ⟨g, 0, none⟩ = false) ∧ (∀ o, (X.alloc o).frozen? ⟨g, 1, none⟩ = false) ∧ (∀ o, (X.alloc o).frozen? ⟨g, 2, none⟩ = false) ∧ (∀ o, (X.alloc o).frozen? ⟨g, 3, none⟩ = false) ∧ (∀ o, (X.alloc o).frozen? ⟨g, 4, none⟩ = false)) ∧ g < X.heap.size := by
  have ha : ∀ o, Zv (X.alloc o) g := fun o => ((Only.refl (fun _ => False) X).alloc o).heap h id
  exact ⟨h.cells, ⟨h.free 0, h.free 1, h.free 2, h.free 3, h.free 4⟩, ⟨fun o => (ha o).cells.1, fun o => (ha o).cells.2.1, fun o => (ha o).cells.2.2.1, fun o => (ha o).cells.2.2.2.1, fun o => (ha o).cells.2.2.2.2⟩, ⟨fun o => (ha o).free 0, fun o => (ha o).free 1, fun o => (ha o).free 2, fun o => (ha o).free 3, fun o => (ha o).free 4⟩, (Array.getElem?_eq_some_iff.1 h).1⟩
theorem lt_of_bv {g : Nat} {k : Int} {t : ByteArray} {L F K : Value} (h : Bv X g k t L F K) : g < X.heap.size := (Array.getElem?_eq_some_iff.1 h).1
end
/-- Both copies in their boxes. -/
structure Two (W2 : World) (y : VV) (ga gb : Nat) (u1 u2 : VV) (w : World) : Prop where
  b1 : Bv w ga u1.kind u1.text (.slice u1.LA u1.ln u1.lc) (.slice u1.FA u1.fn u1.fc) (.slice u1.KA u1.kn u1.kc)
  b2 : Bv w gb u2.kind u2.text (.slice u2.LA u2.ln u2.lc) (.slice u2.FA u2.fn u2.fc) (.slice u2.KA u2.kn u2.kc)
  s1 : sameV u1 y = true
  s2 : sameV u2 y = true
  w1 : WrV w u1
  r1 : RdV w u1
  r2 : RdV w u2
  t : ∀ k, Tch u1 k → W2.heap.size ≤ k
  ta : ¬ Tch u1 ga
  tb : ¬ Tch u1 gb
  tl : ∀ ad, u2.LA = some ad → ¬ Tch u1 ad.block
  tf : ∀ ad, u2.FA = some ad → ¬ Tch u1 ad.block
  tk : ∀ ad, u2.KA = some ad → ¬ Tch u1 ad.block
  b : Below W2.heap.size W2 w
theorem tch_ge {w0 w : World} {y u : VV} (h : Cp w0 y u w) {k : Nat} (hk : Tch u k) : w0.heap.size ≤ k := by
  rcases hk with ⟨a, h1, rfl⟩ | ⟨a, h1, rfl⟩ | ⟨a, h1, rfl⟩
  · exact h.n.1 a h1
  · exact h.n.2.1 a h1
  · exact h.n.2.2 a h1
theorem two_core {W2 pre wa pre2 wb X : World} {y u1 u2 : VV} {ga gb : Nat} (hp : W2.heap.size ≤ pre.heap.size) (BN : Below W2.heap.size W2 wa) (c1 : Cp pre y u1 wa) (c2 : Cp pre2 y u2 wb) (h2 : wa.heap.size ≤ pre2.heap.size) (bw : Below wa.heap.size wa wb)
    (f1 : Bv X ga u1.kind u1.text (.slice u1.LA u1.ln u1.lc) (.slice u1.FA u1.fn u1.fc) (.slice u1.KA u1.kn u1.kc)) (f2 : Bv X gb u2.kind u2.text (.slice u2.LA u2.ln u2.lc) (.slice u2.FA u2.fn u2.fc) (.slice u2.KA u2.kn u2.kc)) (o : Only (fun k => k = ga ∨ k = gb) wb X)
    (ha : ga < pre.heap.size ∨ wa.heap.size ≤ ga) (hb : gb < pre.heap.size ∨ wa.heap.size ≤ gb) (ha2 : ga < pre2.heap.size ∨ wb.heap.size ≤ ga) (hb2 : gb < pre2.heap.size ∨ wb.heap.size ≤ gb) (hla : W2.heap.size ≤ ga) (hlb : W2.heap.size ≤ gb) :
    Two W2 y ga gb u1 u2 X := by
  have wX := c1.w.below bw
  have rX := c1.r.below bw
  have r2X := c2.r
  have lt1 : ∀ k, Tch u1 k → pre.heap.size ≤ k ∧ k < wa.heap.size := fun k hk => ⟨tch_ge c1 hk, tch_lt c1.w hk⟩
  have lt2 : ∀ k, Tch u2 k → pre2.heap.size ≤ k ∧ k < wb.heap.size := fun k hk => ⟨tch_ge c2 hk, tch_lt c2.w hk⟩
  have na : ¬ Tch u1 ga := fun h => by have := lt1 _ h; omega
  have nb : ¬ Tch u1 gb := fun h => by have := lt1 _ h; omega
  have na2 : ¬ Tch u2 ga := fun h => by have := lt2 _ h; omega
  have nb2 : ¬ Tch u2 gb := fun h => by have := lt2 _ h; omega
  have tn1 : ∀ k, Tch u1 k → ¬ (k = ga ∨ k = gb) := fun k hk h => by rcases h with rfl | rfl <;> contradiction
  have tn2 : ∀ k, Tch u2 k → ¬ (k = ga ∨ k = gb) := fun k hk h => by rcases h with rfl | rfl <;> contradiction
  have tx : ∀ k, Tch u2 k → ¬ Tch u1 k := fun k hk h => by have := lt2 k hk; have := lt1 k h; omega
  have l1 : ∀ ad, u1.LA = some ad → Tch u1 ad.block := fun ad e => .inl ⟨ad, e, rfl⟩
  have l2 : ∀ ad, u1.FA = some ad → Tch u1 ad.block := fun ad e => .inr (.inl ⟨ad, e, rfl⟩)
  have l3 : ∀ ad, u1.KA = some ad → Tch u1 ad.block := fun ad e => .inr (.inr ⟨ad, e, rfl⟩)
  have m1 : ∀ ad, u2.LA = some ad → Tch u2 ad.block := fun ad e => .inl ⟨ad, e, rfl⟩
  have m2 : ∀ ad, u2.FA = some ad → Tch u2 ad.block := fun ad e => .inr (.inl ⟨ad, e, rfl⟩)
  have m3 : ∀ ad, u2.KA = some ad → Tch u2 ad.block := fun ad e => .inr (.inr ⟨ad, e, rfl⟩)
  exact ⟨f1, f2, c1.s, c2.s, ⟨wX.l.only o (fun ad e => tn1 _ (l1 ad e)), wX.f.only o (fun ad e => tn1 _ (l2 ad e)), wX.k.only o (fun ad e => tn1 _ (l3 ad e))⟩,
    ⟨rX.l.only o (fun ad e => tn1 _ (l1 ad e)), rX.f.only o (fun ad e => tn1 _ (l2 ad e)), rX.k.only o (fun ad e => tn1 _ (l3 ad e))⟩,
    ⟨r2X.l.only o (fun ad e => tn2 _ (m1 ad e)), r2X.f.only o (fun ad e => tn2 _ (m2 ad e)), r2X.k.only o (fun ad e => tn2 _ (m3 ad e))⟩,
    fun k hk => by have := lt1 k hk; omega, na, nb, fun ad e => tx _ (m1 ad e), fun ad e => tx _ (m2 ad e), fun ad e => tx _ (m3 ad e),
    o.after (BN.trans (bw.mono BN.size)) (Nat.le_refl _) (fun b hb => by rcases hb with rfl | rfl <;> assumption)⟩
theorem f10 {X : World} {ga gb : Nat} (u v : VV) (za : Zv X ga) (zb : Zv X gb) (hne : ga ≠ gb) : Bv ((((((((((X.setCell ⟨ga, 0, none⟩ (.int .i64 u.kind)).setCell ⟨ga, 1, none⟩ (.string u.text)).setCell ⟨ga, 2, none⟩ (.slice u.LA u.ln u.lc)).setCell ⟨ga, 3, none⟩ (.slice u.FA u.fn u.fc)).setCell ⟨ga, 4, none⟩ (.slice u.KA u.kn u.kc)).setCell ⟨gb, 0, none⟩ (.int .i64 v.kind)).setCell ⟨gb, 1, none⟩ (.string v.text)).setCell ⟨gb, 2, none⟩ (.slice v.LA v.ln v.lc)).setCell ⟨gb, 3, none⟩ (.slice v.FA v.fn v.fc)).setCell ⟨gb, 4, none⟩ (.slice v.KA v.kn v.kc)) ga u.kind u.text (.slice u.LA u.ln u.lc) (.slice u.FA u.fn u.fc) (.slice u.KA u.kn u.kc) ∧ Bv ((((((((((X.setCell ⟨ga, 0, none⟩ (.int .i64 u.kind)).setCell ⟨ga, 1, none⟩ (.string u.text)).setCell ⟨ga, 2, none⟩ (.slice u.LA u.ln u.lc)).setCell ⟨ga, 3, none⟩ (.slice u.FA u.fn u.fc)).setCell ⟨ga, 4, none⟩ (.slice u.KA u.kn u.kc)).setCell ⟨gb, 0, none⟩ (.int .i64 v.kind)).setCell ⟨gb, 1, none⟩ (.string v.text)).setCell ⟨gb, 2, none⟩ (.slice v.LA v.ln v.lc)).setCell ⟨gb, 3, none⟩ (.slice v.FA v.fn v.fc)).setCell ⟨gb, 4, none⟩ (.slice v.KA v.kn v.kc)) gb v.kind v.text (.slice v.LA v.ln v.lc) (.slice v.FA v.fn v.fc) (.slice v.KA v.kn v.kc) ∧ Only (fun k => k = ga ∨ k = gb) X ((((((((((X.setCell ⟨ga, 0, none⟩ (.int .i64 u.kind)).setCell ⟨ga, 1, none⟩ (.string u.text)).setCell ⟨ga, 2, none⟩ (.slice u.LA u.ln u.lc)).setCell ⟨ga, 3, none⟩ (.slice u.FA u.fn u.fc)).setCell ⟨ga, 4, none⟩ (.slice u.KA u.kn u.kc)).setCell ⟨gb, 0, none⟩ (.int .i64 v.kind)).setCell ⟨gb, 1, none⟩ (.string v.text)).setCell ⟨gb, 2, none⟩ (.slice v.LA v.ln v.lc)).setCell ⟨gb, 3, none⟩ (.slice v.FA v.fn v.fc)).setCell ⟨gb, 4, none⟩ (.slice v.KA v.kn v.kc)) := by
  have o1 := onlyh (h := ga) (wr := X) (.int .i64 u.kind) (.string u.text) (.slice u.LA u.ln u.lc) (.slice u.FA u.fn u.fc) (.slice u.KA u.kn u.kc)
  have f1 := bv_set (k' := u.kind) (t' := u.text) za (.slice u.LA u.ln u.lc) (.slice u.FA u.fn u.fc) (.slice u.KA u.kn u.kc)
  generalize (((((X.setCell ⟨ga, 0, none⟩ (.int .i64 u.kind)).setCell ⟨ga, 1, none⟩ (.string u.text)).setCell ⟨ga, 2, none⟩ (.slice u.LA u.ln u.lc)).setCell ⟨ga, 3, none⟩ (.slice u.FA u.fn u.fc)).setCell ⟨ga, 4, none⟩ (.slice u.KA u.kn u.kc)) = Y at o1 f1 ⊢
  have o2 := onlyh (h := gb) (wr := Y) (.int .i64 v.kind) (.string v.text) (.slice v.LA v.ln v.lc) (.slice v.FA v.fn v.fc) (.slice v.KA v.kn v.kc)
  have f2 := bv_set (k' := v.kind) (t' := v.text) (o1.heap zb (fun e => hne e.symm)) (.slice v.LA v.ln v.lc) (.slice v.FA v.fn v.fc) (.slice v.KA v.kn v.kc)
  generalize (((((Y.setCell ⟨gb, 0, none⟩ (.int .i64 v.kind)).setCell ⟨gb, 1, none⟩ (.string v.text)).setCell ⟨gb, 2, none⟩ (.slice v.LA v.ln v.lc)).setCell ⟨gb, 3, none⟩ (.slice v.FA v.fn v.fc)).setCell ⟨gb, 4, none⟩ (.slice v.KA v.kn v.kc)) = Z at o2 f2 ⊢
  exact ⟨o2.heap f1 (fun e => hne e), f2, (o1.mono (fun b h => .inl h)).trans o2 (fun b h => .inl (.inr h))⟩
theorem f5 {X : World} {ga : Nat} (u v : VV) (za : Zv X ga) : Bv ((((((X.setCell ⟨ga, 0, none⟩ (.int .i64 u.kind)).setCell ⟨ga, 1, none⟩ (.string u.text)).setCell ⟨ga, 2, none⟩ (.slice u.LA u.ln u.lc)).setCell ⟨ga, 3, none⟩ (.slice u.FA u.fn u.fc)).setCell ⟨ga, 4, none⟩ (.slice u.KA u.kn u.kc)).alloc (.cells #[.int .i64 v.kind, .string v.text, .slice v.LA v.ln v.lc, .slice v.FA v.fn v.fc, .slice v.KA v.kn v.kc] 26)) ga u.kind u.text (.slice u.LA u.ln u.lc) (.slice u.FA u.fn u.fc) (.slice u.KA u.kn u.kc) ∧ Bv ((((((X.setCell ⟨ga, 0, none⟩ (.int .i64 u.kind)).setCell ⟨ga, 1, none⟩ (.string u.text)).setCell ⟨ga, 2, none⟩ (.slice u.LA u.ln u.lc)).setCell ⟨ga, 3, none⟩ (.slice u.FA u.fn u.fc)).setCell ⟨ga, 4, none⟩ (.slice u.KA u.kn u.kc)).alloc (.cells #[.int .i64 v.kind, .string v.text, .slice v.LA v.ln v.lc, .slice v.FA v.fn v.fc, .slice v.KA v.kn v.kc] 26)) X.heap.size v.kind v.text (.slice v.LA v.ln v.lc) (.slice v.FA v.fn v.fc) (.slice v.KA v.kn v.kc) ∧ Only (fun k => k = ga ∨ k = X.heap.size) X ((((((X.setCell ⟨ga, 0, none⟩ (.int .i64 u.kind)).setCell ⟨ga, 1, none⟩ (.string u.text)).setCell ⟨ga, 2, none⟩ (.slice u.LA u.ln u.lc)).setCell ⟨ga, 3, none⟩ (.slice u.FA u.fn u.fc)).setCell ⟨ga, 4, none⟩ (.slice u.KA u.kn u.kc)).alloc (.cells #[.int .i64 v.kind, .string v.text, .slice v.LA v.ln v.lc, .slice v.FA v.fn v.fc, .slice v.KA v.kn v.kc] 26)) := by
  have o1 := onlyh (h := ga) (wr := X) (.int .i64 u.kind) (.string u.text) (.slice u.LA u.ln u.lc) (.slice u.FA u.fn u.fc) (.slice u.KA u.kn u.kc)
  have f1 := bv_set (k' := u.kind) (t' := u.text) za (.slice u.LA u.ln u.lc) (.slice u.FA u.fn u.fc) (.slice u.KA u.kn u.kc)
  have hs : (((((X.setCell ⟨ga, 0, none⟩ (.int .i64 u.kind)).setCell ⟨ga, 1, none⟩ (.string u.text)).setCell ⟨ga, 2, none⟩ (.slice u.LA u.ln u.lc)).setCell ⟨ga, 3, none⟩ (.slice u.FA u.fn u.fc)).setCell ⟨ga, 4, none⟩ (.slice u.KA u.kn u.kc)).heap.size = X.heap.size := by simp
  generalize (((((X.setCell ⟨ga, 0, none⟩ (.int .i64 u.kind)).setCell ⟨ga, 1, none⟩ (.string u.text)).setCell ⟨ga, 2, none⟩ (.slice u.LA u.ln u.lc)).setCell ⟨ga, 3, none⟩ (.slice u.FA u.fn u.fc)).setCell ⟨ga, 4, none⟩ (.slice u.KA u.kn u.kc)) = Y at o1 f1 hs ⊢
  have h := heap_alloc_new Y (.cells #[.int .i64 v.kind, .string v.text, .slice v.LA v.ln v.lc, .slice v.FA v.fn v.fc, .slice v.KA v.kn v.kc] 26)
  rw [hs] at h
  exact ⟨((Only.refl (fun _ => False) Y).alloc _).heap f1 id, h, (o1.mono (fun b h => .inl h)).alloc _⟩
theorem f2 {X : World} (u v : VV) : Bv ((X.alloc (.cells #[.int .i64 u.kind, .string u.text, .slice u.LA u.ln u.lc, .slice u.FA u.fn u.fc, .slice u.KA u.kn u.kc] 26)).alloc (.cells #[.int .i64 v.kind, .string v.text, .slice v.LA v.ln v.lc, .slice v.FA v.fn v.fc, .slice v.KA v.kn v.kc] 26)) X.heap.size u.kind u.text (.slice u.LA u.ln u.lc) (.slice u.FA u.fn u.fc) (.slice u.KA u.kn u.kc) ∧ Bv ((X.alloc (.cells #[.int .i64 u.kind, .string u.text, .slice u.LA u.ln u.lc, .slice u.FA u.fn u.fc, .slice u.KA u.kn u.kc] 26)).alloc (.cells #[.int .i64 v.kind, .string v.text, .slice v.LA v.ln v.lc, .slice v.FA v.fn v.fc, .slice v.KA v.kn v.kc] 26)) (X.heap.size + 1) v.kind v.text (.slice v.LA v.ln v.lc) (.slice v.FA v.fn v.fc) (.slice v.KA v.kn v.kc) ∧ Only (fun k => k = X.heap.size ∨ k = X.heap.size + 1) X ((X.alloc (.cells #[.int .i64 u.kind, .string u.text, .slice u.LA u.ln u.lc, .slice u.FA u.fn u.fc, .slice u.KA u.kn u.kc] 26)).alloc (.cells #[.int .i64 v.kind, .string v.text, .slice v.LA v.ln v.lc, .slice v.FA v.fn v.fc, .slice v.KA v.kn v.kc] 26)) := by
  have h := heap_alloc_new (X.alloc (.cells #[.int .i64 u.kind, .string u.text, .slice u.LA u.ln u.lc, .slice u.FA u.fn u.fc, .slice u.KA u.kn u.kc] 26)) (.cells #[.int .i64 v.kind, .string v.text, .slice v.LA v.ln v.lc, .slice v.FA v.fn v.fc, .slice v.KA v.kn v.kc] 26)
  rw [World.size_alloc] at h
  exact ⟨((Only.refl (fun _ => False) (X.alloc _)).alloc _).heap (heap_alloc_new X _) id, h, ((Only.refl _ X).alloc _).alloc _⟩
theorem saa0 {W2 wa wb : World} {y u1 u2 : VV} (c1 : Cp ((W2.alloc zo).alloc zo).drew y u1 wa) (b1 : Below ((W2.alloc zo).alloc zo).drew.heap.size ((W2.alloc zo).alloc zo).drew wa) (c2 : Cp wa y u2 wb) (b2 : Below wa.heap.size wa wb) : Two W2 y (W2.heap.size) (W2.heap.size + 1) u1 u2 ((((((((((wb.setCell ⟨W2.heap.size, 0, none⟩ (.int .i64 u1.kind)).setCell ⟨W2.heap.size, 1, none⟩ (.string u1.text)).setCell ⟨W2.heap.size, 2, none⟩ (.slice u1.LA u1.ln u1.lc)).setCell ⟨W2.heap.size, 3, none⟩ (.slice u1.FA u1.fn u1.fc)).setCell ⟨W2.heap.size, 4, none⟩ (.slice u1.KA u1.kn u1.kc)).setCell ⟨W2.heap.size + 1, 0, none⟩ (.int .i64 u2.kind)).setCell ⟨W2.heap.size + 1, 1, none⟩ (.string u2.text)).setCell ⟨W2.heap.size + 1, 2, none⟩ (.slice u2.LA u2.ln u2.lc)).setCell ⟨W2.heap.size + 1, 3, none⟩ (.slice u2.FA u2.fn u2.fc)).setCell ⟨W2.heap.size + 1, 4, none⟩ (.slice u2.KA u2.kn u2.kc)) := by
  have BN : Below W2.heap.size W2 wa := below_2 (undrew b1)
  have BW : Below wa.heap.size wa wb := b2
  have s1 := b1.size
  have s2 := b2.size
  simp only [World.size_alloc, World.size_drew] at s1 s2
  have s3 := BN.size
  have s4 := BW.size
  obtain ⟨x1, x2, o⟩ := f10 u1 u2 (Bv.below (after_two (undrew b1)).1 BW) (Bv.below (after_two (undrew b1)).2 BW) (by omega)
  exact two_core (by (try simp only [World.size_alloc, World.size_drew]); omega) BN c1 c2 (by (try simp only [World.size_alloc, World.size_drew]); omega) BW x1 x2 o (by (try simp only [World.size_alloc, World.size_drew]); omega) (by (try simp only [World.size_alloc, World.size_drew]); omega) (by (try simp only [World.size_alloc, World.size_drew]); omega) (by (try simp only [World.size_alloc, World.size_drew]); omega) (by omega) (by omega)
theorem saa1 {W2 wa wb : World} {y u1 u2 : VV} (c1 : Cp ((W2.alloc zo).alloc zo).drew y u1 wa) (b1 : Below ((W2.alloc zo).alloc zo).drew.heap.size ((W2.alloc zo).alloc zo).drew wa) (c2 : Cp wa y u2 wb) (b2 : Below wa.heap.size wa wb) : Two W2 y (W2.heap.size + 1) (W2.heap.size) u1 u2 ((((((((((wb.setCell ⟨W2.heap.size + 1, 0, none⟩ (.int .i64 u1.kind)).setCell ⟨W2.heap.size + 1, 1, none⟩ (.string u1.text)).setCell ⟨W2.heap.size + 1, 2, none⟩ (.slice u1.LA u1.ln u1.lc)).setCell ⟨W2.heap.size + 1, 3, none⟩ (.slice u1.FA u1.fn u1.fc)).setCell ⟨W2.heap.size + 1, 4, none⟩ (.slice u1.KA u1.kn u1.kc)).setCell ⟨W2.heap.size, 0, none⟩ (.int .i64 u2.kind)).setCell ⟨W2.heap.size, 1, none⟩ (.string u2.text)).setCell ⟨W2.heap.size, 2, none⟩ (.slice u2.LA u2.ln u2.lc)).setCell ⟨W2.heap.size, 3, none⟩ (.slice u2.FA u2.fn u2.fc)).setCell ⟨W2.heap.size, 4, none⟩ (.slice u2.KA u2.kn u2.kc)) := by
  have BN : Below W2.heap.size W2 wa := below_2 (undrew b1)
  have BW : Below wa.heap.size wa wb := b2
  have s1 := b1.size
  have s2 := b2.size
  simp only [World.size_alloc, World.size_drew] at s1 s2
  have s3 := BN.size
  have s4 := BW.size
  obtain ⟨x1, x2, o⟩ := f10 u1 u2 (Bv.below (after_two (undrew b1)).2 BW) (Bv.below (after_two (undrew b1)).1 BW) (by omega)
  exact two_core (by (try simp only [World.size_alloc, World.size_drew]); omega) BN c1 c2 (by (try simp only [World.size_alloc, World.size_drew]); omega) BW x1 x2 o (by (try simp only [World.size_alloc, World.size_drew]); omega) (by (try simp only [World.size_alloc, World.size_drew]); omega) (by (try simp only [World.size_alloc, World.size_drew]); omega) (by (try simp only [World.size_alloc, World.size_drew]); omega) (by omega) (by omega)
theorem sab0 {W2 wa wb : World} {y u1 u2 : VV} (c1 : Cp (W2.alloc zo).drew y u1 wa) (b1 : Below (W2.alloc zo).drew.heap.size (W2.alloc zo).drew wa) (c2 : Cp (wa.alloc zo) y u2 wb) (b2 : Below (wa.alloc zo).heap.size (wa.alloc zo) wb) : Two W2 y (W2.heap.size) (wa.heap.size) u1 u2 ((((((((((wb.setCell ⟨W2.heap.size, 0, none⟩ (.int .i64 u1.kind)).setCell ⟨W2.heap.size, 1, none⟩ (.string u1.text)).setCell ⟨W2.heap.size, 2, none⟩ (.slice u1.LA u1.ln u1.lc)).setCell ⟨W2.heap.size, 3, none⟩ (.slice u1.FA u1.fn u1.fc)).setCell ⟨W2.heap.size, 4, none⟩ (.slice u1.KA u1.kn u1.kc)).setCell ⟨wa.heap.size, 0, none⟩ (.int .i64 u2.kind)).setCell ⟨wa.heap.size, 1, none⟩ (.string u2.text)).setCell ⟨wa.heap.size, 2, none⟩ (.slice u2.LA u2.ln u2.lc)).setCell ⟨wa.heap.size, 3, none⟩ (.slice u2.FA u2.fn u2.fc)).setCell ⟨wa.heap.size, 4, none⟩ (.slice u2.KA u2.kn u2.kc)) := by
  have BN : Below W2.heap.size W2 wa := below_1 (undrew b1)
  have BW : Below wa.heap.size wa wb := below_1 b2
  have s1 := b1.size
  have s2 := b2.size
  simp only [World.size_alloc, World.size_drew] at s1 s2
  have s3 := BN.size
  have s4 := BW.size
  obtain ⟨x1, x2, o⟩ := f10 u1 u2 (Bv.below (after_one (undrew b1)) BW) (after_one b2) (by omega)
  exact two_core (by (try simp only [World.size_alloc, World.size_drew]); omega) BN c1 c2 (by (try simp only [World.size_alloc, World.size_drew]); omega) BW x1 x2 o (by (try simp only [World.size_alloc, World.size_drew]); omega) (by (try simp only [World.size_alloc, World.size_drew]); omega) (by (try simp only [World.size_alloc, World.size_drew]); omega) (by (try simp only [World.size_alloc, World.size_drew]); omega) (by omega) (by omega)
theorem sac0 {W2 wa wb : World} {y u1 u2 : VV} (c1 : Cp (W2.alloc zo).drew y u1 wa) (b1 : Below (W2.alloc zo).drew.heap.size (W2.alloc zo).drew wa) (c2 : Cp wa y u2 wb) (b2 : Below wa.heap.size wa wb) : Two W2 y (W2.heap.size) (wb.heap.size) u1 u2 ((((((wb.setCell ⟨W2.heap.size, 0, none⟩ (.int .i64 u1.kind)).setCell ⟨W2.heap.size, 1, none⟩ (.string u1.text)).setCell ⟨W2.heap.size, 2, none⟩ (.slice u1.LA u1.ln u1.lc)).setCell ⟨W2.heap.size, 3, none⟩ (.slice u1.FA u1.fn u1.fc)).setCell ⟨W2.heap.size, 4, none⟩ (.slice u1.KA u1.kn u1.kc)).alloc (.cells #[.int .i64 u2.kind, .string u2.text, .slice u2.LA u2.ln u2.lc, .slice u2.FA u2.fn u2.fc, .slice u2.KA u2.kn u2.kc] 26)) := by
  have BN : Below W2.heap.size W2 wa := below_1 (undrew b1)
  have BW : Below wa.heap.size wa wb := b2
  have s1 := b1.size
  have s2 := b2.size
  simp only [World.size_alloc, World.size_drew] at s1 s2
  have s3 := BN.size
  have s4 := BW.size
  obtain ⟨x1, x2, o⟩ := f5 u1 u2 (Bv.below (after_one (undrew b1)) BW)
  exact two_core (by (try simp only [World.size_alloc, World.size_drew]); omega) BN c1 c2 (by (try simp only [World.size_alloc, World.size_drew]); omega) BW x1 x2 o (by (try simp only [World.size_alloc, World.size_drew]); omega) (by (try simp only [World.size_alloc, World.size_drew]); omega) (by (try simp only [World.size_alloc, World.size_drew]); omega) (by (try simp only [World.size_alloc, World.size_drew]); omega) (by omega) (by omega)
theorem sba0 {W2 wa wb : World} {y u1 u2 : VV} (c1 : Cp (W2.alloc zo).drew y u1 wa) (b1 : Below (W2.alloc zo).drew.heap.size (W2.alloc zo).drew wa) (c2 : Cp (wa.alloc zo) y u2 wb) (b2 : Below (wa.alloc zo).heap.size (wa.alloc zo) wb) : Two W2 y (wa.heap.size) (W2.heap.size) u1 u2 ((((((((((wb.setCell ⟨wa.heap.size, 0, none⟩ (.int .i64 u1.kind)).setCell ⟨wa.heap.size, 1, none⟩ (.string u1.text)).setCell ⟨wa.heap.size, 2, none⟩ (.slice u1.LA u1.ln u1.lc)).setCell ⟨wa.heap.size, 3, none⟩ (.slice u1.FA u1.fn u1.fc)).setCell ⟨wa.heap.size, 4, none⟩ (.slice u1.KA u1.kn u1.kc)).setCell ⟨W2.heap.size, 0, none⟩ (.int .i64 u2.kind)).setCell ⟨W2.heap.size, 1, none⟩ (.string u2.text)).setCell ⟨W2.heap.size, 2, none⟩ (.slice u2.LA u2.ln u2.lc)).setCell ⟨W2.heap.size, 3, none⟩ (.slice u2.FA u2.fn u2.fc)).setCell ⟨W2.heap.size, 4, none⟩ (.slice u2.KA u2.kn u2.kc)) := by
  have BN : Below W2.heap.size W2 wa := below_1 (undrew b1)
  have BW : Below wa.heap.size wa wb := below_1 b2
  have s1 := b1.size
  have s2 := b2.size
  simp only [World.size_alloc, World.size_drew] at s1 s2
  have s3 := BN.size
  have s4 := BW.size
  obtain ⟨x1, x2, o⟩ := f10 u1 u2 (after_one b2) (Bv.below (after_one (undrew b1)) BW) (by omega)
  exact two_core (by (try simp only [World.size_alloc, World.size_drew]); omega) BN c1 c2 (by (try simp only [World.size_alloc, World.size_drew]); omega) BW x1 x2 o (by (try simp only [World.size_alloc, World.size_drew]); omega) (by (try simp only [World.size_alloc, World.size_drew]); omega) (by (try simp only [World.size_alloc, World.size_drew]); omega) (by (try simp only [World.size_alloc, World.size_drew]); omega) (by omega) (by omega)
theorem sbb0 {W2 wa wb : World} {y u1 u2 : VV} (c1 : Cp W2.drew y u1 wa) (b1 : Below W2.drew.heap.size W2.drew wa) (c2 : Cp ((wa.alloc zo).alloc zo) y u2 wb) (b2 : Below ((wa.alloc zo).alloc zo).heap.size ((wa.alloc zo).alloc zo) wb) : Two W2 y (wa.heap.size) (wa.heap.size + 1) u1 u2 ((((((((((wb.setCell ⟨wa.heap.size, 0, none⟩ (.int .i64 u1.kind)).setCell ⟨wa.heap.size, 1, none⟩ (.string u1.text)).setCell ⟨wa.heap.size, 2, none⟩ (.slice u1.LA u1.ln u1.lc)).setCell ⟨wa.heap.size, 3, none⟩ (.slice u1.FA u1.fn u1.fc)).setCell ⟨wa.heap.size, 4, none⟩ (.slice u1.KA u1.kn u1.kc)).setCell ⟨wa.heap.size + 1, 0, none⟩ (.int .i64 u2.kind)).setCell ⟨wa.heap.size + 1, 1, none⟩ (.string u2.text)).setCell ⟨wa.heap.size + 1, 2, none⟩ (.slice u2.LA u2.ln u2.lc)).setCell ⟨wa.heap.size + 1, 3, none⟩ (.slice u2.FA u2.fn u2.fc)).setCell ⟨wa.heap.size + 1, 4, none⟩ (.slice u2.KA u2.kn u2.kc)) := by
  have BN : Below W2.heap.size W2 wa := undrew b1
  have BW : Below wa.heap.size wa wb := below_2 b2
  have s1 := b1.size
  have s2 := b2.size
  simp only [World.size_alloc, World.size_drew] at s1 s2
  have s3 := BN.size
  have s4 := BW.size
  obtain ⟨x1, x2, o⟩ := f10 u1 u2 (after_two b2).1 (after_two b2).2 (by omega)
  exact two_core (by (try simp only [World.size_alloc, World.size_drew]); omega) BN c1 c2 (by (try simp only [World.size_alloc, World.size_drew]); omega) BW x1 x2 o (by (try simp only [World.size_alloc, World.size_drew]); omega) (by (try simp only [World.size_alloc, World.size_drew]); omega) (by (try simp only [World.size_alloc, World.size_drew]); omega) (by (try simp only [World.size_alloc, World.size_drew]); omega) (by omega) (by omega)
theorem sbb1 {W2 wa wb : World} {y u1 u2 : VV} (c1 : Cp W2.drew y u1 wa) (b1 : Below W2.drew.heap.size W2.drew wa) (c2 : Cp ((wa.alloc zo).alloc zo) y u2 wb) (b2 : Below ((wa.alloc zo).alloc zo).heap.size ((wa.alloc zo).alloc zo) wb) : Two W2 y (wa.heap.size + 1) (wa.heap.size) u1 u2 ((((((((((wb.setCell ⟨wa.heap.size + 1, 0, none⟩ (.int .i64 u1.kind)).setCell ⟨wa.heap.size + 1, 1, none⟩ (.string u1.text)).setCell ⟨wa.heap.size + 1, 2, none⟩ (.slice u1.LA u1.ln u1.lc)).setCell ⟨wa.heap.size + 1, 3, none⟩ (.slice u1.FA u1.fn u1.fc)).setCell ⟨wa.heap.size + 1, 4, none⟩ (.slice u1.KA u1.kn u1.kc)).setCell ⟨wa.heap.size, 0, none⟩ (.int .i64 u2.kind)).setCell ⟨wa.heap.size, 1, none⟩ (.string u2.text)).setCell ⟨wa.heap.size, 2, none⟩ (.slice u2.LA u2.ln u2.lc)).setCell ⟨wa.heap.size, 3, none⟩ (.slice u2.FA u2.fn u2.fc)).setCell ⟨wa.heap.size, 4, none⟩ (.slice u2.KA u2.kn u2.kc)) := by
  have BN : Below W2.heap.size W2 wa := undrew b1
  have BW : Below wa.heap.size wa wb := below_2 b2
  have s1 := b1.size
  have s2 := b2.size
  simp only [World.size_alloc, World.size_drew] at s1 s2
  have s3 := BN.size
  have s4 := BW.size
  obtain ⟨x1, x2, o⟩ := f10 u1 u2 (after_two b2).2 (after_two b2).1 (by omega)
  exact two_core (by (try simp only [World.size_alloc, World.size_drew]); omega) BN c1 c2 (by (try simp only [World.size_alloc, World.size_drew]); omega) BW x1 x2 o (by (try simp only [World.size_alloc, World.size_drew]); omega) (by (try simp only [World.size_alloc, World.size_drew]); omega) (by (try simp only [World.size_alloc, World.size_drew]); omega) (by (try simp only [World.size_alloc, World.size_drew]); omega) (by omega) (by omega)
theorem sbc0 {W2 wa wb : World} {y u1 u2 : VV} (c1 : Cp W2.drew y u1 wa) (b1 : Below W2.drew.heap.size W2.drew wa) (c2 : Cp (wa.alloc zo) y u2 wb) (b2 : Below (wa.alloc zo).heap.size (wa.alloc zo) wb) : Two W2 y (wa.heap.size) (wb.heap.size) u1 u2 ((((((wb.setCell ⟨wa.heap.size, 0, none⟩ (.int .i64 u1.kind)).setCell ⟨wa.heap.size, 1, none⟩ (.string u1.text)).setCell ⟨wa.heap.size, 2, none⟩ (.slice u1.LA u1.ln u1.lc)).setCell ⟨wa.heap.size, 3, none⟩ (.slice u1.FA u1.fn u1.fc)).setCell ⟨wa.heap.size, 4, none⟩ (.slice u1.KA u1.kn u1.kc)).alloc (.cells #[.int .i64 u2.kind, .string u2.text, .slice u2.LA u2.ln u2.lc, .slice u2.FA u2.fn u2.fc, .slice u2.KA u2.kn u2.kc] 26)) := by
  have BN : Below W2.heap.size W2 wa := undrew b1
  have BW : Below wa.heap.size wa wb := below_1 b2
  have s1 := b1.size
  have s2 := b2.size
  simp only [World.size_alloc, World.size_drew] at s1 s2
  have s3 := BN.size
  have s4 := BW.size
  obtain ⟨x1, x2, o⟩ := f5 u1 u2 (after_one b2)
  exact two_core (by (try simp only [World.size_alloc, World.size_drew]); omega) BN c1 c2 (by (try simp only [World.size_alloc, World.size_drew]); omega) BW x1 x2 o (by (try simp only [World.size_alloc, World.size_drew]); omega) (by (try simp only [World.size_alloc, World.size_drew]); omega) (by (try simp only [World.size_alloc, World.size_drew]); omega) (by (try simp only [World.size_alloc, World.size_drew]); omega) (by omega) (by omega)
theorem sca0 {W2 wa wb : World} {y u1 u2 : VV} (c1 : Cp (W2.alloc zo).drew y u1 wa) (b1 : Below (W2.alloc zo).drew.heap.size (W2.alloc zo).drew wa) (c2 : Cp wa y u2 wb) (b2 : Below wa.heap.size wa wb) : Two W2 y (wb.heap.size) (W2.heap.size) u1 u2 ((((((wb.setCell ⟨W2.heap.size, 0, none⟩ (.int .i64 u2.kind)).setCell ⟨W2.heap.size, 1, none⟩ (.string u2.text)).setCell ⟨W2.heap.size, 2, none⟩ (.slice u2.LA u2.ln u2.lc)).setCell ⟨W2.heap.size, 3, none⟩ (.slice u2.FA u2.fn u2.fc)).setCell ⟨W2.heap.size, 4, none⟩ (.slice u2.KA u2.kn u2.kc)).alloc (.cells #[.int .i64 u1.kind, .string u1.text, .slice u1.LA u1.ln u1.lc, .slice u1.FA u1.fn u1.fc, .slice u1.KA u1.kn u1.kc] 26)) := by
  have BN : Below W2.heap.size W2 wa := below_1 (undrew b1)
  have BW : Below wa.heap.size wa wb := b2
  have s1 := b1.size
  have s2 := b2.size
  simp only [World.size_alloc, World.size_drew] at s1 s2
  have s3 := BN.size
  have s4 := BW.size
  obtain ⟨x2, x1, o⟩ := f5 u2 u1 (Bv.below (after_one (undrew b1)) BW)
  exact two_core (by (try simp only [World.size_alloc, World.size_drew]); omega) BN c1 c2 (by (try simp only [World.size_alloc, World.size_drew]); omega) BW x1 x2 (o.mono (fun k h => h.symm)) (by (try simp only [World.size_alloc, World.size_drew]); omega) (by (try simp only [World.size_alloc, World.size_drew]); omega) (by (try simp only [World.size_alloc, World.size_drew]); omega) (by (try simp only [World.size_alloc, World.size_drew]); omega) (by omega) (by omega)
theorem scb0 {W2 wa wb : World} {y u1 u2 : VV} (c1 : Cp W2.drew y u1 wa) (b1 : Below W2.drew.heap.size W2.drew wa) (c2 : Cp (wa.alloc zo) y u2 wb) (b2 : Below (wa.alloc zo).heap.size (wa.alloc zo) wb) : Two W2 y (wb.heap.size) (wa.heap.size) u1 u2 ((((((wb.setCell ⟨wa.heap.size, 0, none⟩ (.int .i64 u2.kind)).setCell ⟨wa.heap.size, 1, none⟩ (.string u2.text)).setCell ⟨wa.heap.size, 2, none⟩ (.slice u2.LA u2.ln u2.lc)).setCell ⟨wa.heap.size, 3, none⟩ (.slice u2.FA u2.fn u2.fc)).setCell ⟨wa.heap.size, 4, none⟩ (.slice u2.KA u2.kn u2.kc)).alloc (.cells #[.int .i64 u1.kind, .string u1.text, .slice u1.LA u1.ln u1.lc, .slice u1.FA u1.fn u1.fc, .slice u1.KA u1.kn u1.kc] 26)) := by
  have BN : Below W2.heap.size W2 wa := undrew b1
  have BW : Below wa.heap.size wa wb := below_1 b2
  have s1 := b1.size
  have s2 := b2.size
  simp only [World.size_alloc, World.size_drew] at s1 s2
  have s3 := BN.size
  have s4 := BW.size
  obtain ⟨x2, x1, o⟩ := f5 u2 u1 (after_one b2)
  exact two_core (by (try simp only [World.size_alloc, World.size_drew]); omega) BN c1 c2 (by (try simp only [World.size_alloc, World.size_drew]); omega) BW x1 x2 (o.mono (fun k h => h.symm)) (by (try simp only [World.size_alloc, World.size_drew]); omega) (by (try simp only [World.size_alloc, World.size_drew]); omega) (by (try simp only [World.size_alloc, World.size_drew]); omega) (by (try simp only [World.size_alloc, World.size_drew]); omega) (by omega) (by omega)
theorem scc0 {W2 wa wb : World} {y u1 u2 : VV} (c1 : Cp W2.drew y u1 wa) (b1 : Below W2.drew.heap.size W2.drew wa) (c2 : Cp wa y u2 wb) (b2 : Below wa.heap.size wa wb) : Two W2 y (wb.heap.size) (wb.heap.size + 1) u1 u2 ((wb.alloc (.cells #[.int .i64 u1.kind, .string u1.text, .slice u1.LA u1.ln u1.lc, .slice u1.FA u1.fn u1.fc, .slice u1.KA u1.kn u1.kc] 26)).alloc (.cells #[.int .i64 u2.kind, .string u2.text, .slice u2.LA u2.ln u2.lc, .slice u2.FA u2.fn u2.fc, .slice u2.KA u2.kn u2.kc] 26)) := by
  have BN : Below W2.heap.size W2 wa := undrew b1
  have BW : Below wa.heap.size wa wb := b2
  have s1 := b1.size
  have s2 := b2.size
  simp only [World.size_alloc, World.size_drew] at s1 s2
  have s3 := BN.size
  have s4 := BW.size
  obtain ⟨x1, x2, o⟩ := f2 (X := wb) u1 u2
  exact two_core (by (try simp only [World.size_alloc, World.size_drew]); omega) BN c1 c2 (by (try simp only [World.size_alloc, World.size_drew]); omega) BW x1 x2 o (by (try simp only [World.size_alloc, World.size_drew]); omega) (by (try simp only [World.size_alloc, World.size_drew]); omega) (by (try simp only [World.size_alloc, World.size_drew]); omega) (by (try simp only [World.size_alloc, World.size_drew]); omega) (by omega) (by omega)
theorem scc1 {W2 wa wb : World} {y u1 u2 : VV} (c1 : Cp W2.drew y u1 wa) (b1 : Below W2.drew.heap.size W2.drew wa) (c2 : Cp wa y u2 wb) (b2 : Below wa.heap.size wa wb) : Two W2 y (wb.heap.size + 1) (wb.heap.size) u1 u2 ((wb.alloc (.cells #[.int .i64 u2.kind, .string u2.text, .slice u2.LA u2.ln u2.lc, .slice u2.FA u2.fn u2.fc, .slice u2.KA u2.kn u2.kc] 26)).alloc (.cells #[.int .i64 u1.kind, .string u1.text, .slice u1.LA u1.ln u1.lc, .slice u1.FA u1.fn u1.fc, .slice u1.KA u1.kn u1.kc] 26)) := by
  have BN : Below W2.heap.size W2 wa := undrew b1
  have BW : Below wa.heap.size wa wb := b2
  have s1 := b1.size
  have s2 := b2.size
  simp only [World.size_alloc, World.size_drew] at s1 s2
  have s3 := BN.size
  have s4 := BW.size
  obtain ⟨x2, x1, o⟩ := f2 (X := wb) u2 u1
  exact two_core (by (try simp only [World.size_alloc, World.size_drew]); omega) BN c1 c2 (by (try simp only [World.size_alloc, World.size_drew]); omega) BW x1 x2 (o.mono (fun k h => h.symm)) (by (try simp only [World.size_alloc, World.size_drew]); omega) (by (try simp only [World.size_alloc, World.size_drew]); omega) (by (try simp only [World.size_alloc, World.size_drew]); omega) (by (try simp only [World.size_alloc, World.size_drew]); omega) (by omega) (by omega)
theorem z_new (X : World) : Zv (X.alloc zo) X.heap.size := heap_alloc_new X zo
theorem z_al {X : World} {g : Nat} (h : Zv X g) (o : Obj) : Zv (X.alloc o) g := ((Only.refl (fun _ => False) X).alloc o).heap h id
theorem z_new1 (X : World) : Zv ((X.alloc zo).alloc zo) X.heap.size := z_al (heap_alloc_new X zo) zo
theorem z_new2 (X : World) : Zv ((X.alloc zo).alloc zo) (X.heap.size + 1) := by
  have h := heap_alloc_new (X.alloc zo) zo
  rw [World.size_alloc] at h
  exact h
theorem Cp.below1 {w0 w w' : World} {y u : VV} (h : Cp w0 y u w) (hb : Below w.heap.size w w') : Cp w0 y u w' := ⟨h.s, h.r.below hb, h.w.below hb, h.n⟩

theorem same_tr {a b c : VV} (h : sameV a b = true) (h' : sameV b c = true) : sameV a c = true := by
  obtain ⟨h1, h2, h3, h4, h5⟩ := of_decide_eq_true h
  obtain ⟨g1, g2, g3, g4, g5⟩ := of_decide_eq_true h'
  exact decide_eq_true ⟨h1.trans g1, h2.trans g2, h3.trans g3, h4.trans g4, h5.trans g5⟩
theorem same_sy {a b : VV} (h : sameV a b = true) : sameV b a = true := by
  obtain ⟨h1, h2, h3, h4, h5⟩ := of_decide_eq_true h
  exact decide_eq_true ⟨h1.symm, h2.symm, h3.symm, h4.symm, h5.symm⟩
theorem small {w w' : World} {a b : VV} (h : sameV a b = true) (ra : RdV w a) (rb : RdV w' b) (sb : Sm b) : a.ln ≤ 100000000 ∧ a.fn ≤ 100000000 ∧ a.kn ≤ 100000000 := by
  obtain ⟨-, -, h3, h4, h5⟩ := of_decide_eq_true h
  obtain ⟨p1, p2, p3⟩ := len_of ra
  obtain ⟨q1, q2, q3⟩ := len_of rb
  have := sb.ln
  have := sb.fn
  have := sb.kn
  rw [h3] at p1; rw [h4] at p2; rw [h5] at p3
  omega

set_option maxHeartbeats 40000000 in
theorem owns_calls (x : VV) (w : World) (ha : LawW.Arg w x) : Calls Try.prog 7 #[x.val] w fun e w' => e = .returned (.bool true) ∧ Below w.heap.size w w' := by
  have hv : x.val = .agg #[.int .i64 x.kind, .string x.text, .slice x.LA x.ln x.lc, .slice x.FA x.fn x.fc, .slice x.KA x.kn x.kc] := rfl
  have hsp := fun w' (h : Below w.heap.size w w') => spare_calls x w' (ha.a.rd.below h) ha.a.sm
  have hkp := fun y w' B (hy : Spa w' B y x) (h : Below w.heap.size w w') => kept_calls y x w' B hy (ha.a.rd.below h) ha.a.sm
  rw [hv] at hsp ⊢
  simp only [hv] at hkp
  obtain ⟨W0, hW0⟩ : ∃ W0, w.alloc (.cells #[.int .i64 x.kind, .string x.text, .slice x.LA x.ln x.lc, .slice x.FA x.fn x.fc, .slice x.KA x.kn x.kc] 26) = W0 := ⟨_, rfl⟩
  have B0 : Below w.heap.size w W0 := by rw [← hW0]; exact (Below.refl _ w).alloc (Nat.le_refl _) _
  have p0 : Bv W0 w.heap.size x.kind x.text (.slice x.LA x.ln x.lc) (.slice x.FA x.fn x.fc) (.slice x.KA x.kn x.kc) := by
    rw [← hW0]; exact heap_alloc_new w _
  have H0 := Lib.hid hW0
  clear hW0
  obtain ⟨x0, x1, x2, x3, x4⟩ := p0.cells
  go_enter Try.func7, Try.ntmps7
  go_wp2_with fail
  rw [H0.out]
  go_wp2_with fail
  refine (hsp W0 B0).mono ?_
  rintro e w1 ⟨y, rfl, sp1, b1⟩
  have B1 := B0.trans (b1.mono B0.size)
  have P1 : Bv w1 w.heap.size x.kind x.text (.slice x.LA x.ln x.lc) (.slice x.FA x.fn x.fc) (.slice x.KA x.kn x.kc) := Bv.below p0 b1
  have hyv : y.val = .agg #[.int .i64 y.kind, .string y.text, .slice y.LA y.ln y.lc, .slice y.FA y.fn y.fc, .slice y.KA y.kn y.kc] := rfl
  obtain ⟨W2, hW2⟩ : ∃ W2, w1.alloc (.cells #[.int .i64 y.kind, .string y.text, .slice y.LA y.ln y.lc, .slice y.FA y.fn y.fc, .slice y.KA y.kn y.kc] 26) = W2 := ⟨_, rfl⟩
  have b2 : Below w1.heap.size w1 W2 := by rw [← hW2]; exact (Below.refl _ w1).alloc (Nat.le_refl _) _
  have q2 : Bv W2 w1.heap.size y.kind y.text (.slice y.LA y.ln y.lc) (.slice y.FA y.fn y.fc) (.slice y.KA y.kn y.kc) := by
    rw [← hW2]; exact heap_alloc_new w1 _
  have p2 := Bv.below P1 b2
  have sp2 := spa_below sp1 b2
  have B2 := B1.trans (b2.mono B1.size)
  have sy := spa_sm sp2 ha.a.sm
  have hcp : ∀ w', Below W2.heap.size W2 w' → Calls Try.prog 20 #[y.val] w' fun e w'' => ∃ u : VV, e = .returned u.val ∧ Cp w' y u w'' ∧ Below w'.heap.size w' w'' := fun w' h =>
    (copyW_calls y w' (sp2.rd.below h) sy).mono (fun e w'' ⟨u, he, h1, h2, h3, h4, h5, hr, hw, hn, hb⟩ => ⟨u, he, ⟨decide_eq_true ⟨h1, h2, h3, h4, h5⟩, hr, hw, hn⟩, hb⟩)
  rw [hyv] at hcp ⊢
  have H2 := Lib.hid hW2
  subst hW2
  clear sp1 P1 p0 hsp x0 x1 x2 x3 x4 b1 b2
  obtain ⟨y0, y1, y2, y3, y4⟩ := q2.cells
  go_upto_region 2 with fail
  generalize hW2 : w1.alloc (.cells #[.int .i64 y.kind, .string y.text, .slice y.LA y.ln y.lc, .slice y.FA y.fn y.fc, .slice y.KA y.kn y.kc] 26) = W2 at *
  have HW2 := Lib.hid hW2
  clear hW2 H2
  have BA := Below.refl W2.heap.size W2
  have e0 : ∀ o, (W2.alloc o).cell? ⟨w1.heap.size, 0, none⟩ = some (.int .i64 y.kind) := fun o => cell_al y0 o
  have e1 : ∀ o, (W2.alloc o).cell? ⟨w1.heap.size, 1, none⟩ = some (.string y.text) := fun o => cell_al y1 o
  have e2 : ∀ o, (W2.alloc o).cell? ⟨w1.heap.size, 2, none⟩ = some (.slice y.LA y.ln y.lc) := fun o => cell_al y2 o
  have e3 : ∀ o, (W2.alloc o).cell? ⟨w1.heap.size, 3, none⟩ = some (.slice y.FA y.fn y.fc) := fun o => cell_al y3 o
  have e4 : ∀ o, (W2.alloc o).cell? ⟨w1.heap.size, 4, none⟩ = some (.slice y.KA y.kn y.kc) := fun o => cell_al y4 o
  have f0 : ∀ o o', ((W2.alloc o).alloc o').cell? ⟨w1.heap.size, 0, none⟩ = some (.int .i64 y.kind) := fun o o' => cell_al (cell_al y0 o) o'
  have f1 : ∀ o o', ((W2.alloc o).alloc o').cell? ⟨w1.heap.size, 1, none⟩ = some (.string y.text) := fun o o' => cell_al (cell_al y1 o) o'
  have f2 : ∀ o o', ((W2.alloc o).alloc o').cell? ⟨w1.heap.size, 2, none⟩ = some (.slice y.LA y.ln y.lc) := fun o o' => cell_al (cell_al y2 o) o'
  have f3 : ∀ o o', ((W2.alloc o).alloc o').cell? ⟨w1.heap.size, 3, none⟩ = some (.slice y.FA y.fn y.fc) := fun o o' => cell_al (cell_al y3 o) o'
  have f4 : ∀ o o', ((W2.alloc o).alloc o').cell? ⟨w1.heap.size, 4, none⟩ = some (.slice y.KA y.kn y.kc) := fun o o' => cell_al (cell_al y4 o) o'
  go_cut [4, 5] (fun v4 v5 wx => ∃ ga gb u1 u2, v4 = .pointer (some ⟨ga, 0, none⟩) ∧ v5 = .pointer (some ⟨gb, 0, none⟩) ∧ Two W2 y ga gb u1 u2 wx)
  case first =>
    go_region_law (first
      | (refine step_enter rfl 20 #[.agg #[.int .i64 y.kind, .string y.text, .slice y.LA y.ln y.lc, .slice y.FA y.fn y.fc, .slice y.KA y.kn y.kc]] (by simp [go_sem, execOp, resolve, invoke]) ?_; first
          | (have hh := cp1; refine (hcp _ (by first | exact BN | exact BN.alloc BN.size _ | exact (BN.alloc BN.size _).alloc (by have := BN.size; rw [World.size_alloc]; omega) _)).mono ?_; rintro e wb ⟨u2, rfl, cp2, bb2⟩; have BW := (by first | exact bb2 | exact below_1 bb2 | exact below_2 bb2 : Below wa.heap.size wa wb); have cp1' := cp1.below1 BW; refine ⟨.agg #[.int .i64 u2.kind, .string u2.text, .slice u2.LA u2.ln u2.lc, .slice u2.FA u2.fn u2.fc, .slice u2.KA u2.kn u2.kc], rfl, ?_⟩; first
              | (have hz := z2; have r1 := Bv.below z1 bb2; have r2 := Bv.below z2 bb2; obtain ⟨⟨qp0, qp1, qp2, qp3, qp4⟩, ⟨qpf0, qpf1, qpf2, qpf3, qpf4⟩, ⟨qpa0, qpa1, qpa2, qpa3, qpa4⟩, ⟨qpg0, qpg1, qpg2, qpg3, qpg4⟩, qplt⟩ := bv_all r1; obtain ⟨⟨qr0, qr1, qr2, qr3, qr4⟩, ⟨qrf0, qrf1, qrf2, qrf3, qrf4⟩, ⟨qra0, qra1, qra2, qra3, qra4⟩, ⟨qrg0, qrg1, qrg2, qrg3, qrg4⟩, qrlt⟩ := bv_all r2)
              | (have hz := z1; have r1 := bv_below1 z1 bb2; have r2 := after_one bb2; have ltz := lt_of_bv z1; have ne1 := Nat.ne_of_lt ltz; have ne2 := Nat.ne_of_gt ltz; obtain ⟨⟨qp0, qp1, qp2, qp3, qp4⟩, ⟨qpf0, qpf1, qpf2, qpf3, qpf4⟩, ⟨qpa0, qpa1, qpa2, qpa3, qpa4⟩, ⟨qpg0, qpg1, qpg2, qpg3, qpg4⟩, qplt⟩ := bv_all r1; obtain ⟨⟨qr0, qr1, qr2, qr3, qr4⟩, ⟨qrf0, qrf1, qrf2, qrf3, qrf4⟩, ⟨qra0, qra1, qra2, qra3, qra4⟩, ⟨qrg0, qrg1, qrg2, qrg3, qrg4⟩, qrlt⟩ := bv_all r2)
              | (have hz := z1; have r1 := Bv.below z1 bb2; have ltz := lt_of_bv r1; have ne1 := Nat.ne_of_lt ltz; have ne2 := Nat.ne_of_gt ltz; obtain ⟨⟨qp0, qp1, qp2, qp3, qp4⟩, ⟨qpf0, qpf1, qpf2, qpf3, qpf4⟩, ⟨qpa0, qpa1, qpa2, qpa3, qpa4⟩, ⟨qpg0, qpg1, qpg2, qpg3, qpg4⟩, qplt⟩ := bv_all r1)
              | (have r12 := after_two bb2; obtain ⟨r1, r2⟩ := r12; obtain ⟨⟨qp0, qp1, qp2, qp3, qp4⟩, ⟨qpf0, qpf1, qpf2, qpf3, qpf4⟩, ⟨qpa0, qpa1, qpa2, qpa3, qpa4⟩, ⟨qpg0, qpg1, qpg2, qpg3, qpg4⟩, qplt⟩ := bv_all r1; obtain ⟨⟨qr0, qr1, qr2, qr3, qr4⟩, ⟨qrf0, qrf1, qrf2, qrf3, qrf4⟩, ⟨qra0, qra1, qra2, qra3, qra4⟩, ⟨qrg0, qrg1, qrg2, qrg3, qrg4⟩, qrlt⟩ := bv_all r2)
              | (have r1 := after_one bb2; have ltz := lt_of_bv r1; have ne1 := Nat.ne_of_lt ltz; have ne2 := Nat.ne_of_gt ltz; obtain ⟨⟨qp0, qp1, qp2, qp3, qp4⟩, ⟨qpf0, qpf1, qpf2, qpf3, qpf4⟩, ⟨qpa0, qpa1, qpa2, qpa3, qpa4⟩, ⟨qpg0, qpg1, qpg2, qpg3, qpg4⟩, qplt⟩ := bv_all r1)
              | skip)
          | (refine (hcp _ (by first | exact BA.drew | exact (BA.alloc BA.size _).drew | exact ((BA.alloc BA.size _).alloc (by rw [World.size_alloc]; omega) _).drew)).mono ?_; rintro e wa ⟨u1, rfl, cp1, bb1⟩; have bbu := undrew bb1; have BN := (by first | exact bbu | exact below_1 bbu | exact below_2 bbu : Below W2.heap.size W2 wa); obtain ⟨ga, gb, gc⟩ := box_all (Bv.below q2 BN); obtain ⟨m0, m1, m2, m3, m4⟩ := ga; obtain ⟨k0, k1, k2, k3, k4⟩ := gb; obtain ⟨l0, l1, l2, l3, l4⟩ := gc; refine ⟨.agg #[.int .i64 u1.kind, .string u1.text, .slice u1.LA u1.ln u1.lc, .slice u1.FA u1.fn u1.fc, .slice u1.KA u1.kn u1.kc], rfl, ?_⟩; first
              | (have z12 : Zv wa W2.heap.size ∧ Zv wa (W2.heap.size + 1) := after_two bbu; have z1 := z12.1; have z2 := z12.2)
              | (have z1 : Zv wa W2.heap.size := after_one bbu)
              | skip)))
    all_goals (
      go_wp2_with fail
      go_meet
      refine ⟨_, _, u1, u2, rfl, rfl, ?_⟩
      with_reducible first | exact saa0 cp1 bb1 cp2 bb2 | exact saa1 cp1 bb1 cp2 bb2 | exact sab0 cp1 bb1 cp2 bb2 | exact sac0 cp1 bb1 cp2 bb2 | exact sba0 cp1 bb1 cp2 bb2 | exact sbb0 cp1 bb1 cp2 bb2 | exact sbb1 cp1 bb1 cp2 bb2 | exact sbc0 cp1 bb1 cp2 bb2 | exact sca0 cp1 bb1 cp2 bb2 | exact scb0 cp1 bb1 cp2 bb2 | exact scc0 cp1 bb1 cp2 bb2 | exact scc1 cp1 bb1 cp2 bb2)
  case rest =>
    obtain ⟨ga, gb, u1, u2, rfl, rfl, T⟩ := hcut
    clear e0 e1 e2 e3 e4 f0 f1 f2 f3 f4 y0 y1 y2 y3 y4 BA hcp
    have lx : sameV y x = true := decide_eq_true ⟨sp2.kind, sp2.text, sp2.list, sp2.flds, sp2.rank⟩
    have sz1 := small T.s1 T.r1 sp2.rd sy
    have h2x : sameV u2 x = true := same_tr T.s2 lx
    have hen := fun w' (h : Below W2.heap.size W2 w') => encode_calls y w' (sp2.rd.below h) sy
    have hbk := fun w' (h0 : chk y = 0) => back_calls y [] (⟨(encV y).toArray⟩) w' (by have := ha.e; rw [← spa_enc sp2] at this; simp only [ByteArray.size, List.size_toArray]; omega) h0 (len_of sp2.rd) sy (by simp)
    have hsr : ∀ (z : VV) (w' : World), Below w.heap.size w w' → RdV w' z → sameV z x = true → Calls Try.prog 17 #[z.val, x.val] w' fun e w'' => e = .returned (.bool true) ∧ Below w'.heap.size w' w'' := fun z w' h hz he => by
      have h := sameR_calls z x w' hz (ha.a.rd.below h)
      rwa [he] at h
    have hkk := fun w' (h : Below W2.heap.size W2 w') => hkp y w' _ (spa_below sp2 h) (B2.trans (h.mono B2.size))
    obtain ⟨E, hE⟩ : ∃ E : ByteArray, (⟨(encV y).toArray⟩ : ByteArray) = E := ⟨_, rfl⟩
    rw [hE] at hen hbk
    have hspo := fun w' hw => spoil_calls u1 w' hw sz1.1 sz1.2.1 sz1.2.2
    have hu1 : u1.val = .agg #[.int .i64 u1.kind, .string u1.text, .slice u1.LA u1.ln u1.lc, .slice u1.FA u1.fn u1.fc, .slice u1.KA u1.kn u1.kc] := rfl
    have hu2 : u2.val = .agg #[.int .i64 u2.kind, .string u2.text, .slice u2.LA u2.ln u2.lc, .slice u2.FA u2.fn u2.fc, .slice u2.KA u2.kn u2.kc] := rfl
    rw [hyv] at hen hkk
    simp only [hv] at hsr
    rw [hu1] at hspo
    clear hE hkp hv
    obtain ⟨a0, a1, a2, a3, a4⟩ := T.b1.cells
    go_wp2_with fail
    refine (hspo _ T.w1).mono ?_
    rintro e w5 ⟨rfl, o5⟩
    have b5 : Below W2.heap.size W2 w5 := o5.after T.b (Nat.le_refl _) T.t
    have B5 := B2.trans (b5.mono B2.size)
    have P5 := Bv.below p2 b5
    have Q5 := Bv.below q2 b5
    have R5 : Bv w5 gb u2.kind u2.text (.slice u2.LA u2.ln u2.lc) (.slice u2.FA u2.fn u2.fc) (.slice u2.KA u2.kn u2.kc) := o5.heap T.b2 T.tb
    have ru2 : RdV w5 u2 := ⟨T.r2.l.only o5 T.tl, T.r2.f.only o5 T.tf, T.r2.k.only o5 T.tk⟩
    have hs5 := hsr u2 w5 B5 ru2 h2x
    rw [hu2] at hs5
    clear hspo a0 a1 a2 a3 a4 q2 o5
    obtain ⟨x0, x1, x2, x3, x4⟩ := P5.cells
    obtain ⟨a0, a1, a2, a3, a4⟩ := R5.cells
    go_wp2_with fail
    refine hs5.mono ?_
    rintro e w6 ⟨rfl, b6⟩
    have b26 := b5.trans (b6.mono b5.size)
    have P6 := Bv.below P5 b6
    have Q6 := Bv.below Q5 b6
    clear x0 x1 x2 x3 x4 a0 a1 a2 a3 a4 P5 Q5 R5 hs5 b6 b5 ru2
    obtain ⟨x0, x1, x2, x3, x4⟩ := P6.cells
    obtain ⟨y0, y1, y2, y3, y4⟩ := Q6.cells
    go_wp2_with fail
    refine (hkk w6 b26).mono ?_
    rintro e w7 ⟨rfl, b7⟩
    have b27 := b26.trans (b7.mono b26.size)
    have P7 := Bv.below P6 b7
    have Q7 := Bv.below Q6 b7
    clear x0 x1 x2 x3 x4 y0 y1 y2 y3 y4 P6 Q6 b7 b26
    go_wp2_with fail
    refine (awake_calls _).mono ?_
    rintro e w8 ⟨rfl, b8⟩
    have b28 := b27.trans (b8.mono b27.size)
    have P8 := Bv.below P7 b8
    have Q8 := Bv.below Q7 b8
    clear P7 Q7 b8 b27
    obtain ⟨y0, y1, y2, y3, y4⟩ := Q8.cells
    go_wp2_with fail
    refine (hen w8 b28).mono ?_
    rintro e w9 ⟨rfl, b9⟩
    have b29 := b28.trans (b9.mono b28.size)
    have P9 := Bv.below P8 b9
    clear y0 y1 y2 y3 y4 Q8 P8 b9 b28 hen
    by_cases hc : chk y = 0
    · have HC := Lib.hid hc
      rw [hc]
      clear hc
      go_wp2_with fail
      refine (hbk _ HC.out).mono ?_
      rintro e w10 ⟨d1, rfl, s1, -, -, -, r1, m1, n1, b10⟩
      have hd1 : d1.val = .agg #[.int .i64 d1.kind, .string d1.text, .slice d1.LA d1.ln d1.lc, .slice d1.FA d1.fn d1.fc, .slice d1.KA d1.kn d1.kc] := rfl
      rw [hd1]
      have wd1 : WrV w10 d1 := ⟨n1.2.1, n1.2.2.1, n1.2.2.2⟩
      have t1 : ∀ k, Tch d1 k → w9.heap.size ≤ k ∧ k < w10.heap.size := fun k hk => ⟨by
        rcases hk with ⟨a, h1, rfl⟩ | ⟨a, h1, rfl⟩ | ⟨a, h1, rfl⟩
        · exact n1.1.1 a h1
        · exact n1.1.2.1 a h1
        · exact n1.1.2.2 a h1, tch_lt wd1 hk⟩
      obtain ⟨W10, hW10⟩ : ∃ W10, w10.alloc (.cells #[.int .i64 d1.kind, .string d1.text, .slice d1.LA d1.ln d1.lc, .slice d1.FA d1.fn d1.fc, .slice d1.KA d1.kn d1.kc] 26) = W10 := ⟨_, rfl⟩
      have a10 : Below w10.heap.size w10 W10 := by rw [← hW10]; exact al _ _
      have q10 : Bv W10 w10.heap.size d1.kind d1.text (.slice d1.LA d1.ln d1.lc) (.slice d1.FA d1.fn d1.fc) (.slice d1.KA d1.kn d1.kc) := by rw [← hW10]; exact heap_alloc_new w10 _
      have H10 := Lib.hid hW10
      have Q10 : Bv W10 w10.heap.size d1.kind d1.text (.slice d1.LA d1.ln d1.lc) (.slice d1.FA d1.fn d1.fc) (.slice d1.KA d1.kn d1.kc) := q10
      have z10 := a10.size
      have z10' : w10.heap.size < W10.heap.size := by rw [← hW10]; simp
      have b210 := b29.trans ((b10.trans (a10.mono b10.size)).mono b29.size)
      have P10 := Bv.below (Bv.below P9 b10) a10
      have wd1' := wd1.below a10
      have sd1 := small (same_sy s1) r1 sp2.rd sy
      clear hW10 q10 P9 n1 r1 m1 wd1
      go_wp2_with fail
      rw [H10.out]
      refine (hbk _ HC.out).mono ?_
      rintro e w11 ⟨d2, rfl, s2, -, -, -, r2, m2, n2, b11⟩
      have hd2 : d2.val = .agg #[.int .i64 d2.kind, .string d2.text, .slice d2.LA d2.ln d2.lc, .slice d2.FA d2.fn d2.fc, .slice d2.KA d2.kn d2.kc] := rfl
      have hsd2 := fun w' (h : Below w.heap.size w w') (hr : RdV w' d2) => hsr d2 w' h hr (same_tr (same_sy s2) lx)
      rw [hd2] at hsd2 ⊢
      have a11 := al w11 (.cells #[.int .i64 d2.kind, .string d2.text, .slice d2.LA d2.ln d2.lc, .slice d2.FA d2.fn d2.fc, .slice d2.KA d2.kn d2.kc] 26)
      have q11 : Bv (w11.alloc (.cells #[.int .i64 d2.kind, .string d2.text, .slice d2.LA d2.ln d2.lc, .slice d2.FA d2.fn d2.fc, .slice d2.KA d2.kn d2.kc] 26)) w11.heap.size d2.kind d2.text (.slice d2.LA d2.ln d2.lc) (.slice d2.FA d2.fn d2.fc) (.slice d2.KA d2.kn d2.kc) := heap_alloc_new w11 _
      have Q11 := Bv.below (Bv.below Q10 b11) a11
      have P11 := Bv.below (Bv.below P10 b11) a11
      have b211 := b210.trans ((b11.trans (a11.mono b11.size)).mono b210.size)
      have wd1'' := (wd1'.below b11).below a11
      have r2' := r2.below a11
      have z11 := b11.size
      obtain ⟨x0, x1, x2, x3, x4⟩ := Q11.cells
      have hsp1 := spoil_calls d1 _ wd1'' sd1.1 sd1.2.1 sd1.2.2
      rw [hd1] at hsp1
      clear Q10 P10 wd1' H10
      go_wp2_with fail
      refine hsp1.mono ?_
      rintro e w12 ⟨rfl, o12⟩
      have b212 : Below W2.heap.size W2 w12 := o12.after b211 (Nat.le_refl _) (fun k hk => Nat.le_trans b29.size (t1 k hk).1)
      have P12 : Bv w12 w.heap.size x.kind x.text (.slice x.LA x.ln x.lc) (.slice x.FA x.fn x.fc) (.slice x.KA x.kn x.kc) := Bv.below p2 b212
      have Q12 := o12.heap q11 (fun h => by have := t1 _ h; omega)
      have nt : ∀ A, Nw W10.heap.size A → ∀ ad, A = some ad → ¬ Tch d1 ad.block := fun A hA ad e h => by have := t1 _ h; have := hA ad e; omega
      have r12 : RdV w12 d2 := ⟨r2'.l.only o12 (nt _ n2.1.1), r2'.f.only o12 (nt _ n2.1.2.1), r2'.k.only o12 (nt _ n2.1.2.2)⟩
      clear x0 x1 x2 x3 x4 P11 Q11 b211 hsp1 o12 wd1'' nt
      go_wp2_with fail
      refine (hbk _ HC.out).mono ?_
      rintro e w13 ⟨d3, rfl, s3, -, -, -, r3, m3, n3, b13⟩
      have hd3 : d3.val = .agg #[.int .i64 d3.kind, .string d3.text, .slice d3.LA d3.ln d3.lc, .slice d3.FA d3.fn d3.fc, .slice d3.KA d3.kn d3.kc] := rfl
      have hsd3 := fun w' (h : Below w.heap.size w w') (hr : RdV w' d3) => hsr d3 w' h hr (same_tr (same_sy s3) lx)
      rw [hd3] at hsd3 ⊢
      have a13 := al w13 (.cells #[.int .i64 d3.kind, .string d3.text, .slice d3.LA d3.ln d3.lc, .slice d3.FA d3.fn d3.fc, .slice d3.KA d3.kn d3.kc] 26)
      have R13 : Bv (w13.alloc (.cells #[.int .i64 d3.kind, .string d3.text, .slice d3.LA d3.ln d3.lc, .slice d3.FA d3.fn d3.fc, .slice d3.KA d3.kn d3.kc] 26)) w13.heap.size d3.kind d3.text (.slice d3.LA d3.ln d3.lc) (.slice d3.FA d3.fn d3.fc) (.slice d3.KA d3.kn d3.kc) := heap_alloc_new w13 _
      have Q13 := Bv.below (Bv.below Q12 b13) a13
      have P13 := Bv.below (Bv.below P12 b13) a13
      have b213 := b212.trans ((b13.trans (a13.mono b13.size)).mono b212.size)
      have r213 := (r12.below b13).below a13
      have r313 := r3.below a13
      clear Q12 P12 r12 b212
      obtain ⟨x0, x1, x2, x3, x4⟩ := P13.cells
      obtain ⟨y0, y1, y2, y3, y4⟩ := Q13.cells
      go_wp2_with fail
      refine (hsd2 _ (B2.trans (b213.mono B2.size)) r213).mono ?_
      rintro e w14 ⟨rfl, b14⟩
      have b214 := b213.trans (b14.mono b213.size)
      have P14 := Bv.below P13 b14
      have R14 := Bv.below R13 b14
      have r314 := r313.below b14
      clear x0 x1 x2 x3 x4 y0 y1 y2 y3 y4 P13 Q13 R13 hsd2 r213
      obtain ⟨x0, x1, x2, x3, x4⟩ := P14.cells
      obtain ⟨y0, y1, y2, y3, y4⟩ := R14.cells
      go_wp2_with fail
      refine (hsd3 _ (B2.trans (b214.mono B2.size)) r314).mono ?_
      rintro e w15 ⟨rfl, b15⟩
      have b215 := b214.trans (b15.mono b214.size)
      go_wp2_with fail
      go_ret
      exact ⟨rfl, B2.trans (b215.mono B2.size)⟩
    · have hne : (chk y == 0) = false := by simpa using hc
      obtain ⟨C, hC⟩ : ∃ C, chk y = C := ⟨_, rfl⟩
      rw [hC] at hne ⊢
      clear hc hC
      go_wp2_with fail
      go_ret
      exact ⟨rfl, B2.trans (b29.mono B2.size)⟩
end Go.Proofs.Ythglmpkcfigelaa.VcY
