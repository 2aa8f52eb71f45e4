/-
  A deed with both indexes. Conditions: as stated.
-/
import Derived.Test.YtabgngdimbflkaaDuW
import Derived.Deep.RegionHeld3
import Derived.Deep.Cut
set_option maxRecDepth 100000
set_option linter.unusedSimpArgs false
set_option linter.unusedVariables false
namespace Go.Proofs.Ytabgngdimbflkaa.DwX
open Go.RowKit Go.Shelf Go.Proofs.Ytabgngdimbflkaa.Mem Go.Proofs.Ytabgngdimbflkaa.DuA Go.Proofs.Ytabgngdimbflkaa.DuM Go.Proofs.Ytabgngdimbflkaa.DuN Go.Proofs.Ytabgngdimbflkaa.DuB Go.Proofs.Ytabgngdimbflkaa.DuO Go.Proofs.Ytabgngdimbflkaa.DsC Go.Proofs.Ytabgngdimbflkaa.DsH Go.Proofs.Ytabgngdimbflkaa.DsI Go.Proofs.Ytabgngdimbflkaa.DsJ Go.Proofs.Ytabgngdimbflkaa.DsK Go.Proofs.Ytabgngdimbflkaa.DsL Go.Proofs.Ytabgngdimbflkaa.DuR Go.Proofs.Ytabgngdimbflkaa.DuS Go.Proofs.Ytabgngdimbflkaa.DuT Go.Proofs.Ytabgngdimbflkaa.DuU Go.Proofs.Ytabgngdimbflkaa.DuV Go.Proofs.Ytabgngdimbflkaa.DuW

/-- The deed in its box. -/
abbrev Dx (b : Nat) (k : ByteArray) (p q : Int) (w' : World) : Prop :=
  w'.cell? ⟨b, 1, none⟩ = some (.string k) ∧ w'.cell? ⟨b, 2, none⟩ = some (.int .i64 p) ∧ w'.cell? ⟨b, 3, none⟩ = some (.int .i64 q)
theorem dx_below {b : Nat} {k : ByteArray} {p q : Int} {w w' : World} (h : Dx b k p q w) (hb : Below w.heap.size w w') : Dx b k p q w' := ⟨cell_b h.1 hb, cell_b h.2.1 hb, cell_b h.2.2 hb⟩
theorem dx_only {b : Nat} {k : ByteArray} {p q : Int} {w w' : World} {S : Nat → Prop} (h : Dx b k p q w) (ho : Only S w w') (hn : ¬ S b) : Dx b k p q w' := ⟨ho.cell h.1 hn, ho.cell h.2.1 hn, ho.cell h.2.2 hn⟩
/-- What a deed leaves. -/
def Did (B g m : Nat) (v : Value) (h N : Nat) (A : Option Addr) (w : World) (e : Ending) (w' : World) : Prop :=
  e = .returned (.bool true) ∧ ∃ l' v' A' c', Bo w' B g m v' l' h A' c' l' (N + 1) ∧ Only (fun k => IxS g m v k ∨ k = h) w w' ∧ (v'.ownBlock = v.ownBlock ∨ ∃ k, v'.ownBlock = some k ∧ w.heap.size ≤ k) ∧ ∀ ad, A' = some ad → (∃ a0, A = some a0 ∧ ad.block = a0.block) ∨ w.heap.size ≤ ad.block
/-- As Bo.dturn, told besides where the row lies. -/
theorem dturn2 {w w' : World} {B g m h c N : Nat} {v : Value} {A : Option Addr} {lx ly l' : List (Int × ByteArray)} (b : Bo w B g m v lx h A c ly N) (t : DTurn B h A l' w w') : ∃ A' c', Bo w' B g m v lx h A' c' l' N ∧ Only (fun k => k = h) w w' ∧ ∀ ad, A' = some ad → (∃ a0, A = some a0 ∧ ad.block = a0.block) ∨ w.heap.size ≤ ad.block := by
  obtain ⟨A', c', hy, ho, ha⟩ := t
  refine ⟨A', c', ⟨b.x.only ho (fun k hk e => b.ap (by rw [← e]; exact hk)), hy, b.ap, fun ad e => ?_⟩, ho, ha⟩
  rcases ha ad e with ⟨a0, e0, hb⟩ | hb
  · rw [hb]; exact b.ar a0 e0
  · intro hx; have := (b.x.lt _ hx).2; omega
theorem bo_more {w : World} {B g m h c N N' : Nat} {v : Value} {A : Option Addr} {lx ly : List (Int × ByteArray)} (b : Bo w B g m v lx h A c ly N) (hN : N ≤ N') : Bo w B g m v lx h A c ly N' := by
  obtain ⟨D, hM, hT⟩ := b.x.mp
  exact { b with x := { b.x with len := by have := b.x.len; omega, mp := ⟨D, hM.mono hN, hT⟩ } }
theorem did_of {B g m h N : Nat} {v v3 : Value} {A A4 : Option Addr} {c4 : Nat} {l' : List (Int × ByteArray)} {w w1 w3 w4 : World} (b1 : Below w.heap.size w w1) (O3 : Only (IxS g m v) w1 w3) (O4 : Only (fun k => k = h) w3 w4)
    (hv : v3.ownBlock = v.ownBlock ∨ ∃ k, v3.ownBlock = some k ∧ w1.heap.size ≤ k) (b4 : Bo w4 B g m v3 l' h A4 c4 l' (N + 1)) (fa : ∀ ad, A4 = some ad → (∃ a0, A = some a0 ∧ ad.block = a0.block) ∨ w3.heap.size ≤ ad.block) : Did B g m v h N A w (.returned (.bool true)) w4 := by
  refine ⟨rfl, l', v3, A4, c4, b4, ((only_b b1).trans (O3.mono (fun k h => .inl h)) (fun b hb => .inl hb)).trans O4 (fun b hb => .inl (.inr hb)), ?_, fun ad e => Or.elim (fa ad e) .inl (fun q => .inr (Nat.le_trans (Nat.le_trans b1.size O3.size) q))⟩
  rcases hv with e | ⟨k, e, h'⟩
  · exact .inl e
  · exact .inr ⟨k, e, Nat.le_trans b1.size h'⟩

theorem texts_same (A : Option Addr) (n c : Nat) (l : List ByteArray) (B : Option Addr) (m d : Nat) (w : World) (ha : RdKs w A n c l) (hb : RdKs w B m d l) :
    Calls Try.prog 12 #[.slice A n c, .slice B m d] w fun e w' => e = .returned (.bool true) ∧ ∃ nd, w' = w.drewN nd :=
  (texts_calls A n c l B m d l w ha hb).mono fun e w' ⟨he, hn⟩ => ⟨by rw [he]; simp, hn⟩
section
variable (B g m : Nat) (v : Value) (l : List (Int × ByteArray)) (h : Nat) (A : Option Addr) (c N : Nat) (k : ByteArray) (p q : Int) (w : World)
set_option maxHeartbeats 4000000 in
theorem doSet_calls (kd : Int) (hkd : kd = 0 ∨ kd = 1) (bo : Bo w B g m v l h A c l N) (hB : B ≤ w.heap.size) (hk : okk k) (hN : N ≤ 1099511627774) :
    Calls Try.prog 10 #[.pointer (some ⟨g, 0, none⟩), .pointer (some ⟨h, 0, none⟩), .agg #[.int .i64 kd, .string k, .int .i64 p, .int .i64 q]] w (Did B g m v h N A w) := by
  obtain ⟨W0, hW0⟩ : ∃ W0, w.alloc (.cells #[.int .i64 kd, .string k, .int .i64 p, .int .i64 q] 32) = W0 := ⟨_, rfl⟩
  have b0 : Below w.heap.size w W0.drew := by rw [← hW0]; exact (al w _).drew
  have hp0 : W0.heap[w.heap.size]? = some (.cells #[.int .i64 kd, .string k, .int .i64 p, .int .i64 q] 32 (0, 0)) := by rw [← hW0]; exact heap_alloc_new w _
  have d0 : W0.cell? ⟨w.heap.size, 0, none⟩ = some (.int .i64 kd) := by unfold World.cell?; simp only [hp0]; rfl
  have D0 : Dx w.heap.size k p q W0 := ⟨by unfold World.cell?; simp only [hp0]; rfl, by unfold World.cell?; simp only [hp0]; rfl, by unfold World.cell?; simp only [hp0]; rfl⟩
  have H0 := Lib.hid hW0
  have bo0 := bo.below b0
  have hlen := bo.x.len
  have hnb : ¬ IxS g m v w.heap.size := fun hx => by have := (bo.x.lt _ hx).2; omega
  have hnh : w.heap.size ≠ h := fun e => by have := bo.y.lt; omega
  have D0' : Dx w.heap.size k p q W0.drew := dx_below D0 ((Below.refl _ _).drew)
  have hset := set_calls B g m v l N k p W0.drew bo0.x hk (Nat.le_trans hB b0.size) (by omega)
  obtain ⟨d1, d2, d3⟩ := D0
  clear hW0 hp0
  go_enter Try.func10, Try.ntmps10
  rcases hkd with rfl | rfl
  all_goals (
    go_upto_region 4 with fail
    rw [H0.out]
    go_wp2_with fail
    go_region_held3 (fun w' => Dx w.heap.size k p q w')
      (first | exact D0' | assumption)
      (first
        | (go_at_call 27; refine hset.mono ?_; rintro e w3 ⟨rfl, T3⟩; obtain ⟨v3, bo3, hv3, O3⟩ := bo0.turn T3; have D3 := dx_only D0' O3 hnb)
        | (go_at_call 30; refine (setR_calls B h c A l k p _ bo3.y (by omega)).mono ?_; rintro e w4 ⟨rfl, T4⟩; obtain ⟨A4, c4, bo4, O4, fa4⟩ := dturn2 bo3 T4; have D4 := dx_only D3 O4 hnh)))
  all_goals (
    have ht : (setE p == setE p) = true := by simp
    go_wp2_with fail
    go_ret
    exact did_of b0 O3 O4 hv3 bo4 fa4)
set_option maxHeartbeats 4000000 in
theorem doDrop_calls (bo : Bo w B g m v l h A c l N) (hB : B ≤ w.heap.size) (hk : okk k) (hN : N ≤ 1099511627774) :
    Calls Try.prog 10 #[.pointer (some ⟨g, 0, none⟩), .pointer (some ⟨h, 0, none⟩), .agg #[.int .i64 2, .string k, .int .i64 p, .int .i64 q]] w (Did B g m v h N A w) := by
  obtain ⟨W0, hW0⟩ : ∃ W0, w.alloc (.cells #[.int .i64 2, .string k, .int .i64 p, .int .i64 q] 32) = W0 := ⟨_, rfl⟩
  have b0 : Below w.heap.size w W0.drew := by rw [← hW0]; exact (al w _).drew
  have hp0 : W0.heap[w.heap.size]? = some (.cells #[.int .i64 2, .string k, .int .i64 p, .int .i64 q] 32 (0, 0)) := by rw [← hW0]; exact heap_alloc_new w _
  have d0 : W0.cell? ⟨w.heap.size, 0, none⟩ = some (.int .i64 2) := by unfold World.cell?; simp only [hp0]; rfl
  have D0 : Dx w.heap.size k p q W0 := ⟨by unfold World.cell?; simp only [hp0]; rfl, by unfold World.cell?; simp only [hp0]; rfl, by unfold World.cell?; simp only [hp0]; rfl⟩
  have H0 := Lib.hid hW0
  have bo0 := bo.below b0
  have hlen := bo.x.len
  have hnb : ¬ IxS g m v w.heap.size := fun hx => by have := (bo.x.lt _ hx).2; omega
  have hnh : w.heap.size ≠ h := fun e => by have := bo.y.lt; omega
  have hhl : h < W0.drew.heap.size := by have := bo.y.lt; have := b0.size; omega
  have D0' : Dx w.heap.size k p q W0.drew := dx_below D0 ((Below.refl _ _).drew)
  have hset := drop_calls B g m v l N k W0.drew bo0.x hk (Nat.le_trans hB b0.size) (by omega)
  obtain ⟨S, hS⟩ : ∃ S, (dueL l k).isSome = S := ⟨_, rfl⟩
  have hsR := fun w (y : Yx w B h A c l) => dropR_calls B h c A l k w y (by omega)
  rw [hS] at hset hsR
  clear hS
  obtain ⟨d1, d2, d3⟩ := D0
  clear hW0 hp0
  go_enter Try.func10, Try.ntmps10
  go_upto_region 6 with fail
  rw [H0.out]
  go_wp2_with fail
  go_region_held3 (fun w' => Dx w.heap.size k p q w')
      (first | exact D0' | assumption)
      (first
        | (go_at_call 28; refine hset.mono ?_; rintro e w3 ⟨rfl, T3⟩; obtain ⟨v3, bo3, hv3, O3⟩ := bo0.turn T3; have D3 := dx_only D0' O3 hnb)
        | (go_at_call 31; refine (hsR _ bo3.y).mono ?_; rintro e w4 ⟨rfl, T4⟩; obtain ⟨A4, c4, bo4, O4, fa4⟩ := dturn2 bo3 T4; have D4 := dx_only D3 O4 hnh))
  all_goals (
    have ht : (S == S) = true := by simp
    go_wp2_with fail
    go_ret
    exact did_of b0 O3 O4 hv3 (bo_more bo4 (by omega)) fa4)
set_option maxHeartbeats 4000000 in
theorem doTake_calls (bo : Bo w B g m v l h A c l N) (hB : B ≤ w.heap.size) (hN : N ≤ 1099511627774) :
    Calls Try.prog 10 #[.pointer (some ⟨g, 0, none⟩), .pointer (some ⟨h, 0, none⟩), .agg #[.int .i64 3, .string k, .int .i64 p, .int .i64 q]] w (Did B g m v h N A w) := by
  obtain ⟨W0, hW0⟩ : ∃ W0, w.alloc (.cells #[.int .i64 3, .string k, .int .i64 p, .int .i64 q] 32) = W0 := ⟨_, rfl⟩
  have b0 : Below w.heap.size w W0.drew := by rw [← hW0]; exact (al w _).drew
  have hp0 : W0.heap[w.heap.size]? = some (.cells #[.int .i64 3, .string k, .int .i64 p, .int .i64 q] 32 (0, 0)) := by rw [← hW0]; exact heap_alloc_new w _
  have d0 : W0.cell? ⟨w.heap.size, 0, none⟩ = some (.int .i64 3) := by unfold World.cell?; simp only [hp0]; rfl
  have D0 : Dx w.heap.size k p q W0 := ⟨by unfold World.cell?; simp only [hp0]; rfl, by unfold World.cell?; simp only [hp0]; rfl, by unfold World.cell?; simp only [hp0]; rfl⟩
  have H0 := Lib.hid hW0
  have bo0 := bo.below b0
  have hlen := bo.x.len
  have hnb : ¬ IxS g m v w.heap.size := fun hx => by have := (bo.x.lt _ hx).2; omega
  have hnh : w.heap.size ≠ h := fun e => by have := bo.y.lt; omega
  have hhl : h < W0.drew.heap.size := by have := bo.y.lt; have := b0.size; omega
  have D0' : Dx w.heap.size k p q W0.drew := dx_below D0 ((Below.refl _ _).drew)
  have hset := take_calls B g m v l N p q W0.drew bo0.x (Nat.le_trans hB b0.size) (by omega)
  have hsR := fun w (y : Yx w B h A c l) => takeR_calls B h c A l p q w y (by omega)
  obtain ⟨L, hL⟩ : ∃ L, peekL l p q = L := ⟨_, rfl⟩
  rw [hL] at hset hsR
  clear hL
  obtain ⟨d1, d2, d3⟩ := D0
  clear hW0 hp0
  go_enter Try.func10, Try.ntmps10
  go_upto_region 8 with fail
  rw [H0.out]
  go_wp2_with fail
  go_region_held3 (fun w' => Dx w.heap.size k p q w')
      (first | exact D0' | assumption)
      (first
        | (go_at_call 14; refine hset.mono ?_; rintro e w3 ⟨s3, rfl, o3, T3⟩; obtain ⟨S3, q3, rfl⟩ := own_form o3; obtain ⟨v3, bo3, hv3, O3⟩ := bo0.turn T3; have D3 := dx_only D0' O3 hnb)
        | (go_at_call 32; refine (hsR _ bo3.y).mono ?_; rintro e w4 ⟨s4, rfl, o4, T4⟩; obtain ⟨S4, q4, rfl⟩ := own_form o4; obtain ⟨A4, c4, bo4, O4, fa4⟩ := dturn2 bo3 T4; have D4 := dx_only D3 O4 hnh; have o34 := own_only o3 O4 (fun k hk e => by have := (o3.lt k hk).1; omega))
        | (go_at_call 12; refine (texts_same S3 _ q3 L S4 _ q4 _ (Rd.of_own o34) (Rd.of_own o4)).mono ?_; rintro e w5 ⟨rfl, nd5, rfl⟩; have D5 : Dx w.heap.size k p q (w4.drewN nd5) := D4))
  all_goals (
    go_wp2_with fail
    go_ret
    exact did_of b0 O3 (O4.drawn nd5) hv3 (bo_more (bo4.below (below_drawn_ (Below.refl _ _) nd5)) (by omega)) fa4)
set_option maxHeartbeats 4000000 in
theorem doPeek_calls (kd : Int) (h0 : kd ≠ 0) (h1 : kd ≠ 1) (h2 : kd ≠ 2) (h3 : kd ≠ 3) (bo : Bo w B g m v l h A c l N) (hN : N ≤ 1099511627774) :
    Calls Try.prog 10 #[.pointer (some ⟨g, 0, none⟩), .pointer (some ⟨h, 0, none⟩), .agg #[.int .i64 kd, .string k, .int .i64 p, .int .i64 q]] w (Did B g m v h N A w) := by
  obtain ⟨W0, hW0⟩ : ∃ W0, w.alloc (.cells #[.int .i64 kd, .string k, .int .i64 p, .int .i64 q] 32) = W0 := ⟨_, rfl⟩
  have b0 : Below w.heap.size w W0.drew := by rw [← hW0]; exact (al w _).drew
  have hp0 : W0.heap[w.heap.size]? = some (.cells #[.int .i64 kd, .string k, .int .i64 p, .int .i64 q] 32 (0, 0)) := by rw [← hW0]; exact heap_alloc_new w _
  have d0 : W0.cell? ⟨w.heap.size, 0, none⟩ = some (.int .i64 kd) := by unfold World.cell?; simp only [hp0]; rfl
  have D0 : Dx w.heap.size k p q W0 := ⟨by unfold World.cell?; simp only [hp0]; rfl, by unfold World.cell?; simp only [hp0]; rfl, by unfold World.cell?; simp only [hp0]; rfl⟩
  have H0 := Lib.hid hW0
  have bo0 := bo.below b0
  have hlen := bo.x.len
  have hnb : ¬ IxS g m v w.heap.size := fun hx => by have := (bo.x.lt _ hx).2; omega
  have hnh : w.heap.size ≠ h := fun e => by have := bo.y.lt; omega
  have hhl : h < W0.drew.heap.size := by have := bo.y.lt; have := b0.size; omega
  have D0' : Dx w.heap.size k p q W0.drew := dx_below D0 ((Below.refl _ _).drew)
  have hset := peek_calls B g m v l N p q W0.drew bo0.x (by omega)
  have hsR := fun w (y : Yx w B h A c l) => peekR_calls B h c A l p q w y (by omega)
  obtain ⟨L, hL⟩ : ∃ L, peekL l p q = L := ⟨_, rfl⟩
  rw [hL] at hset hsR
  clear hL
  have t0 : (kd == 0) = false := by simpa using h0
  have t1 : (kd == 1) = false := by simpa using h1
  have t2 : (kd == 2) = false := by simpa using h2
  have t3 : (kd == 3) = false := by simpa using h3
  obtain ⟨d1, d2, d3⟩ := D0
  clear hW0 hp0
  go_enter Try.func10, Try.ntmps10
  go_upto_region 9 with fail
  rw [H0.out]
  go_wp2_with fail
  go_region_held3 (fun w' => Dx w.heap.size k p q w')
      (first | exact D0' | assumption)
      (first
        | (go_at_call 11; refine hset.mono ?_; rintro e w3 ⟨s3, rfl, o3, b3⟩; obtain ⟨S3, q3, rfl⟩ := own_form o3; have bo3 := bo0.below b3; have D3 := dx_below D0' b3)
        | (go_at_call 13; refine (hsR _ bo3.y).mono ?_; rintro e w4 ⟨s4, rfl, o4, b4⟩; obtain ⟨S4, q4, rfl⟩ := own_form o4; have bo4 := bo3.below b4; have D4 := dx_below D3 b4; have o34 := own_only o3 (only_b (S := fun _ => False) b4) (fun k hk e => e))
        | (go_at_call 12; refine (texts_same S3 _ q3 L S4 _ q4 _ (Rd.of_own o34) (Rd.of_own o4)).mono ?_; rintro e w5 ⟨rfl, nd5, rfl⟩; have D5 : Dx w.heap.size k p q (w4.drewN nd5) := D4))
  all_goals (
    go_wp2_with fail
    go_ret
    exact did_of b0 (only_b (S := IxS g m v) b3) ((only_b (S := fun k => k = h) b4).drawn nd5) (.inl rfl) (bo_more (bo4.below (below_drawn_ (Below.refl _ _) nd5)) (by omega)) (fun ad e => .inl ⟨ad, e, rfl⟩))
theorem do_calls (kd : Int) (bo : Bo w B g m v l h A c l N) (hB : B ≤ w.heap.size) (hk : okk k) (hN : N ≤ 1099511627774) :
    Calls Try.prog 10 #[.pointer (some ⟨g, 0, none⟩), .pointer (some ⟨h, 0, none⟩), .agg #[.int .i64 kd, .string k, .int .i64 p, .int .i64 q]] w (Did B g m v h N A w) := by
  by_cases h0 : kd = 0
  · exact doSet_calls B g m v l h A c N k p q w kd (.inl h0) bo hB hk hN
  by_cases h1 : kd = 1
  · exact doSet_calls B g m v l h A c N k p q w kd (.inr h1) bo hB hk hN
  by_cases h2 : kd = 2
  · subst h2; exact doDrop_calls B g m v l h A c N k p q w bo hB hk hN
  by_cases h3 : kd = 3
  · subst h3; exact doTake_calls B g m v l h A c N k p q w bo hB hN
  exact doPeek_calls B g m v l h A c N k p q w kd h0 h1 h2 h3 bo hN
end
end Go.Proofs.Ytabgngdimbflkaa.DwX
