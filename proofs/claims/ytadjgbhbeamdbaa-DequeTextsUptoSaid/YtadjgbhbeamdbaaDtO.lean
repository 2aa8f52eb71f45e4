/-
  What a Deque's PushBack, PopFront and PopBack hand back and leave. Conditions: as stated.
-/
import Derived.Test.YtadjgbhbeamdbaaDtG
import Derived.Test.YtadjgbhbeamdbaaDtC
import Derived.Test.YtadjgbhbeamdbaaDtI
import Derived.Test.YtadjgbhbeamdbaaDtF
import Derived.Deep.RegionHeld3
import Derived.Lib.SliceRun
set_option maxRecDepth 100000
set_option linter.unusedSimpArgs false
set_option linter.unusedVariables false
namespace Go.Proofs.Ytadjgbhbeamdbaa.DtO
open Go.RowKit Go.Proofs.Ytadjgbhbeamdbaa.Mem Go.Proofs.Ytadjgbhbeamdbaa.DtA Go.Proofs.Ytadjgbhbeamdbaa.DtB Go.Proofs.Ytadjgbhbeamdbaa.DtD Go.Proofs.Ytadjgbhbeamdbaa.DtF Go.Proofs.Ytadjgbhbeamdbaa.DtG Go.Proofs.Ytadjgbhbeamdbaa.DtI

/-- A Deque at block g, its store and its place told. -/
structure DqF (w : World) (B g : Nat) (v : Value) (xs : List ByteArray) (f : Nat) : Prop where
  hp : w.heap[g]? = some (.cells #[v, .int .i64 f] 54 (0, 0))
  ge : B ≤ g
  own : OwnI w B v xs
  le : f ≤ xs.length
  ne : v.ownBlock ≠ some g
/-- A Deque that holds l, its store of N texts at most. -/
def Dqn (w : World) (B g : Nat) (v : Value) (l : List ByteArray) (N : Nat) : Prop := ∃ xs f, DqF w B g v xs f ∧ xs.drop f = l ∧ xs.length ≤ N
theorem Dqn.dq {w : World} {B g N : Nat} {v : Value} {l : List ByteArray} (h : Dqn w B g v l N) (hN : N ≤ 8796093022208) : Dq w B g v l := by
  obtain ⟨xs, f, ⟨a, b, c, d, e⟩, hl, hn⟩ := h
  exact ⟨xs, f, a, b, c, d, hl, e, by omega⟩
theorem Dqn.more {w : World} {B g N N' : Nat} {v : Value} {l : List ByteArray} (h : Dqn w B g v l N) (hN : N ≤ N') : Dqn w B g v l N' := by
  obtain ⟨xs, f, a, hl, hn⟩ := h
  exact ⟨xs, f, a, hl, by omega⟩
theorem Dqn.len {w : World} {B g N : Nat} {v : Value} {l : List ByteArray} (h : Dqn w B g v l N) : l.length ≤ N := by
  obtain ⟨xs, f, a, rfl, hn⟩ := h
  simp; omega
theorem Dqn.only {w w' : World} {B g N : Nat} {v : Value} {l : List ByteArray} {S : Nat → Prop} (h : Dqn w B g v l N) (ho : Only S w w') (h1 : ¬ S g) (h2 : ∀ k, v.ownBlock = some k → ¬ S k) : Dqn w' B g v l N := by
  obtain ⟨xs, f, ⟨a, b, c, d, e⟩, hl, hn⟩ := h
  exact ⟨xs, f, ⟨ho.heap a h1, b, own_only c ho h2, d, e⟩, hl, hn⟩
theorem Dqn.lt {w : World} {B g N : Nat} {v : Value} {l : List ByteArray} (h : Dqn w B g v l N) : g < w.heap.size := by
  obtain ⟨xs, f, ⟨a, _⟩, _⟩ := h
  exact (Array.getElem?_eq_some_iff.1 a).1
theorem Dqn.ge {w : World} {B g N : Nat} {v : Value} {l : List ByteArray} (h : Dqn w B g v l N) : B ≤ g := by
  obtain ⟨xs, f, ⟨_, b, _⟩, _⟩ := h
  exact b
theorem Dqn.olt {w : World} {B g N : Nat} {v : Value} {l : List ByteArray} (h : Dqn w B g v l N) : ∀ k, v.ownBlock = some k → B ≤ k ∧ k < w.heap.size := by
  obtain ⟨xs, f, ⟨_, b, c, _⟩, _⟩ := h
  exact c.lt
theorem Dqn.below {w w' : World} {B g N : Nat} {v : Value} {l : List ByteArray} (h : Dqn w B g v l N) (hb : Below w.heap.size w w') : Dqn w' B g v l N :=
  h.only (Only.of_below hb) (by have := h.lt; omega) (fun k hk => by have := (h.olt k hk).2; omega)
theorem Dqn.drawn {w : World} {B g N : Nat} {v : Value} {l : List ByteArray} (h : Dqn w B g v l N) (n : Nat) : Dqn (w.drewN n) B g v l N := by
  obtain ⟨xs, f, ⟨a, b, c, d, e⟩, hl, hn⟩ := h
  exact ⟨xs, f, ⟨a, b, c, d, e⟩, hl, hn⟩

theorem DqF.cells {w : World} {B g f : Nat} {v : Value} {xs : List ByteArray} (h : DqF w B g v xs f) :
    w.cell? ⟨g, 0, none⟩ = some v ∧ w.cell? ⟨g, 1, none⟩ = some (.int .i64 f) ∧ w.frozen? ⟨g, 0, none⟩ = false ∧ w.frozen? ⟨g, 1, none⟩ = false := by
  have h1 := h.hp
  exact ⟨by simp [World.cell?, h1], by simp [World.cell?, h1], by simp [World.frozen?, h1], by simp [World.frozen?, h1]⟩
theorem DqF.only {w w' : World} {B g f : Nat} {v : Value} {xs : List ByteArray} {S : Nat → Prop} (h : DqF w B g v xs f) (ho : Only S w w') (h1 : ¬ S g) (h2 : ∀ k, v.ownBlock = some k → ¬ S k) : DqF w' B g v xs f :=
  ⟨ho.heap h.hp h1, h.ge, own_only h.own ho h2, h.le, h.ne⟩
theorem put_own {w : World} {B g i : Nat} {v u : Value} {xs : List ByteArray} (ho : OwnI w B v xs) (hne : v.ownBlock ≠ some g) : OwnI (w.setCell ⟨g, i, none⟩ u) B v xs :=
  own_only ho ((Only.refl (fun k => k = g) w).put (p := ⟨g, i, none⟩) (.inl rfl) u) (fun k hk e => hne (by rw [hk, e]))
theorem dqf_set0 {w : World} {B g f : Nat} {v0 v : Value} {xs : List ByteArray} (hh : w.heap[g]? = some (.cells #[v0, .int .i64 f] 54 (0, 0))) (hB : B ≤ g)
    (ho : OwnI w B v xs) (hf : f ≤ xs.length) (hne : v.ownBlock ≠ some g) : DqF (w.setCell ⟨g, 0, none⟩ v) B g v xs f :=
  ⟨by rw [heap_setCell_same w g 0 _ _ v hh]; rfl, hB, put_own ho hne, hf, hne⟩
theorem dqf_set1 {w : World} {B g f f' : Nat} {v : Value} {xs : List ByteArray} (h : DqF w B g v xs f) (hf : f' ≤ xs.length) : DqF (w.setCell ⟨g, 1, none⟩ (.int .i64 f')) B g v xs f' :=
  ⟨by rw [heap_setCell_same w g 1 _ _ _ h.hp]; rfl, h.ge, put_own h.own h.ne, hf, h.ne⟩

/-- So many texts set to 0. -/
def zeroL (xs : List ByteArray) (o m : Nat) : List ByteArray := xs.take o ++ (List.replicate m (⟨#[]⟩ : ByteArray) ++ xs.drop (o + m))
theorem zero_len (xs : List ByteArray) (o m : Nat) (h : o + m ≤ xs.length) : (zeroL xs o m).length = xs.length := by unfold zeroL; simp; omega
theorem zero_drop (xs : List ByteArray) (o m : Nat) (h : o + m ≤ xs.length) : (zeroL xs o m).drop (o + m) = xs.drop (o + m) := by
  unfold zeroL
  rw [← List.append_assoc, List.drop_append_of_le_length (by simp; omega), List.drop_eq_nil_of_le (by simp; omega)]; rfl
theorem zero_get (xs : List ByteArray) (o m j : Nat) (h : o + m ≤ xs.length) : (ints (zeroL xs o m))[j]? = if o ≤ j ∧ j < o + m then some (.string ⟨#[]⟩) else (ints xs)[j]? := by
  simp only [ints, zeroL, List.getElem?_map, List.getElem?_append, List.length_take, List.length_replicate, Nat.min_eq_left (show o ≤ xs.length by omega)]
  by_cases h1 : j < o
  · rw [if_pos h1, if_neg (by omega), List.getElem?_take, if_pos h1]
  · rw [if_neg h1]
    by_cases h2 : j < o + m
    · rw [if_pos (by omega), if_pos (by omega), List.getElem?_replicate, if_pos (by omega)]; rfl
    · rw [if_neg (by omega), if_neg (by omega), List.getElem?_drop, show o + m + (j - o - m) = j by omega]
theorem own_zero {w : World} {B b n c : Nat} {xs : List ByteArray} (h : OwnI w B (.slice (some ⟨b, 0, none⟩) n c) xs) (o m : Nat) (hom : o + m ≤ xs.length) :
    OwnI (w.setCells b o (List.replicate m (.string ⟨#[]⟩))) B (.slice (some ⟨b, 0, none⟩) n c) (zeroL xs o m) := by
  have hn : xs.length = n := own_n h
  rcases h.2 with ⟨e, _⟩ | ⟨g, cap, cur, e, hBg, hg, hnc, hcm, hcs, htk⟩
  · cases e
  injection e with e1 e2 e3
  injection e1 with e1
  injection e1 with e1
  subst e1 e3
  have hget : ∀ j, j < xs.length → cur[j]? = (ints xs)[j]? := fun j hj => by
    rw [← htk, List.getElem?_take, if_pos (by omega), Array.getElem?_toList]
  refine own_of (by rw [zero_len _ _ _ hom, hn]) hBg (put_heap _ w b o cur _ hg) (by omega) hcm (by rw [putA_size]; omega) (fun j hj => ?_)
  rw [putA_get _ _ _ _ (by simp; omega), zero_get _ _ _ _ hom, List.length_replicate]
  by_cases h1 : o ≤ j ∧ j < o + m
  · rw [if_pos h1, if_pos h1, List.getElem?_replicate, if_pos (by omega)]
  · rw [if_neg h1, if_neg h1, hget j (by omega)]

/-- A Deque holds l' now; nothing but its own blocks has turned. -/
def Turns (B g : Nat) (v : Value) (l' : List ByteArray) (N : Nat) (w w' : World) : Prop :=
  ∃ v', Dqn w' B g v' l' N ∧ Only (fun k => k = g ∨ v.ownBlock = some k) w w' ∧ (v'.ownBlock = v.ownBlock ∨ ∃ k, v'.ownBlock = some k ∧ w.heap.size ≤ k)

set_option maxHeartbeats 1000000 in
theorem pushBack_calls (B g N : Nat) (v : Value) (l : List ByteArray) (A : Option Addr) (n c : Nat) (k : List ByteArray) (w : World) (hd : Dqn w B g v l N) (hr : RdI w A n c k) (hN : N + n ≤ 8796093022208) (hB : B ≤ w.heap.size) :
    Calls Try.prog 9 #[.pointer (some ⟨g, 0, none⟩), .slice A n c] w fun e w' => e = .returned (.tuple #[]) ∧ Turns B g v (l ++ k) (N + n) w w' := by
  obtain rfl := rdi_len hr
  obtain ⟨xs, f, hF, rfl, hn⟩ := hd
  obtain ⟨c0, c1, z0, z1⟩ := hF.cells
  have hle := hF.le
  go_enter Try.func9, Try.ntmps9
  go_wp2_with (at_builtin; refine wpList_app rfl (.tmp 10) (.tmp 11) elI rfl B _ _ _ rfl hF.own A k.length c (ints k) rfl hr (ints_one k) (by unfold maxLen; omega) (by omega) hB ?_; intro v1 w1 o1 b1 f1; obtain ⟨A1, d1, rfl⟩ := own_form o1; have c0' := b1.cell c0 hF.ne; have z0' := (World.frozen?_of_block (a := ⟨g, 0, none⟩) (b1.block g (Array.getElem?_eq_some_iff.1 hF.hp).1 hF.ne)).trans z0)
  go_end0
  have hne1 : (Value.slice A1 (xs.length + k.length) d1).ownBlock ≠ some g := by
    rcases f1 with h | h
    · rw [h]; exact hF.ne
    · rw [h]; intro e; injection e with e; have := (Array.getElem?_eq_some_iff.1 hF.hp).1; omega
  have o1' : OwnI w1 B (.slice A1 (xs.length + k.length) d1) (xs ++ k) := by simpa [OwnI, ints] using o1
  refine ⟨rfl, _, ⟨xs ++ k, f, dqf_set0 (b1.heap hF.hp hF.ne) hF.ge o1' (by simp; omega) hne1, ?_, by simp; omega⟩, ?_, ?_⟩
  · rw [List.drop_append_of_le_length hle]
  · exact (b1.mono (S' := fun k => k = g ∨ v.ownBlock = some k) (fun b hb => .inr hb)).put (p := ⟨g, 0, none⟩) (.inl (.inl rfl)) _
  · rcases f1 with h | h
    · exact .inl h
    · exact .inr ⟨_, h, Nat.le_refl _⟩

theorem clear_run (w : World) (ty : TypeId) (b o n c : Nat) (hn : 0 < n) (hc : ∀ j, j < n → (w.cell? ⟨b, o + j, none⟩).isSome = true) (hf : ∀ j, j < n → w.frozen? ⟨b, o + j, none⟩ = false) :
    (Builtin.clear_ #[26] ty #[.slice (some ⟨b, o, none⟩) n c]).run Try.prog w = .ok (.tuple #[]) (w.setCells b o (List.replicate n (.string ⟨#[]⟩))) :=
  Lib.run_clear_slice w _ _ ty (.string ⟨#[]⟩) Try.underlying26 (fun w => by simp [go_sem]) rfl rfl b o n c hn hc hf

/-- 'clear' as one step of a region that draws its order. -/
theorem step_clear {P : Program} {ops : Array Oper} {o : Oper} {a : Act} {w w' : World} {K : Act → World → Prop} {Q : Exit → Act → World → Prop} {E : Prop} (hgd : o.guard = none) (s : Operand) (T : TypeId)
    (ho : o.op = .call { callee := .builtin .clear, args := #[s], argTypes := #[T] }) (v : Value) (hs : a.eval s = v) (hrun : ∀ ty, (Builtin.clear_ #[T] ty #[v]).run P w = .ok (.tuple #[]) w')
    (h : K (a.put o.dst (.tuple #[])) w') : if Region.wanted o (yielded ops a.tmps) = true then Oper.wp P o a w K Q else E := by
  have hw : Region.wanted o (yielded ops a.tmps) = true := by simp [Region.wanted, hgd]
  rw [if_pos hw]
  unfold Oper.wp
  simp [execOp, ho, resolve, invoke, builtin, hs, hrun, Result.andThen]
  exact h

/-- The cells of a row. -/
theorem row_cells {w : World} {B b n c : Nat} {xs : List ByteArray} (h : OwnI w B (.slice (some ⟨b, 0, none⟩) n c) xs) : (∀ j, j < n → (w.cell? ⟨b, j, none⟩).isSome = true) ∧ ∀ j, j < n → w.frozen? ⟨b, j, none⟩ = false := by
  have hn : xs.length = n := own_n h
  refine ⟨fun j hj => ?_, fun j _ => World.ownsRow.frozenAt (by unfold OwnI at h; rw [hn] at h; exact h) j⟩
  obtain ⟨y, hy⟩ : ∃ y, xs[j]? = some y := ⟨_, List.getElem?_eq_getElem (by omega)⟩
  have := World.ownsRow.cells h (g := b) rfl j (.string y) (by simp [ints, hy])
  rw [add_mk, Nat.zero_add] at this
  rw [this]; rfl

/-- How many are popped. -/
def popN (len : Nat) (n : Int) : Nat := (max 0 (min n len)).toNat

/-- A Deque holds l' now, in the block that its store had. -/
def TurnsS (B g : Nat) (v : Value) (l' : List ByteArray) (N : Nat) (w w' : World) : Prop :=
  ∃ v', Dqn w' B g v' l' N ∧ Only (fun k => k = g ∨ v.ownBlock = some k) w w' ∧ v'.ownBlock = v.ownBlock

set_option maxHeartbeats 1000000 in
theorem popFront_same (B g N : Nat) (v : Value) (l : List ByteArray) (n : Int) (w : World) (hd : Dqn w B g v l N) (hN : N ≤ 8796093022208)
    (n1 : -9223372036854775808 ≤ n) (n2 : n ≤ 9223372036854775807) :
    Calls Try.prog 13 #[.pointer (some ⟨g, 0, none⟩), .int .i64 n] w fun e w' => ∃ r, e = .returned r ∧ OwnI w' w.heap.size r (l.take (popN l.length n)) ∧ TurnsS B g v (l.drop (popN l.length n)) N w w' := by
  have hdq := hd.dq hN
  have hl := hd.len
  have hp : max 0 (min n (l.length : Int)) = (popN l.length n : Nat) := by unfold popN; omega
  have hpl : popN l.length n ≤ l.length := by unfold popN; omega
  generalize popN l.length n = k at hp hpl
  have hO1 : ∀ (S : Nat → Prop) nd, Only S w (w.drewN nd) := fun S nd => (Only.refl S w).drawn nd
  by_cases hk : k = 0
  · have hz : max 0 (min n (l.length : Int)) = 0 := by rw [hp, hk]; rfl
    subst hk
    clear hp
    go_enter Try.func13, Try.ntmps13
    go_wp2_with fail
    refine (len_calls B g v l w hdq).mono ?_
    rintro e w1 ⟨rfl, nd, rfl⟩
    go_wp2_with fail
    go_ret
    exact ⟨_, rfl, by simpa [OwnI, ints] using World.ownsRow_nil _ _ _ _, v, by simpa using hd.drawn nd, hO1 _ nd, rfl⟩
  · have hz : ((k : Int) == 0) = false := by simpa using hk
    go_enter Try.func13, Try.ntmps13
    go_wp2_with fail
    refine (len_calls B g v l w hdq).mono ?_
    rintro e w1 ⟨rfl, nd, rfl⟩
    have hd1 := hd.drawn nd
    have hbel : Below w.heap.size w (w.drewN nd) := ⟨rfl, rfl, rfl, Nat.le_refl _, fun _ _ => rfl⟩
    have hO2 := fun S => hO1 S nd
    clear hO1
    generalize w.drewN nd = w1 at hd1 hbel hO2 ⊢
    go_wp2_with fail
    refine (all_calls B g v l w1 (hd1.dq hN)).mono ?_
    rintro e w2 ⟨A, m, c, nd2, rfl, hr, hm, hA, rfl⟩
    obtain rfl := hm
    have hc := hr.cap
    go_wp2_with fail
    refine (clone_calls A k c (l.take k) _ ((rd_take hr hpl).drawn nd2) (by omega)).mono ?_
    rintro e w3 ⟨s3, rfl, ho3, hb3⟩
    have hd3 := (hd1.drawn nd2).below hb3
    have hbel3 : Below w.heap.size w w3 := below_new hbel (below_new (below_drawn (Below.refl _ _) nd2) hb3)
    generalize hT : l.take k = T at ho3
    obtain ⟨A3, c3, rfl⟩ := own_form ho3
    obtain ⟨xs, f, hF, rfl, hn⟩ := hd3
    have hle := hF.le
    have hkx : f + k ≤ xs.length := by rw [List.length_drop] at hpl; omega
    obtain ⟨b, c4, rfl⟩ : ∃ b c4, v = .slice (some ⟨b, 0, none⟩) xs.length c4 := by
      rcases hF.own.2 with ⟨e, h0⟩ | ⟨b, cap, cur, e, _⟩
      · omega
      · exact ⟨b, cap, e⟩
    have hcap := (Rd.of_own hF.own).cap
    obtain ⟨rc, rf⟩ := row_cells hF.own
    obtain ⟨x0, x1, z0, z1⟩ := hF.cells
    have hcl : ∀ ty, (Builtin.clear_ #[26] ty #[.slice (some ⟨b, f, none⟩) (((f : Int) + (k : Int)).toNat - f) (c4 - f)]).run Try.prog w3.drew = .ok (.tuple #[]) (w3.drew.setCells b f (List.replicate k (.string ⟨#[]⟩))) := fun ty => by
      rw [show ((f : Int) + (k : Int)).toNat - f = k by omega]
      exact clear_run w3.drew ty b f k (c4 - f) (by omega) (fun j hj => rc (f + j) (by omega)) (fun j hj => rf (f + j) (by omega))
    have q0 : (0 : Int) ≤ (f : Int) := by omega
    have q1 : (f : Int) ≤ (f : Int) + (k : Int) := by omega
    have q2 : (f : Int) + (k : Int) ≤ (c4 : Int) := by omega
    have q3 : ¬ c4 = f := by omega
    have q4 : c4 ≤ 9223372036854775807 := (Rd.of_own hF.own).big
    have q5 : IntKind.i64.wrap ((f : Int) + (k : Int)) = (f : Int) + (k : Int) := IntWalk.i64_in _ (by omega)
    have hO4 := put_only (List.replicate k (.string ⟨#[]⟩)) w3.drew b f
    have hbg : ¬ g = b := fun e => hF.ne (by rw [e]; rfl)
    have y0 := hO4.cell (p := ⟨g, 0, none⟩) x0 hbg
    have y1 := hO4.cell (p := ⟨g, 1, none⟩) x1 hbg
    have hFd : DqF w3.drew B g _ xs f := hF.only ((Only.refl (fun _ => False) w3).drew) id (fun _ _ => id)
    have hF4 : DqF (w3.drew.setCells b f (List.replicate k (.string ⟨#[]⟩))) B g (.slice (some ⟨b, 0, none⟩) xs.length c4) (zeroL xs f k) f :=
      ⟨hO4.heap hFd.hp hbg, hF.ge, own_zero hFd.own f k hkx, by rw [zero_len _ _ _ hkx]; exact hF.le, hF.ne⟩
    have hOa : Only (fun j => j = g ∨ j = b) w3 (w3.drew.setCells b f (List.replicate k (.string ⟨#[]⟩))) := ((Only.refl (fun j => j = g ∨ j = b) w3).drew).trans hO4 (fun j hj => .inl (.inr hj))
    have hOb : Only (fun j => j = g ∨ j = b) w w3 := ((hO2 _).drawn nd2).trans (Only.of_below hb3) (fun j hj => .inr (Nat.le_trans hbel.size hj))
    have hg1 := hd1.lt
    have hb1 := (hd1.olt b rfl).2
    have hs1 : (w1.drewN nd2).heap.size = w1.heap.size := rfl
    have hws := hbel.size
    clear hd hdq hd1 hr hA hb3 hbel
    go_wp2_with fail
    go_region_held3 (fun w' => w'.cell? ⟨g, 0, none⟩ = some (.slice (some ⟨b, 0, none⟩) xs.length c4) ∧ w'.cell? ⟨g, 1, none⟩ = some (.int .i64 f)) (first | exact ⟨x0, x1⟩ | exact ⟨y0, y1⟩) (first | refine step_clear rfl (.tmp 32) 26 rfl _ rfl hcl ?_)
    generalize w3.drew.setCells b f (List.replicate k (.string ⟨#[]⟩)) = w4 at hF4 hOa y0 y1 ⊢
    obtain ⟨u0, u1, t0, t1⟩ := hF4.cells
    go_wp2_with fail
    go_ret
    have hF5 := dqf_set1 hF4 (f' := f + k) (by rw [zero_len _ _ _ hkx]; exact hkx)
    rw [Int.natCast_add] at hF5
    have hOc := hOa.put (p := ⟨g, 1, none⟩) (.inl (.inl rfl)) (.int .i64 ((f : Int) + (k : Int)))
    refine ⟨_, rfl, ?_, _, ⟨_, _, hF5, ?_, by rw [zero_len _ _ _ hkx]; exact hn⟩, ?_, rfl⟩
    · rw [hT]
      exact own_only (own_less ho3 (by omega)) hOc (fun j hj e => by have := (ho3.lt j hj).1; rcases e with rfl | rfl <;> omega)
    · rw [zero_drop _ _ _ hkx, List.drop_drop]
    · exact (hOb.trans hOc (fun j hj => .inl hj)).mono (fun j hj => hj.elim .inl (fun e => .inr (by rw [e]; rfl)))

theorem popFront_calls (B g N : Nat) (v : Value) (l : List ByteArray) (n : Int) (w : World) (hd : Dqn w B g v l N) (hN : N ≤ 8796093022208)
    (n1 : -9223372036854775808 ≤ n) (n2 : n ≤ 9223372036854775807) :
    Calls Try.prog 13 #[.pointer (some ⟨g, 0, none⟩), .int .i64 n] w fun e w' => ∃ r, e = .returned r ∧ OwnI w' w.heap.size r (l.take (popN l.length n)) ∧ Turns B g v (l.drop (popN l.length n)) N w w' :=
  (popFront_same B g N v l n w hd hN n1 n2).mono (fun e w' ⟨r, h1, h2, v', h3, h4, h5⟩ => ⟨r, h1, h2, v', h3, h4, .inl h5⟩)
end Go.Proofs.Ytadjgbhbeamdbaa.DtO
