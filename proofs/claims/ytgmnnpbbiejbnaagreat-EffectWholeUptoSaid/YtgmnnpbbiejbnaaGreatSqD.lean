/-
  Entries. Conditions: as stated.
  Changes. Conditions: as stated.
  Back: all is as it was at the mark. Conditions: as stated.
-/
import Derived.Test.YtgmnnpbbiejbnaaGreatSqC
set_option maxRecDepth 100000
set_option linter.unusedSimpArgs false
set_option linter.unusedVariables false
namespace Go.Proofs.YtgmnnpbbiejbnaaGreat.SpO
open Go.RowKit Go.Proofs.YtgmnnpbbiejbnaaGreat.Mem Go.Proofs.YtgmnnpbbiejbnaaGreat.VaC Go.Proofs.YtgmnnpbbiejbnaaGreat.VaE Go.Proofs.YtgmnnpbbiejbnaaGreat.VaH Go.Proofs.YtgmnnpbbiejbnaaGreat.VaI Go.Proofs.YtgmnnpbbiejbnaaGreat.VaX Go.Proofs.YtgmnnpbbiejbnaaGreat.DuA Go.Proofs.YtgmnnpbbiejbnaaGreat.SpA Go.Proofs.YtgmnnpbbiejbnaaGreat.SpB Go.Proofs.YtgmnnpbbiejbnaaGreat.SpC Go.Proofs.YtgmnnpbbiejbnaaGreat.SpD Go.Proofs.YtgmnnpbbiejbnaaGreat.SpE Go.Proofs.YtgmnnpbbiejbnaaGreat.SpF Go.Proofs.YtgmnnpbbiejbnaaGreat.SpG Go.Proofs.YtgmnnpbbiejbnaaGreat.SpH Go.Proofs.YtgmnnpbbiejbnaaGreat.SpI Go.Proofs.YtgmnnpbbiejbnaaGreat.SpJ Go.Proofs.YtgmnnpbbiejbnaaGreat.SpK Go.Proofs.YtgmnnpbbiejbnaaGreat.SpL Go.Proofs.YtgmnnpbbiejbnaaGreat.SpM Go.Proofs.YtgmnnpbbiejbnaaGreat.SpN
open Go.Proofs.YtgmnnpbbiejbnaaGreat.DsH (Ix IxS okk keyed key_of)
open Go.Proofs.YtgmnnpbbiejbnaaGreat.DsK (OwnKs RdKs keysV elKs)
open Go.Proofs.YtgmnnpbbiejbnaaGreat.VdA (WrV Tch tch_lt)
open Go.Proofs.YtgmnnpbbiejbnaaGreat.DuM (step_enter)

/-- An entry as it lies. -/
structure EN where
  key : ByteArray
  x : VV
  due : Int
  ver : Nat
def EN.cells (e : EN) : List Value := [.string e.key, .int .i64 e.x.kind, .string e.x.text, .slice e.x.LA e.x.ln e.x.lc, .slice e.x.FA e.x.fn e.x.fc, .slice e.x.KA e.x.kn e.x.kc, .int .i64 e.due, .int .u64 e.ver]
theorem en_len (e : EN) : e.cells.length = 8 := rfl
theorem en_one (e : EN) : ∀ u ∈ e.cells, u.oneCell' = true := by
  intro u hu
  simp only [EN.cells, List.mem_cons, List.not_mem_nil, or_false] at hu
  rcases hu with rfl | rfl | rfl | rfl | rfl | rfl | rfl | rfl <;> rfl
theorem elEn : El Tryz.prog 46 92 (.agg #[.string ⟨#[]⟩, .int .i64 0, .string ⟨#[]⟩, .slice none 0 0, .slice none 0 0, .slice none 0 0, .int .i64 0, .int .u64 0]) 8 128 := by
  obtain ⟨i, h1, h2, h3, h4⟩ := info_parts (show (Tryz.prog.info? 92).map (fun i => (i.zero, i.size, i.bytes)) = some (some (.agg #[.string ⟨#[]⟩, .int .i64 0, .string ⟨#[]⟩, .slice none 0 0, .slice none 0 0, .slice none 0 0, .int .i64 0, .int .u64 0]), 8, 128) by kernel_rfl)
  exact ⟨Tryz.underlying46, ⟨i, h1, h2, h3, h4⟩, rfl, by decide⟩
abbrev OwnEn (w : World) (B : Nat) (v : Value) (es : List EN) : Prop := w.ownsRow B 92 8 v es.length (rows EN.cells es)
def RdEn (w : World) (S : Nat → Prop) (e : EN) (p : ByteArray × PH) : Prop := e.key = p.1 ∧ e.due = p.2.due ∧ e.ver = p.2.ver ∧ Vok w S e.x p.2.v
def ENs (w : World) (S : Nat → Prop) (es : List EN) (l : List (ByteArray × PH)) : Prop := es.length = l.length ∧ ∀ (i : Nat) (e : EN) (p : ByteArray × PH), es[i]? = some e → l[i]? = some p → RdEn w S e p
theorem ENs.move {w w' : World} {S S1 S' : Nat → Prop} {es : List EN} {l : List (ByteArray × PH)} (h : ENs w S es l) (ho : Only S1 w w') (h1 : ∀ k, k < w.heap.size → S1 k → S k) (h2 : ∀ k, k < w.heap.size → S' k → S k) : ENs w' S' es l :=
  ⟨h.1, fun i e p he hp => let r := h.2 i e p he hp; ⟨r.1, r.2.1, r.2.2.1, r.2.2.2.move ho h1 h2⟩⟩
theorem ENs.push {w : World} {S : Nat → Prop} {es : List EN} {l : List (ByteArray × PH)} (h : ENs w S es l) {e : EN} {p : ByteArray × PH} (he : RdEn w S e p) : ENs w S (es ++ [e]) (l ++ [p]) := by
  refine ⟨by simp [h.1], fun i a b ha hb => ?_⟩
  rcases Nat.lt_or_ge i es.length with hi | hi
  · rw [List.getElem?_append_left hi] at ha
    rw [List.getElem?_append_left (h.1 ▸ hi)] at hb
    exact h.2 i a b ha hb
  · have h2 := h.1
    rw [List.getElem?_append_right hi] at ha
    rw [List.getElem?_append_right (by omega)] at hb
    have : i - es.length = 0 := by
      rcases Nat.eq_zero_or_pos (i - es.length) with h0 | h0
      · exact h0
      · simp [List.getElem?_singleton] at ha; omega
    rw [this] at ha
    rw [← h2, this] at hb
    simp at ha hb
    subst ha hb
    exact he
/-- Entries in fresh memory, their values' too. -/
structure FrEn (w : World) (B : Nat) (v : Value) (es : List EN) (l : List (ByteArray × PH)) : Prop where
  own : OwnEn w B v es
  rel : ENs w (fun q => q < B ∨ v.ownBlock = some q) es l
  wr : ∀ e ∈ es, WrV w e.x ∧ ∀ k, Tch e.x k → B ≤ k ∧ v.ownBlock ≠ some k
theorem wrv_only {w w' : World} {x : VV} {S : Nat → Prop} (h : WrV w x) (ho : Only S w w') (hn : ∀ k, Tch x k → ¬ S k) : WrV w' x :=
  ⟨h.l.only ho (fun ad e => hn _ (.inl ⟨ad, e, rfl⟩)), h.f.only ho (fun ad e => hn _ (.inr (.inl ⟨ad, e, rfl⟩))), h.k.only ho (fun ad e => hn _ (.inr (.inr ⟨ad, e, rfl⟩)))⟩
theorem FrEn.nil (w : World) (B : Nat) : FrEn w B (.slice none 0 0) [] [] := ⟨World.ownsRow_nil .., ⟨rfl, fun i e p he => by simp at he⟩, fun e he => by cases he⟩
theorem FrEn.below {w w' : World} {B : Nat} {v : Value} {es : List EN} {l : List (ByteArray × PH)} (h : FrEn w B v es l) (hb : Below w.heap.size w w') : FrEn w' B v es l :=
  ⟨own_only h.own (Only.of_below hb) (fun k hk e => by have := (h.own.lt k hk).2; omega), h.rel.move (Only.of_below hb) (fun k hk e => by omega) (fun k _ e => e), fun e he => ⟨(h.wr e he).1.below hb, (h.wr e he).2⟩⟩
theorem FrEn.less {w : World} {B B' : Nat} {v : Value} {es : List EN} {l : List (ByteArray × PH)} (h : FrEn w B v es l) (hB : B' ≤ B) : FrEn w B' v es l :=
  ⟨own_less h.own hB, h.rel.move (Only.refl (fun _ => False) w) (fun k _ e => e.elim) (fun k _ e => e.imp (fun e => Nat.lt_of_lt_of_le e hB) id), fun e he => ⟨(h.wr e he).1, fun k hk => ⟨Nat.le_trans hB ((h.wr e he).2 k hk).1, ((h.wr e he).2 k hk).2⟩⟩⟩
theorem FrEn.next {w4 w6 : World} {o : Obj} {B : Nat} {v v6 : Value} {es : List EN} {l : List (ByteArray × PH)} {e : EN} {p : ByteArray × PH} (h : FrEn w4 B v es l) (he : RdEn w4 (fun q => q < B ∨ v.ownBlock = some q) e p) (hw : WrV w4 e.x) (ht : ∀ k, Tch e.x k → B ≤ k ∧ v.ownBlock ≠ some k)
    (h6 : w6.ownsRow B 92 8 v6 (es.length + 1) (rows EN.cells es ++ e.cells)) (f6 : Only (fun k => v.ownBlock = some k) (w4.alloc o) w6) (n6 : v6.ownBlock = v.ownBlock ∨ v6.ownBlock = some (w4.alloc o).heap.size) : FrEn w6 B v6 (es ++ [e]) (l ++ [p]) := by
  have hsz : (w4.alloc o).heap.size = w4.heap.size + 1 := World.size_alloc ..
  have O : Only (fun k => v.ownBlock = some k) w4 w6 := ((Only.refl (fun k => v.ownBlock = some k) w4).alloc o).trans f6 (fun k e => .inl e)
  have hv6 : ∀ k, v6.ownBlock = some k → v.ownBlock = some k ∨ w4.heap.size ≤ k := by
    intro k hk
    rcases n6 with n6 | n6
    · exact .inl (n6 ▸ hk)
    · rw [n6] at hk; injection hk with hk; exact .inr (by omega)
  have hwr : ∀ x : VV, WrV w4 x → (∀ k, Tch x k → B ≤ k ∧ v.ownBlock ≠ some k) → WrV w6 x ∧ ∀ k, Tch x k → B ≤ k ∧ v6.ownBlock ≠ some k := fun x h1 h2 =>
    ⟨wrv_only h1 O (fun k hk => (h2 k hk).2), fun k hk => ⟨(h2 k hk).1, fun e => (hv6 k e).elim (h2 k hk).2 (fun hge => by have := tch_lt h1 hk; omega)⟩⟩
  refine ⟨?_, (h.rel.push he).move O (fun k _ e => .inr e) (fun k hk e => e.imp id (fun e => (hv6 k e).elim id (fun hge => absurd hk (by omega)))), fun e' he' => ?_⟩
  · unfold OwnEn
    rw [rows_app, List.length_append]
    have e1 : rows EN.cells [e] = e.cells := by simp [rows]
    rw [e1]
    exact h6
  · rcases List.mem_append.1 he' with he' | he'
    · exact hwr _ (h.wr e' he').1 (h.wr e' he').2
    · rw [List.mem_singleton] at he'; subst he'; exact hwr _ hw ht
set_option maxHeartbeats 4000000 in
theorem entries_calls (B : Nat) (F : Lay) (N : Nat) (s : PS) (w : World) (h : Sp w B F N s) (hX : ∀ k, F.X k → k < w.heap.size) (hN : N ≤ 400000000) :
    Calls Tryz.prog 20 #[.pointer (some ⟨F.g, 0, none⟩)] w fun e w' => ∃ v es, e = .returned v ∧ FrEn w' w.heap.size v es s.l ∧ Below w.heap.size w w' := by
  have hnm := names_calls B F N s w h (by omega)
  obtain ⟨n, hn⟩ : ∃ n, s.l.length = n := ⟨_, rfl⟩
  have hKn : (keysL s.l).length = n := by unfold keysL; rw [List.length_map]; exact hn
  have hnN : n ≤ N := by
    obtain ⟨L, hm, ht⟩ := h.sq.mp
    have := hm.len
    rw [ht.len hm.ris h.inv.ris] at this
    omega
  have H := Lib.hid (And.intro h (And.intro hn hKn))
  clear h hn hKn
  go_enter Tryz.func20, Tryz.ntmps20
  go_wp2_with fail
  refine hnm.mono ?_
  rintro e w1 ⟨v, rfl, ho, b1⟩
  obtain ⟨A, c, rfl⟩ := own_form ho
  have hr : RdKs w1 A (keysL s.l).length c (keysL s.l) := Rd.of_own ho
  have h1 := H.out.1.below b1
  rw [H.out.2.2] at hr ⊢
  have hcap := hr.cap
  have hbig := hr.big
  unfold maxLen at hbig
  have H1 := Lib.hid (And.intro hr (And.intro h1 b1))
  clear ho hr h1 b1
  go_wp2_with fail
  go_loopw [3, 12] (fun v i wr => ∃ (k : Nat) (es : List EN), k ≤ n ∧ i = .int .i64 k ∧ FrEn wr w1.heap.size v es (s.l.take k) ∧ Below w1.heap.size w1 wr) (fun _ i _ => n - (intOf i).toNat)
  case atStart => exact ⟨0, [], Nat.zero_le _, rfl, FrEn.nil _ _, Below.refl _ _⟩
  case round =>
    obtain ⟨k, es, hk, rfl, hF, hb⟩ := hrel
    obtain ⟨Av, cv, rfl⟩ := own_form hF.own
    by_cases hlt : k < n
    · obtain ⟨p, hp⟩ : ∃ p, s.l[k]? = some p := ⟨_, List.getElem?_eq_getElem (by rw [H.out.2.1]; exact hlt)⟩
      obtain ⟨hr, h1, b1⟩ := H1.out
      obtain ⟨x, q⟩ := p
      have hxk : (keysL s.l)[k]? = some x := by unfold keysL; rw [List.getElem?_map, hp]; rfl
      have hgx : getK s.l x = some q := (mem_getR DuB.linS h1.inv.ris).2 (List.mem_of_getElem? hp)
      obtain ⟨pa, rfl, cx⟩ := ks_get hr hxk
      have cx' := below_c cx hb
      have hxs := h1.inv.key _ (List.mem_of_getElem? hp)
      have hS := h1.below hb
      obtain ⟨c0, -, -, -, -, -, -⟩ := hS.cells
      obtain ⟨y0, hy0, -, hl1⟩ := look_s hS hxs
      rw [hgx] at hy0 hl1
      simp only [Option.getD_some] at hy0 hl1
      obtain ⟨d, hd⟩ : ∃ d, q.due = d := ⟨_, rfl⟩
      obtain ⟨m, hm⟩ : ∃ m, q.ver = m := ⟨_, rfl⟩
      rw [hd, hm] at hl1
      obtain ⟨W2, hW2⟩ : ∃ W2, wr.alloc (.cells (hcells y0 d m) 97) = W2 := ⟨_, rfl⟩
      have b2 : Below wr.heap.size wr W2.drew := by rw [← hW2]; exact ((Below.refl _ _).alloc (Nat.le_refl _) _).drew
      have hbx : W2.drew.heap[wr.heap.size]? = some (.cells (hcells y0 d m) 97 (0, 0)) := by rw [← hW2]; exact heap_alloc_new wr _
      have hcp := copy_vok (S := fun q => q < W2.drew.heap.size) (hy0.below b2) (fun q e => e)
      obtain ⟨z0, z1, z2, z3, z4, z5, z6⟩ := hcells_at hbx
      have hkn : ((k : Nat) : Int) < (n : Int) := by omega
      have hen : es.length + 1 ≤ 400000001 := by have := hF.rel.1; rw [List.length_take] at this; omega
      have HR := Lib.hid (And.intro (hF.below b2) (And.intro (hb.trans (b2.mono hb.size)) (And.intro hbx (And.intro hp (And.intro hd hm)))))
      have HW := Lib.hid hW2
      unfold VV.val at hcp
      clear hF hb hr h1 b1 hxk hgx cx hxs hS hy0 hd hm b2 hbx hW2 hp
      go_wp2_with fail
      have HW2 := HW.out
      unfold hcells at HW2
      rw [HW2]
      clear HW2
      have FIN : ∀ (y : VV) (w4 : World), Vok w4 (fun q => q < W2.drew.heap.size) y q.v → WrV w4 y → (VaT.Nw W2.drew.heap.size y.LA ∧ VaT.Nw W2.drew.heap.size y.FA ∧ VaT.Nw W2.drew.heap.size y.KA) → Below W2.drew.heap.size W2.drew w4 →
          OwnEn (w4.alloc (.cells #[.string x, .int .i64 y.kind, .string y.text, .slice y.LA y.ln y.lc, .slice y.FA y.fn y.fc, .slice y.KA y.kn y.kc, .int .i64 d, .int .u64 m] 92)) w1.heap.size (.slice Av es.length cv) es ∧ w1.heap.size ≤ (w4.alloc (.cells #[.string x, .int .i64 y.kind, .string y.text, .slice y.LA y.ln y.lc, .slice y.FA y.fn y.fc, .slice y.KA y.kn y.kc, .int .i64 d, .int .u64 m] 92)).heap.size ∧
            w4.cell? ⟨wr.heap.size, 5, none⟩ = some (.int .i64 d) ∧ w4.cell? ⟨wr.heap.size, 6, none⟩ = some (.int .u64 m) ∧
            ∀ v6 w6, w6.ownsRow w1.heap.size 92 8 v6 (es.length + 1) (rows EN.cells es ++ EN.cells ⟨x, y, d, m⟩) → Only (fun k => (Value.slice Av es.length cv).ownBlock = some k) (w4.alloc (.cells #[.string x, .int .i64 y.kind, .string y.text, .slice y.LA y.ln y.lc, .slice y.FA y.fn y.fc, .slice y.KA y.kn y.kc, .int .i64 d, .int .u64 m] 92)) w6 →
              (v6.ownBlock = (Value.slice Av es.length cv).ownBlock ∨ v6.ownBlock = some (w4.alloc (.cells #[.string x, .int .i64 y.kind, .string y.text, .slice y.LA y.ln y.lc, .slice y.FA y.fn y.fc, .slice y.KA y.kn y.kc, .int .i64 d, .int .u64 m] 92)).heap.size) →
              FrEn w6 w1.heap.size v6 (es ++ [⟨x, y, d, m⟩]) (s.l.take (k + 1)) ∧ Below w1.heap.size w1 w6 := by
        intro y w4 v4 wv4 n4 b4
        obtain ⟨hF, hb, hbx, hp, hd, hm⟩ := HR.out
        have hF4 := hF.below b4
        have hbx4 := (Only.of_below b4).heap hbx (by have := (Array.getElem?_eq_some_iff.1 hbx).1; omega)
        have hs4 : w1.heap.size ≤ w4.heap.size := Nat.le_trans hb.size b4.size
        have hnv : ∀ q, (Value.slice Av es.length cv).ownBlock = some q → q < W2.drew.heap.size := fun q e => (hF.own.lt q e).2
        have ht : ∀ q, Tch y q → w1.heap.size ≤ q ∧ (Value.slice Av es.length cv).ownBlock ≠ some q := by
          intro q hq
          have hge : W2.drew.heap.size ≤ q := by
            rcases hq with ⟨a, e, rfl⟩ | ⟨a, e, rfl⟩ | ⟨a, e, rfl⟩
            · exact n4.1 a e
            · exact n4.2.1 a e
            · exact n4.2.2 a e
          exact ⟨Nat.le_trans hb.size hge, fun e => by have := hnv q e; omega⟩
        refine ⟨own_only hF4.own ((Only.refl (fun _ => False) w4).alloc _) (fun _ _ h => h), by rw [World.size_alloc]; omega, by simp [World.cell?, hbx4, hcells], by simp [World.cell?, hbx4, hcells], fun v6 w6 h1 h2 h3 => ?_⟩
        have hR : RdEn w4 (fun q => q < w1.heap.size ∨ (Value.slice Av es.length cv).ownBlock = some q) ⟨x, y, d, m⟩ (x, q) :=
          ⟨rfl, hd.symm, hm.symm, v4.move (Only.refl (fun _ => False) w4) (fun k _ e => e.elim) (fun k _ e => e.elim (fun e => Nat.lt_of_lt_of_le e hb.size) (fun e => hnv k e))⟩
        have hnx := hF4.next hR wv4 ht h1 h2 h3
        rw [List.take_succ_eq_append_getElem (List.getElem?_eq_some_iff.1 hp).1, (List.getElem?_eq_some_iff.1 hp).2]
        refine ⟨hnx, ?_⟩
        have hb4 : Below w1.heap.size w1 (w4.alloc (.cells #[.string x, .int .i64 y.kind, .string y.text, .slice y.LA y.ln y.lc, .slice y.FA y.fn y.fc, .slice y.KA y.kn y.kc, .int .i64 d, .int .u64 m] 92)) := (hb.trans (b4.mono hb.size)).alloc hs4 _
        exact h2.after hb4 (Nat.le_refl _) (fun k e => (hF.own.lt k e).1)
      have HFN := Lib.hid FIN
      clear FIN
      go_upto_region 8 with fail
      go_region_law (first
        | (refine step_enter rfl 46 #[.agg #[.int .i64 y0.kind, .string y0.text, .slice y0.LA y0.ln y0.lc, .slice y0.FA y0.fn y0.fc, .slice y0.KA y0.kn y0.kc]] (by simp [go_sem, execOp, resolve, invoke]) ?_; refine hcp.mono ?_; rintro e w4 ⟨y, rfl, v4, wv4, n4, b4⟩; obtain ⟨f1, f2, f3, f4, f5⟩ := HFN.out y w4 v4 wv4 n4 b4; have Hf1 := Lib.hid (And.intro f1 f2); have Hf5 := Lib.hid f5; clear f1 f2 f5 v4 wv4 n4 b4; refine ⟨_, rfl, ?_⟩)
        | (refine step_of_list rfl ?_; refine wpList_app rfl (.tmp 22) (.tmp 32) elEn rfl w1.heap.size (.slice Av es.length cv) es.length (rows EN.cells es) rfl Hf1.out.1 (some ⟨w4.heap.size, 0, none⟩) 1 1 (EN.cells ⟨x, y, d, m⟩) rfl (rd_new w4 (EN.cells ⟨x, y, d, m⟩) 92 8 rfl) (en_one _) (by unfold maxLen; omega) (by omega) Hf1.out.2 ?_; intro v6 w6 h1 h2 h3; refine ⟨rfl, ?_⟩))
      all_goals (
        have HD := Lib.hid (Hf5.out v6 w6 h1 h2 h3)
        clear h1 h2 h3 Hf1 Hf5 f3 f4
        go_wp2_with fail
        go_roundw
        case rel => exact ⟨k + 1, _, by omega, by go_num, HD.out.1, HD.out.2⟩
        case measure => simp [intOf]; omega)
    · obtain rfl : k = n := by omega
      obtain ⟨hr, h1, b1⟩ := H1.out
      rw [List.take_of_length_le (by rw [H.out.2.1]; exact Nat.le_refl _)] at hF
      have HE := Lib.hid (And.intro (hF.less b1.size) (b1.trans (hb.mono b1.size)))
      clear hF hb hr h1 b1
      go_wp2_with fail
      go_ret
      exact ⟨_, es, rfl, HE.out.1, HE.out.2⟩
end Go.Proofs.YtgmnnpbbiejbnaaGreat.SpO
set_option maxRecDepth 100000
set_option linter.unusedSimpArgs false
set_option linter.unusedVariables false
namespace Go.Proofs.YtgmnnpbbiejbnaaGreat.SpP
open Go.RowKit Go.Proofs.YtgmnnpbbiejbnaaGreat.Mem Go.Proofs.YtgmnnpbbiejbnaaGreat.VaC Go.Proofs.YtgmnnpbbiejbnaaGreat.VaE Go.Proofs.YtgmnnpbbiejbnaaGreat.VaH Go.Proofs.YtgmnnpbbiejbnaaGreat.VaI Go.Proofs.YtgmnnpbbiejbnaaGreat.VaX Go.Proofs.YtgmnnpbbiejbnaaGreat.DuA Go.Proofs.YtgmnnpbbiejbnaaGreat.SpA Go.Proofs.YtgmnnpbbiejbnaaGreat.SpB Go.Proofs.YtgmnnpbbiejbnaaGreat.SpC Go.Proofs.YtgmnnpbbiejbnaaGreat.SpD Go.Proofs.YtgmnnpbbiejbnaaGreat.SpE Go.Proofs.YtgmnnpbbiejbnaaGreat.SpF Go.Proofs.YtgmnnpbbiejbnaaGreat.SpG Go.Proofs.YtgmnnpbbiejbnaaGreat.SpH Go.Proofs.YtgmnnpbbiejbnaaGreat.SpI Go.Proofs.YtgmnnpbbiejbnaaGreat.SpJ Go.Proofs.YtgmnnpbbiejbnaaGreat.SpK Go.Proofs.YtgmnnpbbiejbnaaGreat.SpL Go.Proofs.YtgmnnpbbiejbnaaGreat.SpM Go.Proofs.YtgmnnpbbiejbnaaGreat.SpN Go.Proofs.YtgmnnpbbiejbnaaGreat.SpO
open Go.Proofs.YtgmnnpbbiejbnaaGreat.DsH (Ix IxS okk keyed key_of)
open Go.Proofs.YtgmnnpbbiejbnaaGreat.DsK (OwnKs RdKs keysV elKs)
open Go.Proofs.YtgmnnpbbiejbnaaGreat.VdA (WrV Tch tch_lt)

/-- Effects in fresh memory, their values' too. -/
structure FrEv (w : World) (B : Nat) (v : Value) (es : List EV) (l : List PE) : Prop where
  own : OwnEv w B v es
  rel : EVs w (fun q => q < B ∨ v.ownBlock = some q) es l
  wr : ∀ e ∈ es, WrV w e.x ∧ ∀ k, Tch e.x k → B ≤ k ∧ v.ownBlock ≠ some k
theorem FrEv.nil (w : World) (B : Nat) : FrEv w B (.slice none 0 0) [] [] := ⟨World.ownsRow_nil .., ⟨rfl, fun i e p he => by simp at he⟩, fun e he => by cases he⟩
theorem FrEv.below {w w' : World} {B : Nat} {v : Value} {es : List EV} {l : List PE} (h : FrEv w B v es l) (hb : Below w.heap.size w w') : FrEv w' B v es l :=
  ⟨own_only h.own (Only.of_below hb) (fun k hk e => by have := (h.own.lt k hk).2; omega), h.rel.move (Only.of_below hb) (fun k hk e => by omega) (fun k _ e => e), fun e he => ⟨(h.wr e he).1.below hb, (h.wr e he).2⟩⟩
theorem FrEv.less {w : World} {B B' : Nat} {v : Value} {es : List EV} {l : List PE} (h : FrEv w B v es l) (hB : B' ≤ B) : FrEv w B' v es l :=
  ⟨own_less h.own hB, h.rel.move (Only.refl (fun _ => False) w) (fun k _ e => e.elim) (fun k _ e => e.imp (fun e => Nat.lt_of_lt_of_le e hB) id), fun e he => ⟨(h.wr e he).1, fun k hk => ⟨Nat.le_trans hB ((h.wr e he).2 k hk).1, ((h.wr e he).2 k hk).2⟩⟩⟩
theorem FrEv.next {w4 w6 : World} {o : Obj} {B : Nat} {v v6 : Value} {es : List EV} {l : List PE} {e : EV} {p : PE} (h : FrEv w4 B v es l) (he : RdEv w4 (fun q => q < B ∨ v.ownBlock = some q) e p) (hw : WrV w4 e.x) (ht : ∀ k, Tch e.x k → B ≤ k ∧ v.ownBlock ≠ some k)
    (h6 : w6.ownsRow B 44 8 v6 (es.length + 1) (rows EV.cells es ++ e.cells)) (f6 : Only (fun k => v.ownBlock = some k) (w4.alloc o) w6) (n6 : v6.ownBlock = v.ownBlock ∨ v6.ownBlock = some (w4.alloc o).heap.size) : FrEv w6 B v6 (es ++ [e]) (l ++ [p]) := by
  have hsz : (w4.alloc o).heap.size = w4.heap.size + 1 := World.size_alloc ..
  have O : Only (fun k => v.ownBlock = some k) w4 w6 := ((Only.refl (fun k => v.ownBlock = some k) w4).alloc o).trans f6 (fun k e => .inl e)
  have hv6 : ∀ k, v6.ownBlock = some k → v.ownBlock = some k ∨ w4.heap.size ≤ k := by
    intro k hk
    rcases n6 with n6 | n6
    · exact .inl (n6 ▸ hk)
    · rw [n6] at hk; injection hk with hk; exact .inr (by omega)
  have hwr : ∀ x : VV, WrV w4 x → (∀ k, Tch x k → B ≤ k ∧ v.ownBlock ≠ some k) → WrV w6 x ∧ ∀ k, Tch x k → B ≤ k ∧ v6.ownBlock ≠ some k := fun x h1 h2 =>
    ⟨wrv_only h1 O (fun k hk => (h2 k hk).2), fun k hk => ⟨(h2 k hk).1, fun e => (hv6 k e).elim (h2 k hk).2 (fun hge => by have := tch_lt h1 hk; omega)⟩⟩
  refine ⟨ev_push h6, (h.rel.push he).move O (fun k _ e => .inr e) (fun k hk e => e.imp id (fun e => (hv6 k e).elim id (fun hge => absurd hk (by omega)))), fun e' he' => ?_⟩
  rcases List.mem_append.1 he' with he' | he'
  · exact hwr _ (h.wr e' he').1 (h.wr e' he').2
  · rw [List.mem_singleton] at he'; subst he'; exact hwr _ hw ht
theorem tch_ge {x : VV} {B : Nat} (hn : VaT.Nw B x.LA ∧ VaT.Nw B x.FA ∧ VaT.Nw B x.KA) {q : Nat} (hq : Tch x q) : B ≤ q := by
  rcases hq with ⟨a, e, rfl⟩ | ⟨a, e, rfl⟩ | ⟨a, e, rfl⟩
  · exact hn.1 a e
  · exact hn.2.1 a e
  · exact hn.2.2 a e
set_option maxHeartbeats 4000000 in
theorem changes_calls (B : Nat) (F : Lay) (N : Nat) (s : PS) (w : World) (h : Sp w B F N s) (hch : s.ch.length ≤ 1000000000) :
    Calls Tryz.prog 24 #[.pointer (some ⟨F.g, 0, none⟩)] w fun e w' => ∃ v es, e = .returned v ∧ FrEv w' w.heap.size v es s.ch ∧ Below w.heap.size w w' := by
  obtain ⟨-, -, -, -, -, -, c6⟩ := h.cells
  obtain ⟨es0, oes, hes⟩ := h.sq.ch
  obtain ⟨Ac, cc, hform⟩ := own_form oes
  have hr : Rd w 8 Ac es0.length cc (rows EV.cells es0) := Rd.of_own (by unfold OwnEv at oes; rw [hform] at oes; exact oes)
  rw [hform] at c6
  obtain ⟨n, hn⟩ : ∃ n, es0.length = n := ⟨_, rfl⟩
  have hnl : n ≤ 1000000000 := by have := hes.1; omega
  rw [hn] at c6 hr
  have hcap := hr.cap
  have hbig := hr.big
  unfold maxLen at hbig
  have H := Lib.hid (And.intro hr (And.intro hes hn))
  clear h oes hes hform hr hn
  go_enter Tryz.func24, Tryz.ntmps24
  go_wp2_with fail
  go_loopw [3, 13] (fun v i wr => ∃ (k : Nat) (es : List EV), k ≤ n ∧ i = .int .i64 k ∧ FrEv wr w.heap.size v es (s.ch.take k) ∧ Below w.heap.size w wr) (fun _ i _ => n - (intOf i).toNat)
  case atStart => exact ⟨0, [], Nat.zero_le _, rfl, FrEv.nil _ _, Below.refl _ _⟩
  case round =>
    obtain ⟨k, es, hk, rfl, hF, hb⟩ := hrel
    obtain ⟨Av, cv, rfl⟩ := own_form hF.own
    by_cases hlt : k < n
    · obtain ⟨hr, hes, hn⟩ := H.out
      obtain ⟨e0, he0⟩ : ∃ e0, es0[k]? = some e0 := ⟨_, List.getElem?_eq_getElem (by omega)⟩
      obtain ⟨p0, hp0⟩ : ∃ p0, s.ch[k]? = some p0 := ⟨_, List.getElem?_eq_getElem (by rw [← hes.1]; omega)⟩
      obtain ⟨r1, r2, r3, r4⟩ := hes.2 k e0 p0 he0 hp0
      obtain ⟨pa, rfl, cx⟩ := rd_rows_get ev_len hr he0 (by decide)
      have g0 : wr.cell? (pa.add (k * 8)) = some (.int .i64 e0.kind) := below_c (cx 0 _ rfl) hb
      have g1 : wr.cell? ⟨(pa.add (k * 8)).block, (pa.add (k * 8)).off + 1, none⟩ = some (.string e0.key) := below_c (cx 1 _ rfl) hb
      have g2 : wr.cell? ⟨(pa.add (k * 8)).block, (pa.add (k * 8)).off + 2, none⟩ = some (.int .i64 e0.x.kind) := below_c (cx 2 _ rfl) hb
      have g3 : wr.cell? ⟨(pa.add (k * 8)).block, (pa.add (k * 8)).off + 3, none⟩ = some (.string e0.x.text) := below_c (cx 3 _ rfl) hb
      have g4 : wr.cell? ⟨(pa.add (k * 8)).block, (pa.add (k * 8)).off + 4, none⟩ = some (.slice e0.x.LA e0.x.ln e0.x.lc) := below_c (cx 4 _ rfl) hb
      have g5 : wr.cell? ⟨(pa.add (k * 8)).block, (pa.add (k * 8)).off + 5, none⟩ = some (.slice e0.x.FA e0.x.fn e0.x.fc) := below_c (cx 5 _ rfl) hb
      have g6 : wr.cell? ⟨(pa.add (k * 8)).block, (pa.add (k * 8)).off + 6, none⟩ = some (.slice e0.x.KA e0.x.kn e0.x.kc) := below_c (cx 6 _ rfl) hb
      have g7 : wr.cell? ⟨(pa.add (k * 8)).block, (pa.add (k * 8)).off + 7, none⟩ = some (.int .i64 e0.due) := below_c (cx 7 _ rfl) hb
      obtain ⟨W2, hW2⟩ : ∃ W2, wr.alloc (.cells e0.cells.toArray 44) = W2 := ⟨_, rfl⟩
      have b2 : Below wr.heap.size wr W2 := by rw [← hW2]; exact (Below.refl _ _).alloc (Nat.le_refl _) _
      have hbx : W2.heap[wr.heap.size]? = some (.cells e0.cells.toArray 44 (0, 0)) := by rw [← hW2]; exact heap_alloc_new wr _
      have hcp := copy_vok (S := fun q => q < W2.heap.size) ((r4.below hb).below b2) (fun q e => e)
      obtain ⟨z0, z1, z2, z3, z4, z5, z6, z7⟩ := ev_at hbx
      have hkn : ((k : Nat) : Int) < (n : Int) := by omega
      have hen : es.length + 1 ≤ 1000000001 := by have := hF.rel.1; rw [List.length_take] at this; omega
      have HR := Lib.hid (And.intro hF (And.intro hb (And.intro hbx (And.intro hp0 (And.intro r1 (And.intro r2 (And.intro r3 b2)))))))
      have HW := Lib.hid hW2
      unfold VV.val at hcp
      clear hF hb hr hes hn he0 hp0 r1 r2 r3 r4 cx b2 hbx hW2
      go_upto_region 7 with fail
      have HW2 := HW.out
      unfold EV.cells at HW2
      rw [HW2]
      clear HW2
      go_wp2_with fail
      refine hcp.mono ?_
      rintro e w4 ⟨y, rfl, v4, wv4, n4, b4⟩
      obtain ⟨hF, hb, hbx, hp0, r1, r2, r3, b2⟩ := HR.out
      have hbx4 := (Only.of_below b4).heap hbx (by have := (Array.getElem?_eq_some_iff.1 hbx).1; omega)
      obtain ⟨u0, u1, u2, u3, u4, u5, u6, u7⟩ := ev_at hbx4
      have uf : ∀ j, w4.frozen? ⟨wr.heap.size, j, none⟩ = false := fun j => by simp [World.frozen?, hbx4]
      have H4 := Lib.hid (And.intro v4 (And.intro wv4 (And.intro n4 (And.intro b4 hbx4))))
      clear hF hb hbx hp0 r1 r2 r3 b2 v4 wv4 n4 b4 hbx4 hcp z0 z1 z2 z3 z4 z5 z6 z7 g0 g1 g2 g3 g4 g5 g6 g7
      go_upto_region 8 with fail
      obtain ⟨W5, hW5⟩ : ∃ W5, (((((w4.setCell ⟨wr.heap.size, 2, none⟩ (.int .i64 y.kind)).setCell ⟨wr.heap.size, 3, none⟩ (.string y.text)).setCell ⟨wr.heap.size, 4, none⟩ (.slice y.LA y.ln y.lc)).setCell ⟨wr.heap.size, 5, none⟩ (.slice y.FA y.fn y.fc)).setCell ⟨wr.heap.size, 6, none⟩ (.slice y.KA y.kn y.kc)) = W5 := ⟨_, rfl⟩
      rw [hW5]
      obtain ⟨hF, hb, hbx, hp0, r1, r2, r3, b2⟩ := HR.out
      obtain ⟨v4, wv4, n4, b4, hbx4⟩ := H4.out
      obtain ⟨ev2, hev2⟩ : ∃ ev2 : EV, ev2 = ⟨e0.kind, e0.key, y, e0.due⟩ := ⟨_, rfl⟩
      have hbx5 : W5.heap[wr.heap.size]? = some (.cells ev2.cells.toArray 44 (0, 0)) := by
        rw [← hW5, hev2]
        simp [World.setCell, Array.getElem?_modify, hbx4, EV.cells]
      have o5 : Only (fun q => q = wr.heap.size) w4 W5 := by
        rw [← hW5]
        exact (((((Only.refl (fun q => q = wr.heap.size) w4).put (p := ⟨wr.heap.size, 2, none⟩) (.inl rfl) _).put (p := ⟨wr.heap.size, 3, none⟩) (.inl rfl) _).put (p := ⟨wr.heap.size, 4, none⟩) (.inl rfl) _).put (p := ⟨wr.heap.size, 5, none⟩) (.inl rfl) _).put (p := ⟨wr.heap.size, 6, none⟩) (.inl rfl) _
      have hbw : wr.heap.size < W2.heap.size := (Array.getElem?_eq_some_iff.1 hbx).1
      have b5 : Below wr.heap.size wr W5 := o5.after (b2.trans (b4.mono b2.size)) (Nat.le_refl _) (fun q e => Nat.le_of_eq e.symm)
      have hF5 := hF.below b5
      have v5 : Vok W5 (fun q => q < wr.heap.size) y p0.v := v4.move o5 (fun q _ e => by show q < W2.heap.size; omega) (fun q _ e => Nat.lt_trans e hbw)
      have wv5 : WrV W5 y := wrv_only wv4 o5 (fun q hq e => by have := tch_ge n4 hq; omega)
      have ht5 : ∀ q, Tch y q → w.heap.size ≤ q ∧ (Value.slice Av es.length cv).ownBlock ≠ some q := fun q hq => by
        have h1 := tch_ge n4 hq
        have h2 := hb.size
        exact ⟨by omega, fun e => by have := (hF.own.lt q e).2; omega⟩
      have hR5 : RdEv W5 (fun q => q < w.heap.size ∨ (Value.slice Av es.length cv).ownBlock = some q) ev2 p0 := by
        rw [hev2]
        exact ⟨r1, r2, r3, v5.move (Only.refl (fun _ => False) W5) (fun q _ e => e.elim) (fun q _ e => e.elim (fun e => Nat.lt_of_lt_of_le e hb.size) (fun e => (hF.own.lt q e).2))⟩
      have FIN : ∀ v6 w6, w6.ownsRow w.heap.size 44 8 v6 (es.length + 1) (rows EV.cells es ++ ev2.cells) → Only (fun k => (Value.slice Av es.length cv).ownBlock = some k) (W5.alloc (.cells #[.int .i64 ev2.kind, .string ev2.key, .int .i64 ev2.x.kind, .string ev2.x.text, .slice ev2.x.LA ev2.x.ln ev2.x.lc, .slice ev2.x.FA ev2.x.fn ev2.x.fc, .slice ev2.x.KA ev2.x.kn ev2.x.kc, .int .i64 ev2.due] 44)) w6 →
          (v6.ownBlock = (Value.slice Av es.length cv).ownBlock ∨ v6.ownBlock = some (W5.alloc (.cells #[.int .i64 ev2.kind, .string ev2.key, .int .i64 ev2.x.kind, .string ev2.x.text, .slice ev2.x.LA ev2.x.ln ev2.x.lc, .slice ev2.x.FA ev2.x.fn ev2.x.fc, .slice ev2.x.KA ev2.x.kn ev2.x.kc, .int .i64 ev2.due] 44)).heap.size) → FrEv w6 w.heap.size v6 (es ++ [ev2]) (s.ch.take (k + 1)) ∧ Below w.heap.size w w6 := by
        intro v6 w6 h1 h2 h3
        have hnx := hF5.next hR5 (by rw [hev2]; exact wv5) (by rw [hev2]; exact ht5) h1 h2 h3
        rw [List.take_succ_eq_append_getElem (List.getElem?_eq_some_iff.1 hp0).1, (List.getElem?_eq_some_iff.1 hp0).2]
        exact ⟨hnx, h2.after ((hb.trans (b5.mono hb.size)).alloc (Nat.le_trans hb.size b5.size) _) (Nat.le_refl _) (fun q e => (hF.own.lt q e).1)⟩
      have HFN := Lib.hid FIN
      have HO := Lib.hid (And.intro (own_only hF5.own ((Only.refl (fun _ => False) W5).alloc (.cells #[.int .i64 ev2.kind, .string ev2.key, .int .i64 ev2.x.kind, .string ev2.x.text, .slice ev2.x.LA ev2.x.ln ev2.x.lc, .slice ev2.x.FA ev2.x.fn ev2.x.fc, .slice ev2.x.KA ev2.x.kn ev2.x.kc, .int .i64 ev2.due] 44)) (fun _ _ h => h)) (by rw [World.size_alloc]; have := hb.size; have := b5.size; omega : w.heap.size ≤ (W5.alloc (.cells #[.int .i64 ev2.kind, .string ev2.key, .int .i64 ev2.x.kind, .string ev2.x.text, .slice ev2.x.LA ev2.x.ln ev2.x.lc, .slice ev2.x.FA ev2.x.fn ev2.x.fc, .slice ev2.x.KA ev2.x.kn ev2.x.kc, .int .i64 ev2.due] 44)).heap.size))
      obtain ⟨z0, z1, z2, z3, z4, z5, z6, z7⟩ := ev_at hbx5
      clear FIN hR5 ht5 wv5 v5 hF5 b5 hbw o5 hbx5 hev2 hbx4 b4 n4 wv4 v4 hF hb hbx hp0 r1 r2 r3 b2 hW5 HR H4 u0 u1 u2 u3 u4 u5 u6 u7 uf
      go_wp2_with (at_builtin; refine wpList_app rfl (.tmp 21) (.tmp 23) elEv rfl w.heap.size (.slice Av es.length cv) es.length (rows EV.cells es) rfl HO.out.1 (some ⟨W5.heap.size, 0, none⟩) 1 1 ev2.cells rfl (rd_new W5 ev2.cells 44 8 rfl) (ev_one _) (by unfold maxLen; omega) (by omega) HO.out.2 ?_; intro v6 w6 h1 h2 h3)
      have HD := Lib.hid (HFN.out v6 w6 h1 h2 h3)
      clear h1 h2 h3
      go_roundw
      case rel => exact ⟨k + 1, _, by omega, by go_num, HD.out.1, HD.out.2⟩
      case measure => simp [intOf]; omega
    · obtain rfl : k = n := by omega
      obtain ⟨hr, hes, hn⟩ := H.out
      rw [List.take_of_length_le (by rw [← hes.1]; omega)] at hF
      have HE := Lib.hid (And.intro hF hb)
      clear hF hb hr hes hn
      go_wp2_with fail
      go_ret
      exact ⟨_, es, rfl, HE.out.1, HE.out.2⟩
end Go.Proofs.YtgmnnpbbiejbnaaGreat.SpP
set_option maxRecDepth 100000
set_option linter.unusedSimpArgs false
set_option linter.unusedVariables false
namespace Go.Proofs.YtgmnnpbbiejbnaaGreat.SpQ
open Go.RowKit Go.Proofs.YtgmnnpbbiejbnaaGreat.Mem Go.Proofs.YtgmnnpbbiejbnaaGreat.VaC Go.Proofs.YtgmnnpbbiejbnaaGreat.VaE Go.Proofs.YtgmnnpbbiejbnaaGreat.VaH Go.Proofs.YtgmnnpbbiejbnaaGreat.VaI Go.Proofs.YtgmnnpbbiejbnaaGreat.VaX Go.Proofs.YtgmnnpbbiejbnaaGreat.DuA Go.Proofs.YtgmnnpbbiejbnaaGreat.SpA Go.Proofs.YtgmnnpbbiejbnaaGreat.SpB Go.Proofs.YtgmnnpbbiejbnaaGreat.SpC Go.Proofs.YtgmnnpbbiejbnaaGreat.SpD Go.Proofs.YtgmnnpbbiejbnaaGreat.SpE Go.Proofs.YtgmnnpbbiejbnaaGreat.SpF Go.Proofs.YtgmnnpbbiejbnaaGreat.SpG Go.Proofs.YtgmnnpbbiejbnaaGreat.SpH Go.Proofs.YtgmnnpbbiejbnaaGreat.SpI Go.Proofs.YtgmnnpbbiejbnaaGreat.SpJ Go.Proofs.YtgmnnpbbiejbnaaGreat.SpK Go.Proofs.YtgmnnpbbiejbnaaGreat.SpL Go.Proofs.YtgmnnpbbiejbnaaGreat.SpM Go.Proofs.YtgmnnpbbiejbnaaGreat.SpN Go.Proofs.YtgmnnpbbiejbnaaGreat.SpO Go.Proofs.YtgmnnpbbiejbnaaGreat.SpP
open Go.Proofs.YtgmnnpbbiejbnaaGreat.DsH (Ix IxS okk keyed key_of)

theorem get_backK (l : List (ByteArray × PH)) (e : ByteArray × PH) (k : ByteArray) : getK (backK l e) k = if k = e.1 then (if e.2.ver = 0 then none else some e.2) else getK l k := by
  unfold backK
  by_cases h : e.2.ver = 0
  · rw [if_pos h, SpA.get_drop, if_pos h]
  · rw [if_neg h, get_set, if_neg h]
theorem ris_backK {l : List (ByteArray × PH)} (h : Ris lt l) (e : ByteArray × PH) : Ris lt (backK l e) := by
  unfold backK
  split
  · exact ris_drop h _
  · exact ris_set DuB.linS h _ _
theorem ris_back : ∀ (o l : List (ByteArray × PH)), Ris lt l → Ris lt (o.foldl backK l)
  | [], l, h => h
  | e :: r, l, h => ris_back r _ (ris_backK h e)
theorem get_back : ∀ (o l : List (ByteArray × PH)), (o.map (·.1)).Nodup → ∀ k, getK (o.foldl backK l) k = match getK o k with | none => getK l k | some p => if p.ver = 0 then none else some p
  | [], l, _, k => rfl
  | e :: r, l, hn, k => by
    rw [List.map_cons, List.nodup_cons] at hn
    rw [List.foldl_cons, get_back r _ hn.2, SpA.get_cons]
    by_cases h : e.1 = k
    · rw [if_pos h]
      have hr : getK r k = none := SpA.get_none.2 (h ▸ hn.1)
      rw [hr]
      simp only
      rw [get_backK, if_pos h.symm]
    · rw [if_neg h]
      cases hr : getK r k with
      | none => simp only; rw [get_backK, if_neg (fun e' => h e'.symm)]
      | some p => rfl
theorem _root_.Go.Proofs.YtgmnnpbbiejbnaaGreat.SpD.Sp.only {w w' : World} {B : Nat} {F : Lay} {N : Nat} {s : PS} {S1 : Nat → Prop} (h : Sp w B F N s) (ho : Only S1 w w') (h1 : ∀ k, Ft F k → ¬ S1 k) (h2 : ∀ k, k < w.heap.size → S1 k → Fx F k) : Sp w' B F N s :=
  ⟨ho.heap h.hp (h1 _ (.inl rfl)), h.sq.only ho (fun k hk _ => h1 k hk) h2, h.on, h.inv⟩
theorem tel_moves {w w' : World} {F F' : Lay} {L : VL} {l : List (ByteArray × PH)} (h : Tel w (Fx F) L l) (hM : Moves F F' w w') : Tel w' (Fx F') L l :=
  h.move hM.only (fun k _ e => .inl e) (fun k hk e => e.elim (fun e => (hM.sub k e).elim .inl (fun hge => absurd hk (Nat.not_lt.2 hge))) (fun e => by rw [hM.x] at e; exact .inr e))
theorem lay_at (B : Nat) (F : Lay) (N : Nat) (s : PS) (k : ByteArray) (x : VV) (p : PH) (w : World) (g : Nat) (hg : F.g = g) (h : Sp w B F N s) (hk : k.size ≤ 100000000) (hN : N ≤ 1000000000) (hB : B ≤ w.heap.size) (hx : Vok w (Fx F) x p.v) (hp : 0 ≤ p.due ∧ p.due ≤ 9007199254740992) (hI : Inv { s with l := setK lt s.l k p }) {d : Int} {m : Nat} (hd : p.due = d) (hm : p.ver = m) :
    Calls Tryz.prog 45 #[.pointer (some ⟨g, 0, none⟩), .string k, hval x d m] w fun e w' => e = .returned (.tuple #[]) ∧ ∃ v', Sp w' B { F with vd := v' } (N + 1) { s with l := setK lt s.l k p } ∧ Moves F { F with vd := v' } w w' ∧ Only (fun q => q = F.m ∨ IxS F.gd F.md F.vd q) w w' := by
  subst hg hd hm
  exact lay_fine B F N s k x p w h hk hN hB hx hp hI
end Go.Proofs.YtgmnnpbbiejbnaaGreat.SpQ
