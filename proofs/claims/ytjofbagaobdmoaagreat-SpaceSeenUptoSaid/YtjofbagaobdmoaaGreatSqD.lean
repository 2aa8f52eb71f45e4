/-
  Entries. Conditions: as stated.
  Changes. Conditions: as stated.
  Back: all is as it was at the mark. Conditions: as stated.
-/
import Derived.Test.YtjofbagaobdmoaaGreatSqC
set_option maxRecDepth 100000
set_option linter.unusedSimpArgs false
set_option linter.unusedVariables false
namespace Go.Proofs.YtjofbagaobdmoaaGreat.SpO
open Go.RowKit Go.Proofs.YtjofbagaobdmoaaGreat.Mem Go.Proofs.YtjofbagaobdmoaaGreat.VaC Go.Proofs.YtjofbagaobdmoaaGreat.VaE Go.Proofs.YtjofbagaobdmoaaGreat.VaH Go.Proofs.YtjofbagaobdmoaaGreat.VaI Go.Proofs.YtjofbagaobdmoaaGreat.VaX Go.Proofs.YtjofbagaobdmoaaGreat.DuA Go.Proofs.YtjofbagaobdmoaaGreat.SpA Go.Proofs.YtjofbagaobdmoaaGreat.SpB Go.Proofs.YtjofbagaobdmoaaGreat.SpC Go.Proofs.YtjofbagaobdmoaaGreat.SpD Go.Proofs.YtjofbagaobdmoaaGreat.SpE Go.Proofs.YtjofbagaobdmoaaGreat.SpF Go.Proofs.YtjofbagaobdmoaaGreat.SpG Go.Proofs.YtjofbagaobdmoaaGreat.SpH Go.Proofs.YtjofbagaobdmoaaGreat.SpI Go.Proofs.YtjofbagaobdmoaaGreat.SpJ Go.Proofs.YtjofbagaobdmoaaGreat.SpK Go.Proofs.YtjofbagaobdmoaaGreat.SpL Go.Proofs.YtjofbagaobdmoaaGreat.SpM Go.Proofs.YtjofbagaobdmoaaGreat.SpN
open Go.Proofs.YtjofbagaobdmoaaGreat.DsH (Ix IxS okk keyed key_of)
open Go.Proofs.YtjofbagaobdmoaaGreat.DsK (OwnKs RdKs keysV keysV_one elKs)
open Go.Proofs.YtjofbagaobdmoaaGreat.VdA (WrV Tch tch_lt)
open Go.Proofs.YtjofbagaobdmoaaGreat.DuM (step_enter)

/-- An entry as it lies. -/
structure EN where
  key : ByteArray
  x : VV
  due : Int
  ver : Nat
def EN.cells (e : EN) : List Value := [.string e.key, .int .i64 e.x.kind, .string e.x.text, .slice e.x.LA e.x.ln e.x.lc, .slice e.x.FA e.x.fn e.x.fc, .slice e.x.KA e.x.kn e.x.kc, .int .i64 e.due, .int .u64 e.ver]
theorem en_len (e : EN) : e.cells.length = 8 := rfl
theorem en_one (e : EN) : ∀ u ∈ e.cells, u.oneCell' = true := by
  intro u hu
  simp only [EN.cells, List.mem_cons, List.not_mem_nil, or_false] at hu
  rcases hu with rfl | rfl | rfl | rfl | rfl | rfl | rfl | rfl <;> rfl
theorem elEn : El Tryz.prog 45 63 (.agg #[.string ⟨#[]⟩, .int .i64 0, .string ⟨#[]⟩, .slice none 0 0, .slice none 0 0, .slice none 0 0, .int .i64 0, .int .u64 0]) 8 128 := by
  obtain ⟨i, h1, h2, h3, h4⟩ := info_parts (show (Tryz.prog.info? 63).map (fun i => (i.zero, i.size, i.bytes)) = some (some (.agg #[.string ⟨#[]⟩, .int .i64 0, .string ⟨#[]⟩, .slice none 0 0, .slice none 0 0, .slice none 0 0, .int .i64 0, .int .u64 0]), 8, 128) by kernel_rfl)
  exact ⟨Tryz.underlying45, ⟨i, h1, h2, h3, h4⟩, rfl, by decide⟩
abbrev OwnEn (w : World) (B : Nat) (v : Value) (es : List EN) : Prop := w.ownsRow B 63 8 v es.length (rows EN.cells es)
def RdEn (w : World) (S : Nat → Prop) (e : EN) (p : ByteArray × PH) : Prop := e.key = p.1 ∧ e.due = p.2.due ∧ e.ver = p.2.ver ∧ Vok w S e.x p.2.v
def ENs (w : World) (S : Nat → Prop) (es : List EN) (l : List (ByteArray × PH)) : Prop := es.length = l.length ∧ ∀ (i : Nat) (e : EN) (p : ByteArray × PH), es[i]? = some e → l[i]? = some p → RdEn w S e p
theorem ENs.move {w w' : World} {S S1 S' : Nat → Prop} {es : List EN} {l : List (ByteArray × PH)} (h : ENs w S es l) (ho : Only S1 w w') (h1 : ∀ k, k < w.heap.size → S1 k → S k) (h2 : ∀ k, k < w.heap.size → S' k → S k) : ENs w' S' es l :=
  ⟨h.1, fun i e p he hp => let r := h.2 i e p he hp; ⟨r.1, r.2.1, r.2.2.1, r.2.2.2.move ho h1 h2⟩⟩
theorem ENs.push {w : World} {S : Nat → Prop} {es : List EN} {l : List (ByteArray × PH)} (h : ENs w S es l) {e : EN} {p : ByteArray × PH} (he : RdEn w S e p) : ENs w S (es ++ [e]) (l ++ [p]) := by
  refine ⟨by simp [h.1], fun i a b ha hb => ?_⟩
  rcases Nat.lt_or_ge i es.length with hi | hi
  · rw [List.getElem?_append_left hi] at ha
    rw [List.getElem?_append_left (h.1 ▸ hi)] at hb
    exact h.2 i a b ha hb
  · have h2 := h.1
    rw [List.getElem?_append_right hi] at ha
    rw [List.getElem?_append_right (by omega)] at hb
    have : i - es.length = 0 := by
      rcases Nat.eq_zero_or_pos (i - es.length) with h0 | h0
      · exact h0
      · simp [List.getElem?_singleton] at ha; omega
    rw [this] at ha
    rw [← h2, this] at hb
    simp at ha hb
    subst ha hb
    exact he
/-- Entries in fresh memory, their values' too. -/
structure FrEn (w : World) (B : Nat) (v : Value) (es : List EN) (l : List (ByteArray × PH)) : Prop where
  own : OwnEn w B v es
  rel : ENs w (fun q => q < B ∨ v.ownBlock = some q) es l
  wr : ∀ e ∈ es, WrV w e.x ∧ ∀ k, Tch e.x k → B ≤ k ∧ v.ownBlock ≠ some k
theorem wrv_only {w w' : World} {x : VV} {S : Nat → Prop} (h : WrV w x) (ho : Only S w w') (hn : ∀ k, Tch x k → ¬ S k) : WrV w' x :=
  ⟨h.l.only ho (fun ad e => hn _ (.inl ⟨ad, e, rfl⟩)), h.f.only ho (fun ad e => hn _ (.inr (.inl ⟨ad, e, rfl⟩))), h.k.only ho (fun ad e => hn _ (.inr (.inr ⟨ad, e, rfl⟩)))⟩
theorem FrEn.nil (w : World) (B : Nat) : FrEn w B (.slice none 0 0) [] [] := ⟨World.ownsRow_nil .., ⟨rfl, fun i e p he => by simp at he⟩, fun e he => by cases he⟩
theorem FrEn.below {w w' : World} {B : Nat} {v : Value} {es : List EN} {l : List (ByteArray × PH)} (h : FrEn w B v es l) (hb : Below w.heap.size w w') : FrEn w' B v es l :=
  ⟨own_only h.own (Only.of_below hb) (fun k hk e => by have := (h.own.lt k hk).2; omega), h.rel.move (Only.of_below hb) (fun k hk e => by omega) (fun k _ e => e), fun e he => ⟨(h.wr e he).1.below hb, (h.wr e he).2⟩⟩
theorem FrEn.less {w : World} {B B' : Nat} {v : Value} {es : List EN} {l : List (ByteArray × PH)} (h : FrEn w B v es l) (hB : B' ≤ B) : FrEn w B' v es l :=
  ⟨own_less h.own hB, h.rel.move (Only.refl (fun _ => False) w) (fun k _ e => e.elim) (fun k _ e => e.imp (fun e => Nat.lt_of_lt_of_le e hB) id), fun e he => ⟨(h.wr e he).1, fun k hk => ⟨Nat.le_trans hB ((h.wr e he).2 k hk).1, ((h.wr e he).2 k hk).2⟩⟩⟩
theorem FrEn.next {w4 w6 : World} {o : Obj} {B : Nat} {v v6 : Value} {es : List EN} {l : List (ByteArray × PH)} {e : EN} {p : ByteArray × PH} (h : FrEn w4 B v es l) (he : RdEn w4 (fun q => q < B ∨ v.ownBlock = some q) e p) (hw : WrV w4 e.x) (ht : ∀ k, Tch e.x k → B ≤ k ∧ v.ownBlock ≠ some k)
    (h6 : w6.ownsRow B 63 8 v6 (es.length + 1) (rows EN.cells es ++ e.cells)) (f6 : Only (fun k => v.ownBlock = some k) (w4.alloc o) w6) (n6 : v6.ownBlock = v.ownBlock ∨ v6.ownBlock = some (w4.alloc o).heap.size) : FrEn w6 B v6 (es ++ [e]) (l ++ [p]) := by
  have hsz : (w4.alloc o).heap.size = w4.heap.size + 1 := World.size_alloc ..
  have O : Only (fun k => v.ownBlock = some k) w4 w6 := ((Only.refl (fun k => v.ownBlock = some k) w4).alloc o).trans f6 (fun k e => .inl e)
  have hv6 : ∀ k, v6.ownBlock = some k → v.ownBlock = some k ∨ w4.heap.size ≤ k := by
    intro k hk
    rcases n6 with n6 | n6
    · exact .inl (n6 ▸ hk)
    · rw [n6] at hk; injection hk with hk; exact .inr (by omega)
  have hwr : ∀ x : VV, WrV w4 x → (∀ k, Tch x k → B ≤ k ∧ v.ownBlock ≠ some k) → WrV w6 x ∧ ∀ k, Tch x k → B ≤ k ∧ v6.ownBlock ≠ some k := fun x h1 h2 =>
    ⟨wrv_only h1 O (fun k hk => (h2 k hk).2), fun k hk => ⟨(h2 k hk).1, fun e => (hv6 k e).elim (h2 k hk).2 (fun hge => by have := tch_lt h1 hk; omega)⟩⟩
  refine ⟨?_, (h.rel.push he).move O (fun k _ e => .inr e) (fun k hk e => e.imp id (fun e => (hv6 k e).elim id (fun hge => absurd hk (by omega)))), fun e' he' => ?_⟩
  · unfold OwnEn
    rw [rows_app, List.length_append]
    have e1 : rows EN.cells [e] = e.cells := by simp [rows]
    rw [e1]
    exact h6
  · rcases List.mem_append.1 he' with he' | he'
    · exact hwr _ (h.wr e' he').1 (h.wr e' he').2
    · rw [List.mem_singleton] at he'; subst he'; exact hwr _ hw ht
set_option maxHeartbeats 4000000 in
theorem entries_calls (B : Nat) (F : Lay) (N : Nat) (s : PS) (w : World) (h : Sp w B F N s) (hX : ∀ k, F.X k → k < w.heap.size) (hN : N ≤ 400000000) :
    Calls Tryz.prog 24 #[.pointer (some ⟨F.g, 0, none⟩)] w fun e w' => ∃ v es, e = .returned v ∧ FrEn w' w.heap.size v es s.l ∧ Below w.heap.size w w' := by
  have hnm := names_calls B F N s w h (by omega)
  obtain ⟨n, hn⟩ : ∃ n, s.l.length = n := ⟨_, rfl⟩
  have hKn : (keysL s.l).length = n := by unfold keysL; rw [List.length_map]; exact hn
  have hnN : n ≤ N := by
    obtain ⟨L, hm, ht⟩ := h.sq.mp
    have := hm.len
    rw [ht.len hm.ris h.inv.ris] at this
    omega
  have H := Lib.hid (And.intro h (And.intro hn hKn))
  clear h hn hKn
  go_enter Tryz.func24, Tryz.ntmps24
  go_wp2_with fail
  refine hnm.mono ?_
  rintro e w1 ⟨v, rfl, ho, b1⟩
  obtain ⟨A, c, rfl⟩ := own_form ho
  have hr : RdKs w1 A (keysL s.l).length c (keysL s.l) := Rd.of_own ho
  have h1 := H.out.1.below b1
  rw [H.out.2.2] at hr ⊢
  have hcap := hr.cap
  have hbig := hr.big
  unfold maxLen at hbig
  have H1 := Lib.hid (And.intro hr (And.intro h1 b1))
  clear ho hr h1 b1
  go_wp2_with fail
  go_loopw [3, 12] (fun v i wr => ∃ (k : Nat) (es : List EN), k ≤ n ∧ i = .int .i64 k ∧ FrEn wr w1.heap.size v es (s.l.take k) ∧ Below w1.heap.size w1 wr) (fun _ i _ => n - (intOf i).toNat)
  case atStart => exact ⟨0, [], Nat.zero_le _, rfl, FrEn.nil _ _, Below.refl _ _⟩
  case round =>
    obtain ⟨k, es, hk, rfl, hF, hb⟩ := hrel
    obtain ⟨Av, cv, rfl⟩ := own_form hF.own
    by_cases hlt : k < n
    · obtain ⟨p, hp⟩ : ∃ p, s.l[k]? = some p := ⟨_, List.getElem?_eq_getElem (by rw [H.out.2.1]; exact hlt)⟩
      obtain ⟨hr, h1, b1⟩ := H1.out
      obtain ⟨x, q⟩ := p
      have hxk : (keysL s.l)[k]? = some x := by unfold keysL; rw [List.getElem?_map, hp]; rfl
      have hgx : getK s.l x = some q := (mem_getR DuB.linS h1.inv.ris).2 (List.mem_of_getElem? hp)
      obtain ⟨pa, rfl, cx⟩ := ks_get hr hxk
      have cx' := below_c cx hb
      have hxs := h1.inv.key _ (List.mem_of_getElem? hp)
      have hS := h1.below hb
      obtain ⟨c0, -, -, -, -, -, -⟩ := hS.cells
      obtain ⟨y0, hy0, -, hl1⟩ := look_s hS hxs
      rw [hgx] at hy0 hl1
      simp only [Option.getD_some] at hy0 hl1
      obtain ⟨d, hd⟩ : ∃ d, q.due = d := ⟨_, rfl⟩
      obtain ⟨m, hm⟩ : ∃ m, q.ver = m := ⟨_, rfl⟩
      rw [hd, hm] at hl1
      obtain ⟨W2, hW2⟩ : ∃ W2, wr.alloc (.cells (hcells y0 d m) 81) = W2 := ⟨_, rfl⟩
      have b2 : Below wr.heap.size wr W2.drew := by rw [← hW2]; exact ((Below.refl _ _).alloc (Nat.le_refl _) _).drew
      have hbx : W2.drew.heap[wr.heap.size]? = some (.cells (hcells y0 d m) 81 (0, 0)) := by rw [← hW2]; exact heap_alloc_new wr _
      have hcp := copy_vok (S := fun q => q < W2.drew.heap.size) (hy0.below b2) (fun q e => e)
      obtain ⟨z0, z1, z2, z3, z4, z5, z6⟩ := hcells_at hbx
      have hkn : ((k : Nat) : Int) < (n : Int) := by omega
      have hen : es.length + 1 ≤ 400000001 := by have := hF.rel.1; rw [List.length_take] at this; omega
      have HR := Lib.hid (And.intro (hF.below b2) (And.intro (hb.trans (b2.mono hb.size)) (And.intro hbx (And.intro hp (And.intro hd hm)))))
      have HW := Lib.hid hW2
      unfold VV.val at hcp
      clear hF hb hr h1 b1 hxk hgx cx hxs hS hy0 hd hm b2 hbx hW2 hp
      go_wp2_with fail
      have HW2 := HW.out
      unfold hcells at HW2
      rw [HW2]
      clear HW2
      have FIN : ∀ (y : VV) (w4 : World), Vok w4 (fun q => q < W2.drew.heap.size) y q.v → WrV w4 y → (VaT.Nw W2.drew.heap.size y.LA ∧ VaT.Nw W2.drew.heap.size y.FA ∧ VaT.Nw W2.drew.heap.size y.KA) → Below W2.drew.heap.size W2.drew w4 →
          OwnEn (w4.alloc (.cells #[.string x, .int .i64 y.kind, .string y.text, .slice y.LA y.ln y.lc, .slice y.FA y.fn y.fc, .slice y.KA y.kn y.kc, .int .i64 d, .int .u64 m] 63)) w1.heap.size (.slice Av es.length cv) es ∧ w1.heap.size ≤ (w4.alloc (.cells #[.string x, .int .i64 y.kind, .string y.text, .slice y.LA y.ln y.lc, .slice y.FA y.fn y.fc, .slice y.KA y.kn y.kc, .int .i64 d, .int .u64 m] 63)).heap.size ∧
            w4.cell? ⟨wr.heap.size, 5, none⟩ = some (.int .i64 d) ∧ w4.cell? ⟨wr.heap.size, 6, none⟩ = some (.int .u64 m) ∧
            ∀ v6 w6, w6.ownsRow w1.heap.size 63 8 v6 (es.length + 1) (rows EN.cells es ++ EN.cells ⟨x, y, d, m⟩) → Only (fun k => (Value.slice Av es.length cv).ownBlock = some k) (w4.alloc (.cells #[.string x, .int .i64 y.kind, .string y.text, .slice y.LA y.ln y.lc, .slice y.FA y.fn y.fc, .slice y.KA y.kn y.kc, .int .i64 d, .int .u64 m] 63)) w6 →
              (v6.ownBlock = (Value.slice Av es.length cv).ownBlock ∨ v6.ownBlock = some (w4.alloc (.cells #[.string x, .int .i64 y.kind, .string y.text, .slice y.LA y.ln y.lc, .slice y.FA y.fn y.fc, .slice y.KA y.kn y.kc, .int .i64 d, .int .u64 m] 63)).heap.size) →
              FrEn w6 w1.heap.size v6 (es ++ [⟨x, y, d, m⟩]) (s.l.take (k + 1)) ∧ Below w1.heap.size w1 w6 := by
        intro y w4 v4 wv4 n4 b4
        obtain ⟨hF, hb, hbx, hp, hd, hm⟩ := HR.out
        have hF4 := hF.below b4
        have hbx4 := (Only.of_below b4).heap hbx (by have := (Array.getElem?_eq_some_iff.1 hbx).1; omega)
        have hs4 : w1.heap.size ≤ w4.heap.size := Nat.le_trans hb.size b4.size
        have hnv : ∀ q, (Value.slice Av es.length cv).ownBlock = some q → q < W2.drew.heap.size := fun q e => (hF.own.lt q e).2
        have ht : ∀ q, Tch y q → w1.heap.size ≤ q ∧ (Value.slice Av es.length cv).ownBlock ≠ some q := by
          intro q hq
          have hge : W2.drew.heap.size ≤ q := by
            rcases hq with ⟨a, e, rfl⟩ | ⟨a, e, rfl⟩ | ⟨a, e, rfl⟩
            · exact n4.1 a e
            · exact n4.2.1 a e
            · exact n4.2.2 a e
          exact ⟨Nat.le_trans hb.size hge, fun e => by have := hnv q e; omega⟩
        refine ⟨own_only hF4.own ((Only.refl (fun _ => False) w4).alloc _) (fun _ _ h => h), by rw [World.size_alloc]; omega, by simp [World.cell?, hbx4, hcells], by simp [World.cell?, hbx4, hcells], fun v6 w6 h1 h2 h3 => ?_⟩
        have hR : RdEn w4 (fun q => q < w1.heap.size ∨ (Value.slice Av es.length cv).ownBlock = some q) ⟨x, y, d, m⟩ (x, q) :=
          ⟨rfl, hd.symm, hm.symm, v4.move (Only.refl (fun _ => False) w4) (fun k _ e => e.elim) (fun k _ e => e.elim (fun e => Nat.lt_of_lt_of_le e hb.size) (fun e => hnv k e))⟩
        have hnx := hF4.next hR wv4 ht h1 h2 h3
        rw [List.take_succ_eq_append_getElem (List.getElem?_eq_some_iff.1 hp).1, (List.getElem?_eq_some_iff.1 hp).2]
        refine ⟨hnx, ?_⟩
        have hb4 : Below w1.heap.size w1 (w4.alloc (.cells #[.string x, .int .i64 y.kind, .string y.text, .slice y.LA y.ln y.lc, .slice y.FA y.fn y.fc, .slice y.KA y.kn y.kc, .int .i64 d, .int .u64 m] 63)) := (hb.trans (b4.mono hb.size)).alloc hs4 _
        exact h2.after hb4 (Nat.le_refl _) (fun k e => (hF.own.lt k e).1)
      have HFN := Lib.hid FIN
      clear FIN
      go_upto_region 8 with fail
      go_region_law (first
        | (refine step_enter rfl 47 #[.agg #[.int .i64 y0.kind, .string y0.text, .slice y0.LA y0.ln y0.lc, .slice y0.FA y0.fn y0.fc, .slice y0.KA y0.kn y0.kc]] (by simp [go_sem, execOp, resolve, invoke]) ?_; refine hcp.mono ?_; rintro e w4 ⟨y, rfl, v4, wv4, n4, b4⟩; obtain ⟨f1, f2, f3, f4, f5⟩ := HFN.out y w4 v4 wv4 n4 b4; have Hf1 := Lib.hid (And.intro f1 f2); have Hf5 := Lib.hid f5; clear f1 f2 f5 v4 wv4 n4 b4; refine ⟨_, rfl, ?_⟩)
        | (refine step_of_list rfl ?_; refine wpList_app rfl (.tmp 22) (.tmp 32) elEn rfl w1.heap.size (.slice Av es.length cv) es.length (rows EN.cells es) rfl Hf1.out.1 (some ⟨w4.heap.size, 0, none⟩) 1 1 (EN.cells ⟨x, y, d, m⟩) rfl (rd_new w4 (EN.cells ⟨x, y, d, m⟩) 63 8 rfl) (en_one _) (by unfold maxLen; omega) (by omega) Hf1.out.2 ?_; intro v6 w6 h1 h2 h3; refine ⟨rfl, ?_⟩))
      all_goals (
        have HD := Lib.hid (Hf5.out v6 w6 h1 h2 h3)
        clear h1 h2 h3 Hf1 Hf5 f3 f4
        go_wp2_with fail
        go_roundw
        case rel => exact ⟨k + 1, _, by omega, by go_num, HD.out.1, HD.out.2⟩
        case measure => simp [intOf]; omega)
    · obtain rfl : k = n := by omega
      obtain ⟨hr, h1, b1⟩ := H1.out
      rw [List.take_of_length_le (by rw [H.out.2.1]; exact Nat.le_refl _)] at hF
      have HE := Lib.hid (And.intro (hF.less b1.size) (b1.trans (hb.mono b1.size)))
      clear hF hb hr h1 b1
      go_wp2_with fail
      go_ret
      exact ⟨_, es, rfl, HE.out.1, HE.out.2⟩
end Go.Proofs.YtjofbagaobdmoaaGreat.SpO
set_option maxRecDepth 100000
set_option linter.unusedSimpArgs false
set_option linter.unusedVariables false
namespace Go.Proofs.YtjofbagaobdmoaaGreat.SpP
open Go.RowKit Go.Proofs.YtjofbagaobdmoaaGreat.Mem Go.Proofs.YtjofbagaobdmoaaGreat.VaC Go.Proofs.YtjofbagaobdmoaaGreat.VaE Go.Proofs.YtjofbagaobdmoaaGreat.VaH Go.Proofs.YtjofbagaobdmoaaGreat.VaI Go.Proofs.YtjofbagaobdmoaaGreat.VaX Go.Proofs.YtjofbagaobdmoaaGreat.DuA Go.Proofs.YtjofbagaobdmoaaGreat.SpA Go.Proofs.YtjofbagaobdmoaaGreat.SpB Go.Proofs.YtjofbagaobdmoaaGreat.SpC Go.Proofs.YtjofbagaobdmoaaGreat.SpD Go.Proofs.YtjofbagaobdmoaaGreat.SpE Go.Proofs.YtjofbagaobdmoaaGreat.SpF Go.Proofs.YtjofbagaobdmoaaGreat.SpG Go.Proofs.YtjofbagaobdmoaaGreat.SpH Go.Proofs.YtjofbagaobdmoaaGreat.SpI Go.Proofs.YtjofbagaobdmoaaGreat.SpJ Go.Proofs.YtjofbagaobdmoaaGreat.SpK Go.Proofs.YtjofbagaobdmoaaGreat.SpL Go.Proofs.YtjofbagaobdmoaaGreat.SpM Go.Proofs.YtjofbagaobdmoaaGreat.SpN Go.Proofs.YtjofbagaobdmoaaGreat.SpO
open Go.Proofs.YtjofbagaobdmoaaGreat.DsH (Ix IxS okk keyed key_of)
open Go.Proofs.YtjofbagaobdmoaaGreat.DsK (OwnKs RdKs keysV keysV_one elKs)
open Go.Proofs.YtjofbagaobdmoaaGreat.VdA (WrV Tch tch_lt)

/-- Effects in fresh memory, their values' too. -/
structure FrEv (w : World) (B : Nat) (v : Value) (es : List EV) (l : List PE) : Prop where
  own : OwnEv w B v es
  rel : EVs w (fun q => q < B ∨ v.ownBlock = some q) es l
  wr : ∀ e ∈ es, WrV w e.x ∧ ∀ k, Tch e.x k → B ≤ k ∧ v.ownBlock ≠ some k
theorem FrEv.nil (w : World) (B : Nat) : FrEv w B (.slice none 0 0) [] [] := ⟨World.ownsRow_nil .., ⟨rfl, fun i e p he => by simp at he⟩, fun e he => by cases he⟩
theorem FrEv.below {w w' : World} {B : Nat} {v : Value} {es : List EV} {l : List PE} (h : FrEv w B v es l) (hb : Below w.heap.size w w') : FrEv w' B v es l :=
  ⟨own_only h.own (Only.of_below hb) (fun k hk e => by have := (h.own.lt k hk).2; omega), h.rel.move (Only.of_below hb) (fun k hk e => by omega) (fun k _ e => e), fun e he => ⟨(h.wr e he).1.below hb, (h.wr e he).2⟩⟩
theorem FrEv.less {w : World} {B B' : Nat} {v : Value} {es : List EV} {l : List PE} (h : FrEv w B v es l) (hB : B' ≤ B) : FrEv w B' v es l :=
  ⟨own_less h.own hB, h.rel.move (Only.refl (fun _ => False) w) (fun k _ e => e.elim) (fun k _ e => e.imp (fun e => Nat.lt_of_lt_of_le e hB) id), fun e he => ⟨(h.wr e he).1, fun k hk => ⟨Nat.le_trans hB ((h.wr e he).2 k hk).1, ((h.wr e he).2 k hk).2⟩⟩⟩
theorem FrEv.next {w4 w6 : World} {o : Obj} {B : Nat} {v v6 : Value} {es : List EV} {l : List PE} {e : EV} {p : PE} (h : FrEv w4 B v es l) (he : RdEv w4 (fun q => q < B ∨ v.ownBlock = some q) e p) (hw : WrV w4 e.x) (ht : ∀ k, Tch e.x k → B ≤ k ∧ v.ownBlock ≠ some k)
    (h6 : w6.ownsRow B 78 8 v6 (es.length + 1) (rows EV.cells es ++ e.cells)) (f6 : Only (fun k => v.ownBlock = some k) (w4.alloc o) w6) (n6 : v6.ownBlock = v.ownBlock ∨ v6.ownBlock = some (w4.alloc o).heap.size) : FrEv w6 B v6 (es ++ [e]) (l ++ [p]) := by
  have hsz : (w4.alloc o).heap.size = w4.heap.size + 1 := World.size_alloc ..
  have O : Only (fun k => v.ownBlock = some k) w4 w6 := ((Only.refl (fun k => v.ownBlock = some k) w4).alloc o).trans f6 (fun k e => .inl e)
  have hv6 : ∀ k, v6.ownBlock = some k → v.ownBlock = some k ∨ w4.heap.size ≤ k := by
    intro k hk
    rcases n6 with n6 | n6
    · exact .inl (n6 ▸ hk)
    · rw [n6] at hk; injection hk with hk; exact .inr (by omega)
  have hwr : ∀ x : VV, WrV w4 x → (∀ k, Tch x k → B ≤ k ∧ v.ownBlock ≠ some k) → WrV w6 x ∧ ∀ k, Tch x k → B ≤ k ∧ v6.ownBlock ≠ some k := fun x h1 h2 =>
    ⟨wrv_only h1 O (fun k hk => (h2 k hk).2), fun k hk => ⟨(h2 k hk).1, fun e => (hv6 k e).elim (h2 k hk).2 (fun hge => by have := tch_lt h1 hk; omega)⟩⟩
  refine ⟨ev_push h6, (h.rel.push he).move O (fun k _ e => .inr e) (fun k hk e => e.imp id (fun e => (hv6 k e).elim id (fun hge => absurd hk (by omega)))), fun e' he' => ?_⟩
  rcases List.mem_append.1 he' with he' | he'
  · exact hwr _ (h.wr e' he').1 (h.wr e' he').2
  · rw [List.mem_singleton] at he'; subst he'; exact hwr _ hw ht
theorem tch_ge {x : VV} {B : Nat} (hn : VaT.Nw B x.LA ∧ VaT.Nw B x.FA ∧ VaT.Nw B x.KA) {q : Nat} (hq : Tch x q) : B ≤ q := by
  rcases hq with ⟨a, e, rfl⟩ | ⟨a, e, rfl⟩ | ⟨a, e, rfl⟩
  · exact hn.1 a e
  · exact hn.2.1 a e
  · exact hn.2.2 a e
set_option maxHeartbeats 4000000 in
theorem changes_calls (B : Nat) (F : Lay) (N : Nat) (s : PS) (w : World) (h : Sp w B F N s) (hch : s.ch.length ≤ 1000000000) :
    Calls Tryz.prog 26 #[.pointer (some ⟨F.g, 0, none⟩)] w fun e w' => ∃ v es, e = .returned v ∧ FrEv w' w.heap.size v es s.ch ∧ Below w.heap.size w w' := by
  obtain ⟨-, -, -, -, -, -, c6⟩ := h.cells
  obtain ⟨es0, oes, hes⟩ := h.sq.ch
  obtain ⟨Ac, cc, hform⟩ := own_form oes
  have hr : Rd w 8 Ac es0.length cc (rows EV.cells es0) := Rd.of_own (by unfold OwnEv at oes; rw [hform] at oes; exact oes)
  rw [hform] at c6
  obtain ⟨n, hn⟩ : ∃ n, es0.length = n := ⟨_, rfl⟩
  have hnl : n ≤ 1000000000 := by have := hes.1; omega
  rw [hn] at c6 hr
  have hcap := hr.cap
  have hbig := hr.big
  unfold maxLen at hbig
  have H := Lib.hid (And.intro hr (And.intro hes hn))
  clear h oes hes hform hr hn
  go_enter Tryz.func26, Tryz.ntmps26
  go_wp2_with fail
  go_loopw [3, 13] (fun v i wr => ∃ (k : Nat) (es : List EV), k ≤ n ∧ i = .int .i64 k ∧ FrEv wr w.heap.size v es (s.ch.take k) ∧ Below w.heap.size w wr) (fun _ i _ => n - (intOf i).toNat)
  case atStart => exact ⟨0, [], Nat.zero_le _, rfl, FrEv.nil _ _, Below.refl _ _⟩
  case round =>
    obtain ⟨k, es, hk, rfl, hF, hb⟩ := hrel
    obtain ⟨Av, cv, rfl⟩ := own_form hF.own
    by_cases hlt : k < n
    · obtain ⟨hr, hes, hn⟩ := H.out
      obtain ⟨e0, he0⟩ : ∃ e0, es0[k]? = some e0 := ⟨_, List.getElem?_eq_getElem (by omega)⟩
      obtain ⟨p0, hp0⟩ : ∃ p0, s.ch[k]? = some p0 := ⟨_, List.getElem?_eq_getElem (by rw [← hes.1]; omega)⟩
      obtain ⟨r1, r2, r3, r4⟩ := hes.2 k e0 p0 he0 hp0
      obtain ⟨pa, rfl, cx⟩ := rd_rows_get ev_len hr he0 (by decide)
      have g0 : wr.cell? (pa.add (k * 8)) = some (.int .i64 e0.kind) := below_c (cx 0 _ rfl) hb
      have g1 : wr.cell? ⟨(pa.add (k * 8)).block, (pa.add (k * 8)).off + 1, none⟩ = some (.string e0.key) := below_c (cx 1 _ rfl) hb
      have g2 : wr.cell? ⟨(pa.add (k * 8)).block, (pa.add (k * 8)).off + 2, none⟩ = some (.int .i64 e0.x.kind) := below_c (cx 2 _ rfl) hb
      have g3 : wr.cell? ⟨(pa.add (k * 8)).block, (pa.add (k * 8)).off + 3, none⟩ = some (.string e0.x.text) := below_c (cx 3 _ rfl) hb
      have g4 : wr.cell? ⟨(pa.add (k * 8)).block, (pa.add (k * 8)).off + 4, none⟩ = some (.slice e0.x.LA e0.x.ln e0.x.lc) := below_c (cx 4 _ rfl) hb
      have g5 : wr.cell? ⟨(pa.add (k * 8)).block, (pa.add (k * 8)).off + 5, none⟩ = some (.slice e0.x.FA e0.x.fn e0.x.fc) := below_c (cx 5 _ rfl) hb
      have g6 : wr.cell? ⟨(pa.add (k * 8)).block, (pa.add (k * 8)).off + 6, none⟩ = some (.slice e0.x.KA e0.x.kn e0.x.kc) := below_c (cx 6 _ rfl) hb
      have g7 : wr.cell? ⟨(pa.add (k * 8)).block, (pa.add (k * 8)).off + 7, none⟩ = some (.int .i64 e0.due) := below_c (cx 7 _ rfl) hb
      obtain ⟨W2, hW2⟩ : ∃ W2, wr.alloc (.cells e0.cells.toArray 78) = W2 := ⟨_, rfl⟩
      have b2 : Below wr.heap.size wr W2 := by rw [← hW2]; exact (Below.refl _ _).alloc (Nat.le_refl _) _
      have hbx : W2.heap[wr.heap.size]? = some (.cells e0.cells.toArray 78 (0, 0)) := by rw [← hW2]; exact heap_alloc_new wr _
      have hcp := copy_vok (S := fun q => q < W2.heap.size) ((r4.below hb).below b2) (fun q e => e)
      obtain ⟨z0, z1, z2, z3, z4, z5, z6, z7⟩ := ev_at hbx
      have hkn : ((k : Nat) : Int) < (n : Int) := by omega
      have hen : es.length + 1 ≤ 1000000001 := by have := hF.rel.1; rw [List.length_take] at this; omega
      have HR := Lib.hid (And.intro hF (And.intro hb (And.intro hbx (And.intro hp0 (And.intro r1 (And.intro r2 (And.intro r3 b2)))))))
      have HW := Lib.hid hW2
      unfold VV.val at hcp
      clear hF hb hr hes hn he0 hp0 r1 r2 r3 r4 cx b2 hbx hW2
      go_upto_region 7 with fail
      have HW2 := HW.out
      unfold EV.cells at HW2
      rw [HW2]
      clear HW2
      go_wp2_with fail
      refine hcp.mono ?_
      rintro e w4 ⟨y, rfl, v4, wv4, n4, b4⟩
      obtain ⟨hF, hb, hbx, hp0, r1, r2, r3, b2⟩ := HR.out
      have hbx4 := (Only.of_below b4).heap hbx (by have := (Array.getElem?_eq_some_iff.1 hbx).1; omega)
      obtain ⟨u0, u1, u2, u3, u4, u5, u6, u7⟩ := ev_at hbx4
      have uf : ∀ j, w4.frozen? ⟨wr.heap.size, j, none⟩ = false := fun j => by simp [World.frozen?, hbx4]
      have H4 := Lib.hid (And.intro v4 (And.intro wv4 (And.intro n4 (And.intro b4 hbx4))))
      clear hF hb hbx hp0 r1 r2 r3 b2 v4 wv4 n4 b4 hbx4 hcp z0 z1 z2 z3 z4 z5 z6 z7 g0 g1 g2 g3 g4 g5 g6 g7
      go_upto_region 8 with fail
      obtain ⟨W5, hW5⟩ : ∃ W5, (((((w4.setCell ⟨wr.heap.size, 2, none⟩ (.int .i64 y.kind)).setCell ⟨wr.heap.size, 3, none⟩ (.string y.text)).setCell ⟨wr.heap.size, 4, none⟩ (.slice y.LA y.ln y.lc)).setCell ⟨wr.heap.size, 5, none⟩ (.slice y.FA y.fn y.fc)).setCell ⟨wr.heap.size, 6, none⟩ (.slice y.KA y.kn y.kc)) = W5 := ⟨_, rfl⟩
      rw [hW5]
      obtain ⟨hF, hb, hbx, hp0, r1, r2, r3, b2⟩ := HR.out
      obtain ⟨v4, wv4, n4, b4, hbx4⟩ := H4.out
      obtain ⟨ev2, hev2⟩ : ∃ ev2 : EV, ev2 = ⟨e0.kind, e0.key, y, e0.due⟩ := ⟨_, rfl⟩
      have hbx5 : W5.heap[wr.heap.size]? = some (.cells ev2.cells.toArray 78 (0, 0)) := by
        rw [← hW5, hev2]
        simp [World.setCell, Array.getElem?_modify, hbx4, EV.cells]
      have o5 : Only (fun q => q = wr.heap.size) w4 W5 := by
        rw [← hW5]
        exact (((((Only.refl (fun q => q = wr.heap.size) w4).put (p := ⟨wr.heap.size, 2, none⟩) (.inl rfl) _).put (p := ⟨wr.heap.size, 3, none⟩) (.inl rfl) _).put (p := ⟨wr.heap.size, 4, none⟩) (.inl rfl) _).put (p := ⟨wr.heap.size, 5, none⟩) (.inl rfl) _).put (p := ⟨wr.heap.size, 6, none⟩) (.inl rfl) _
      have hbw : wr.heap.size < W2.heap.size := (Array.getElem?_eq_some_iff.1 hbx).1
      have b5 : Below wr.heap.size wr W5 := o5.after (b2.trans (b4.mono b2.size)) (Nat.le_refl _) (fun q e => Nat.le_of_eq e.symm)
      have hF5 := hF.below b5
      have v5 : Vok W5 (fun q => q < wr.heap.size) y p0.v := v4.move o5 (fun q _ e => by show q < W2.heap.size; omega) (fun q _ e => Nat.lt_trans e hbw)
      have wv5 : WrV W5 y := wrv_only wv4 o5 (fun q hq e => by have := tch_ge n4 hq; omega)
      have ht5 : ∀ q, Tch y q → w.heap.size ≤ q ∧ (Value.slice Av es.length cv).ownBlock ≠ some q := fun q hq => by
        have h1 := tch_ge n4 hq
        have h2 := hb.size
        exact ⟨by omega, fun e => by have := (hF.own.lt q e).2; omega⟩
      have hR5 : RdEv W5 (fun q => q < w.heap.size ∨ (Value.slice Av es.length cv).ownBlock = some q) ev2 p0 := by
        rw [hev2]
        exact ⟨r1, r2, r3, v5.move (Only.refl (fun _ => False) W5) (fun q _ e => e.elim) (fun q _ e => e.elim (fun e => Nat.lt_of_lt_of_le e hb.size) (fun e => (hF.own.lt q e).2))⟩
      have FIN : ∀ v6 w6, w6.ownsRow w.heap.size 78 8 v6 (es.length + 1) (rows EV.cells es ++ ev2.cells) → Only (fun k => (Value.slice Av es.length cv).ownBlock = some k) (W5.alloc (.cells #[.int .i64 ev2.kind, .string ev2.key, .int .i64 ev2.x.kind, .string ev2.x.text, .slice ev2.x.LA ev2.x.ln ev2.x.lc, .slice ev2.x.FA ev2.x.fn ev2.x.fc, .slice ev2.x.KA ev2.x.kn ev2.x.kc, .int .i64 ev2.due] 78)) w6 →
          (v6.ownBlock = (Value.slice Av es.length cv).ownBlock ∨ v6.ownBlock = some (W5.alloc (.cells #[.int .i64 ev2.kind, .string ev2.key, .int .i64 ev2.x.kind, .string ev2.x.text, .slice ev2.x.LA ev2.x.ln ev2.x.lc, .slice ev2.x.FA ev2.x.fn ev2.x.fc, .slice ev2.x.KA ev2.x.kn ev2.x.kc, .int .i64 ev2.due] 78)).heap.size) → FrEv w6 w.heap.size v6 (es ++ [ev2]) (s.ch.take (k + 1)) ∧ Below w.heap.size w w6 := by
        intro v6 w6 h1 h2 h3
        have hnx := hF5.next hR5 (by rw [hev2]; exact wv5) (by rw [hev2]; exact ht5) h1 h2 h3
        rw [List.take_succ_eq_append_getElem (List.getElem?_eq_some_iff.1 hp0).1, (List.getElem?_eq_some_iff.1 hp0).2]
        exact ⟨hnx, h2.after ((hb.trans (b5.mono hb.size)).alloc (Nat.le_trans hb.size b5.size) _) (Nat.le_refl _) (fun q e => (hF.own.lt q e).1)⟩
      have HFN := Lib.hid FIN
      have HO := Lib.hid (And.intro (own_only hF5.own ((Only.refl (fun _ => False) W5).alloc (.cells #[.int .i64 ev2.kind, .string ev2.key, .int .i64 ev2.x.kind, .string ev2.x.text, .slice ev2.x.LA ev2.x.ln ev2.x.lc, .slice ev2.x.FA ev2.x.fn ev2.x.fc, .slice ev2.x.KA ev2.x.kn ev2.x.kc, .int .i64 ev2.due] 78)) (fun _ _ h => h)) (by rw [World.size_alloc]; have := hb.size; have := b5.size; omega : w.heap.size ≤ (W5.alloc (.cells #[.int .i64 ev2.kind, .string ev2.key, .int .i64 ev2.x.kind, .string ev2.x.text, .slice ev2.x.LA ev2.x.ln ev2.x.lc, .slice ev2.x.FA ev2.x.fn ev2.x.fc, .slice ev2.x.KA ev2.x.kn ev2.x.kc, .int .i64 ev2.due] 78)).heap.size))
      obtain ⟨z0, z1, z2, z3, z4, z5, z6, z7⟩ := ev_at hbx5
      clear FIN hR5 ht5 wv5 v5 hF5 b5 hbw o5 hbx5 hev2 hbx4 b4 n4 wv4 v4 hF hb hbx hp0 r1 r2 r3 b2 hW5 HR H4 u0 u1 u2 u3 u4 u5 u6 u7 uf
      go_wp2_with (at_builtin; refine wpList_app rfl (.tmp 21) (.tmp 23) elEv rfl w.heap.size (.slice Av es.length cv) es.length (rows EV.cells es) rfl HO.out.1 (some ⟨W5.heap.size, 0, none⟩) 1 1 ev2.cells rfl (rd_new W5 ev2.cells 78 8 rfl) (ev_one _) (by unfold maxLen; omega) (by omega) HO.out.2 ?_; intro v6 w6 h1 h2 h3)
      have HD := Lib.hid (HFN.out v6 w6 h1 h2 h3)
      clear h1 h2 h3
      go_roundw
      case rel => exact ⟨k + 1, _, by omega, by go_num, HD.out.1, HD.out.2⟩
      case measure => simp [intOf]; omega
    · obtain rfl : k = n := by omega
      obtain ⟨hr, hes, hn⟩ := H.out
      rw [List.take_of_length_le (by rw [← hes.1]; omega)] at hF
      have HE := Lib.hid (And.intro hF hb)
      clear hF hb hr hes hn
      go_wp2_with fail
      go_ret
      exact ⟨_, es, rfl, HE.out.1, HE.out.2⟩
end Go.Proofs.YtjofbagaobdmoaaGreat.SpP
set_option maxRecDepth 100000
set_option linter.unusedSimpArgs false
set_option linter.unusedVariables false
namespace Go.Proofs.YtjofbagaobdmoaaGreat.SpQ
open Go.RowKit Go.Proofs.YtjofbagaobdmoaaGreat.Mem Go.Proofs.YtjofbagaobdmoaaGreat.VaC Go.Proofs.YtjofbagaobdmoaaGreat.VaE Go.Proofs.YtjofbagaobdmoaaGreat.VaH Go.Proofs.YtjofbagaobdmoaaGreat.VaI Go.Proofs.YtjofbagaobdmoaaGreat.VaX Go.Proofs.YtjofbagaobdmoaaGreat.DuA Go.Proofs.YtjofbagaobdmoaaGreat.SpA Go.Proofs.YtjofbagaobdmoaaGreat.SpB Go.Proofs.YtjofbagaobdmoaaGreat.SpC Go.Proofs.YtjofbagaobdmoaaGreat.SpD Go.Proofs.YtjofbagaobdmoaaGreat.SpE Go.Proofs.YtjofbagaobdmoaaGreat.SpF Go.Proofs.YtjofbagaobdmoaaGreat.SpG Go.Proofs.YtjofbagaobdmoaaGreat.SpH Go.Proofs.YtjofbagaobdmoaaGreat.SpI Go.Proofs.YtjofbagaobdmoaaGreat.SpJ Go.Proofs.YtjofbagaobdmoaaGreat.SpK Go.Proofs.YtjofbagaobdmoaaGreat.SpL Go.Proofs.YtjofbagaobdmoaaGreat.SpM Go.Proofs.YtjofbagaobdmoaaGreat.SpN Go.Proofs.YtjofbagaobdmoaaGreat.SpO Go.Proofs.YtjofbagaobdmoaaGreat.SpP
open Go.Proofs.YtjofbagaobdmoaaGreat.DsH (Ix IxS okk keyed key_of)

/-- What a key has behind a step back. -/
def backG (o : Option PH) (p : PH) : Option PH := if p.ver = 0 then none else some p
theorem get_backK (l : List (ByteArray × PH)) (e : ByteArray × PH) (k : ByteArray) : getK (backK l e) k = if k = e.1 then (if e.2.ver = 0 then none else some e.2) else getK l k := by
  unfold backK
  by_cases h : e.2.ver = 0
  · rw [if_pos h, SpA.get_drop, if_pos h]
  · rw [if_neg h, get_set, if_neg h]
theorem ris_backK {l : List (ByteArray × PH)} (h : Ris lt l) (e : ByteArray × PH) : Ris lt (backK l e) := by
  unfold backK
  split
  · exact ris_drop h _
  · exact ris_set DuB.linS h _ _
theorem ris_back : ∀ (o l : List (ByteArray × PH)), Ris lt l → Ris lt (o.foldl backK l)
  | [], l, h => h
  | e :: r, l, h => ris_back r _ (ris_backK h e)
theorem get_back : ∀ (o l : List (ByteArray × PH)), (o.map (·.1)).Nodup → ∀ k, getK (o.foldl backK l) k = match getK o k with | none => getK l k | some p => if p.ver = 0 then none else some p
  | [], l, _, k => rfl
  | e :: r, l, hn, k => by
    rw [List.map_cons, List.nodup_cons] at hn
    rw [List.foldl_cons, get_back r _ hn.2, SpA.get_cons]
    by_cases h : e.1 = k
    · rw [if_pos h]
      have hr : getK r k = none := SpA.get_none.2 (h ▸ hn.1)
      rw [hr]
      simp only
      rw [get_backK, if_pos h.symm]
    · rw [if_neg h]
      cases hr : getK r k with
      | none => simp only; rw [get_backK, if_neg (fun e' => h e'.symm)]
      | some p => rfl
/-- Whatever the order. -/
theorem back_perm {o o' l : List (ByteArray × PH)} (hl : Ris lt l) (hn : (o.map (·.1)).Nodup) (hn' : (o'.map (·.1)).Nodup) (hg : ∀ k, getK o k = getK o' k) : o.foldl backK l = o'.foldl backK l := by
  refine ris_ext DuB.linS (ris_back o l hl) (ris_back o' l hl) (fun k => ?_)
  rw [get_back o l hn, get_back o' l hn', hg]
theorem back_snoc (o l : List (ByteArray × PH)) (e : ByteArray × PH) : (o ++ [e]).foldl backK l = backK (o.foldl backK l) e := by rw [List.foldl_append]; rfl
theorem mem_backK {l : List (ByteArray × PH)} {e x : ByteArray × PH} (h : x ∈ backK l e) : x ∈ l ∨ (x = e ∧ e.2.ver ≠ 0) := by
  unfold backK at h
  split at h
  · exact .inl (SpA.mem_drop.1 h).1
  · rename_i hv
    rcases mem_set h with h | h
    · exact .inr ⟨h, hv⟩
    · exact .inl h
/-- Between two steps back: what holds of the content. -/
theorem inv_back : ∀ (o : List (ByteArray × PH)) (s : PS), Inv s → s.on = true → (∀ e ∈ o, e ∈ s.bf) → Inv { s with l := o.foldl backK s.l }
  | [], s, h, _, _ => h
  | e :: r, s, h, ho, hm => by
    have he := hm e (List.mem_cons_self ..)
    have h1 : Inv { s with l := backK s.l e } := by
      unfold backK
      by_cases hv : e.2.ver = 0
      · rw [if_pos hv]
        exact inv_drop h e.1
      · rw [if_neg hv]
        refine inv_set h (h.keyb e he) (h.dueb e he) ⟨by omega, .inr (Nat.le_trans (h.verb e he) (h.atc ho))⟩ (h.chkb e he hv) (fun _ hn => ?_)
        rw [(mem_getR DuB.linS h.risb (k := e.1) (x := e.2)).2 he] at hn
        cases hn
    exact inv_back r { s with l := backK s.l e } h1 ho (fun x hx => hm x (List.mem_cons_of_mem _ hx))
theorem _root_.Go.Proofs.YtjofbagaobdmoaaGreat.SpD.Sp.only {w w' : World} {B : Nat} {F : Lay} {N : Nat} {s : PS} {S1 : Nat → Prop} (h : Sp w B F N s) (ho : Only S1 w w') (h1 : ∀ k, Ft F k → ¬ S1 k) (h2 : ∀ k, k < w.heap.size → S1 k → Fx F k) : Sp w' B F N s :=
  ⟨ho.heap h.hp (h1 _ (.inl rfl)), h.sq.only ho (fun k hk _ => h1 k hk) h2, h.on, h.inv⟩
theorem ranges_only {w w' : World} {b r n cnt : Nat} {D : DV} {left : Lit → Bool} {S : Nat → Prop} (h : w.ranges Tryz.prog 9 tk b r n D left cnt) (ho : Only S w w') (hb : ¬ S b) (hr : ¬ S r) : w'.ranges Tryz.prog 9 tk b r n D left cnt := by
  obtain ⟨es, clock, since, seen, c0, h1, F, hs, hD, h2, rest⟩ := h
  exact ⟨es, clock, since, seen, c0, ho.heap h1 hb, F, hs, hD, ho.heap h2 hr, rest⟩
theorem tel_moves {w w' : World} {F F' : Lay} {L : VL} {l : List (ByteArray × PH)} (h : Tel w (Fx F) L l) (hM : Moves F F' w w') : Tel w' (Fx F') L l :=
  h.move hM.only (fun k _ e => .inl e) (fun k hk e => e.elim (fun e => (hM.sub k e).elim .inl (fun hge => absurd hk (Nat.not_lt.2 hge))) (fun e => by rw [hM.x] at e; exact .inr e))
theorem free_at (B : Nat) (F : Lay) (N : Nat) (s : PS) (k : ByteArray) (w : World) (g : Nat) (hg : F.g = g) (h : Sp w B F N s) (hk : k.size ≤ 100000000) (hN : N ≤ 1000000000) (hB : B ≤ w.heap.size) :
    Calls Tryz.prog 53 #[.pointer (some ⟨g, 0, none⟩), .string k] w fun e w' => e = .returned (.tuple #[]) ∧ ∃ v', Sp w' B { F with vd := v' } N { s with l := dropK s.l k } ∧ Moves F { F with vd := v' } w w' ∧ Only (fun q => q = F.m ∨ IxS F.gd F.md F.vd q) w w' := by
  subst hg
  exact free_fine B F N s k w h hk hN hB
theorem lay_at (B : Nat) (F : Lay) (N : Nat) (s : PS) (k : ByteArray) (x : VV) (p : PH) (w : World) (g : Nat) (hg : F.g = g) (h : Sp w B F N s) (hk : k.size ≤ 100000000) (hN : N ≤ 1000000000) (hB : B ≤ w.heap.size) (hx : Vok w (Fx F) x p.v) (hp : 0 ≤ p.due ∧ p.due ≤ 9007199254740992) (hI : Inv { s with l := setK lt s.l k p }) {d : Int} {m : Nat} (hd : p.due = d) (hm : p.ver = m) :
    Calls Tryz.prog 51 #[.pointer (some ⟨g, 0, none⟩), .string k, hval x d m] w fun e w' => e = .returned (.tuple #[]) ∧ ∃ v', Sp w' B { F with vd := v' } (N + 1) { s with l := setK lt s.l k p } ∧ Moves F { F with vd := v' } w w' ∧ Only (fun q => q = F.m ∨ IxS F.gd F.md F.vd q) w w' := by
  subst hg hd hm
  exact lay_fine B F N s k x p w h hk hN hB hx hp hI
/-- Between two steps back. -/
structure Bk (w1 wr : World) (B : Nat) (F : Lay) (N b r : Nat) (s : PS) (D : DV) (L : VL) (cnt : Nat) (F2 : Lay) (left : Lit → Bool) (out : VL) (op : List (ByteArray × PH)) : Prop where
  rg : wr.ranges Tryz.prog 9 tk b r N D left cnt
  co : Coll L out left
  ks : op.map (·.1) = out.map (·.1)
  ps : ∀ e ∈ op, e ∈ s.bf
  sp : Sp wr B F2 (N + op.length) { s with l := op.foldl backK s.l }
  te : Tel wr (Fx F2) L s.bf
  mv : Moves F F2 w1 wr
  bm : F2.bm = some b
  nr : ¬ Ft F2 r
  xr : F.X r
set_option maxHeartbeats 4000000 in
theorem back_core (B : Nat) (F : Lay) (N : Nat) (s : PS) (w : World) (h : Sp w B F N s) (hN : N ≤ 400000000) (hXw : F.X w.heap.size) :
    Calls Tryz.prog 16 #[.pointer (some ⟨F.g, 0, none⟩)] w fun e w' => e = .returned (.int .i64 (if s.on then 0 else 140)) ∧ ∃ F', Sp w' B F' (N + N) (backS s) ∧ Moves F F' w w' := by
  obtain ⟨-, -, -, c3, c4, -, -⟩ := h.cells
  cases ho : s.on
  · rw [ho] at c3
    have e1 : backS s = s := by unfold backS; rw [ho]; rfl
    rw [e1]
    have H := Lib.hid h
    clear h ho e1
    go_enter Tryz.func16, Tryz.ntmps16
    go_wp2_with fail
    go_ret
    exact ⟨rfl, F, H.out.more (by omega), Moves.refl _ _⟩
  rw [ho] at c3
  have e1 : backS s = endP { s with l := s.bf.foldl backK s.l, cnt := s.at_ } := by unfold backS; rw [ho]; rfl
  rw [e1]
  obtain ⟨b, hbm, hbB, L, hmm, htt⟩ : ∃ b, F.bm = some b ∧ B ≤ b ∧ ∃ L, Mv w b N L ∧ Tel w (Fx F) L s.bf := by
    rcases h.sq.bp with ⟨e, _⟩ | x
    · have := h.on; rw [ho, e] at this; cases this
    · exact x
  rw [hbm] at c4
  have hLN := hmm.len
  have hLk := htt.keys hmm.ris h.inv.risb
  have hrs := hmm.ris
  obtain ⟨D, hM, hT⟩ := hmm.mp
  have hbF : Ft F b := .inr (.inr (.inr (.inl hbm)))
  have hB0 : B ≤ w.heap.size := by have := h.lt b hbF; omega
  have HM := Lib.hid hM
  have HH := Lib.hid (And.intro h (And.intro ho (And.intro htt (And.intro hT (And.intro hrs (And.intro hLk (And.intro hbm hLN)))))))
  clear h ho htt hT hrs hLk hbm hmm hM e1
  go_enter Tryz.func16, Tryz.ntmps16
  go_wp2_with (at_range; refine wpList_range_own _ rfl _ 88 rfl 9 81 keyed Tryz.underlying88 tk b N D rfl HM.out ?_; intro w3 r3 g3 s3)
  have b3 : Below w.heap.size w w3 := ⟨g3.os, g3.tape, g3.output, g3.size, fun k hk => g3.block k (by omega) (by simp)⟩
  have hr0 : w.heap.size < w3.heap.size := by omega
  obtain ⟨r, hr⟩ : ∃ r, w.heap.size = r := ⟨_, rfl⟩
  rw [hr] at r3
  have hXr : F.X r := by rw [← hr]; exact hXw
  have g0 : Bk w w3 B F N b r s D L (Maps.size D) F (Maps.has D) [] [] := by
    obtain ⟨h, ho, htt, hT, hrs, hLk, hbm, hLN⟩ := HH.out
    exact ⟨r3, Coll.start hT, rfl, (fun e he => by cases he), h.below b3, tel_moves htt (Moves.below b3), Moves.below b3, hbm, (fun hf => by have := (h.lt r hf).2; omega), hXr⟩
  have G0 := Lib.hid (And.intro g0 (And.intro b3 (And.intro hr hr0)))
  go_frame
  rw [hr]
  clear r3 g3 s3 g0 b3 c3 c4 hr hr0 hXw
  go_loopw [] (fun wr => ∃ cnt F2 left out op, Bk w wr B F N b r s D L cnt F2 left out op ∧ op.length + cnt ≤ L.length) (fun wr => wr.rangeLeft b r)
  case atStart => exact ⟨_, _, _, _, _, G0.out.1, by rw [HH.out.2.2.2.1.size]; simp⟩
  case round =>
    obtain ⟨cnt, F2, left, out, op, hK, hop⟩ := hrel
    have hrg := hK.rg
    have HK := Lib.hid (And.intro hK hop)
    clear hK hop
    go_wp2_with (at_next; refine wpList_next_ranges _ rfl _ rfl 9 keyed tk Value.string (fun v : Value => v) str_invK tk_invV b r N D left cnt rfl hrg ?_ ?_)
    · intro hc0 hl0
      obtain ⟨hK, hop⟩ := HK.out
      obtain ⟨h, ho, htt, hT, hrs, hLk, hbm, hLN⟩ := HH.out
      have hperm := hK.co.done hrs hl0
      have hnod : (op.map (·.1)).Nodup := by rw [hK.ks]; exact hK.co.nod
      have hnb : (s.bf.map (·.1)).Nodup := h.inv.risb.nodup DuB.linS
      have hfin : op.foldl backK s.l = s.bf.foldl backK s.l := by
        refine back_perm h.inv.ris hnod hnb (fun k => ?_)
        cases hg : getK op k with
        | some p => exact ((mem_get hnb).2 (hK.ps _ ((mem_get hnod).1 hg))).symm
        | none =>
          refine (SpA.get_none.2 (fun hm => SpA.get_none.1 hg ?_)).symm
          rw [hK.ks]
          rw [← hLk] at hm
          exact (hperm.map (·.1)).mem_iff.2 hm
      have hS := hK.sp
      rw [hfin] at hS
      obtain ⟨-, -, -, -, -, q5, -⟩ := hS.cells
      obtain ⟨-, -, q2, -, -, -, -⟩ := hS.cells
      have qf := hS.free
      rw [hK.mv.g] at q5 q2 qf
      have hInv : Inv { s with l := s.bf.foldl backK s.l, cnt := s.at_ } := by
        have hi := hS.inv
        refine { hi with ver := fun e he => ⟨(hi.ver e he).1, .inr ?_⟩, atc := fun _ => Nat.le_refl _ }
        by_cases hb : (getK s.bf e.1).isSome = true
        · obtain ⟨p, hp⟩ := Option.isSome_iff_exists.1 hb
          have hge := (mem_get (hi.ris.nodup DuB.linS) (k := e.1) (x := e.2)).2 he
          have hgb := get_back s.bf s.l hnb e.1
          rw [hp] at hgb
          have hge' : getK (s.bf.foldl backK s.l) e.1 = some e.2 := hge
          rw [hge'] at hgb
          simp only at hgb
          split at hgb
          · cases hgb
          · injection hgb with hgb
            rw [hgb]
            exact h.inv.verb _ ((mem_get hnb).1 hp)
        · exact hi.unt ho e he (by simpa using hb)
      have hcn := hS.cnt s.at_ hInv
      have hen := end_calls B F2 (N + op.length) _ _ hcn
      rw [hK.mv.g] at hen
      have MM : Moves F F2 w (wr.setCell ⟨F.g, 2, none⟩ (.int .u64 s.at_)) := by
        refine hK.mv.trans ⟨?_, fun k hk => .inl hk, rfl, rfl⟩
        exact (Only.refl (Ft F2) wr).put (p := ⟨F.g, 2, none⟩) (.inl (.inl hK.mv.g.symm)) _
      have HE := Lib.hid (And.intro MM hop)
      have hlN : op.length ≤ N := by omega
      clear hK hop h ho htt hT hrs hLk hbm hLN hperm hnod hnb hfin hS hInv hcn MM hrg
      go_wp2_with fail
      refine hen.mono ?_
      rintro e w5 ⟨rfl, F5, h5, M5⟩
      go_wp2_with fail
      go_ret
      exact ⟨rfl, F5, h5.more (by omega), HE.out.1.trans M5⟩
    · intro x y kl z ps w4 cnt4 hkx hlk hRv hat hrg4 hlt4 hgr4 hsz4 hen
      obtain ⟨hK, hop⟩ := HK.out
      obtain ⟨h, ho, htt, hT, hrs, hLk, hbm, hLN⟩ := HH.out
      obtain ⟨x', ex, hkl, -⟩ := str_keyS hkx
      injection ex with ex
      subst ex
      subst hkl
      have hz : z = .held y := by unfold tk at hRv; injection hRv with hRv; exact (congrArg Prod.fst hRv).symm
      obtain ⟨hco4, hgL⟩ := hK.co.next hT hrs hlk (fun zd => (hat zd).trans hz)
      obtain ⟨p, hp⟩ : ∃ p, getK s.bf x = some p := by
        cases hg : getK s.bf x with
        | some p => exact ⟨p, rfl⟩
        | none => rw [(htt x).1.2 hg] at hgL; cases hgL
      obtain ⟨u, hu, xv, rfl, hxv⟩ := (hK.te x).2 p hp
      rw [hgL] at hu
      injection hu with hu
      subst hu
      have hmem := (mem_getR DuB.linS h.inv.risb).1 hp
      have O4 : Only (fun q => q = r) wr w4 := (Only.of_grown hgr4).mono (fun q e => by injection e with e; exact e.symm)
      have hrlt : r < wr.heap.size := hrg.lt
      have hnr4 : ∀ q, Ft F2 q → ¬ q = r := fun q hq e => hK.nr (e ▸ hq)
      have hxr4 : ∀ q, q < wr.heap.size → q = r → Fx F2 q := fun q _ e => .inr (by rw [hK.mv.x, e]; exact hK.xr)
      have h4 := hK.sp.only O4 hnr4 hxr4
      have te4 := hK.te.move O4 hxr4 (fun q _ e => e)
      have hx4 := hxv.move O4 hxr4 (fun q _ e => e)
      obtain ⟨d, hd⟩ : ∃ d, p.due = d := ⟨_, rfl⟩
      obtain ⟨m, hm⟩ : ∃ m, p.ver = m := ⟨_, rfl⟩
      rw [hd, hm] at hen hco4 ⊢
      obtain ⟨W5, hW5⟩ : ∃ W5, w4.alloc (.cells (hcells xv d m) 81) = W5 := ⟨_, rfl⟩
      have b5 : Below w4.heap.size w4 W5 := by rw [← hW5]; exact (Below.refl _ _).alloc (Nat.le_refl _) _
      have hbx : W5.heap[w4.heap.size]? = some (.cells (hcells xv d m) 81 (0, 0)) := by rw [← hW5]; exact heap_alloc_new w4 _
      have h5 := h4.below b5
      have te5 := tel_moves te4 (Moves.below b5)
      have hx5 := hx4.below b5
      have rg5 : W5.ranges Tryz.prog 9 tk b r N D (fun q => left q && !q.sameKey (DuB.klS x)) cnt4 := by rw [← hW5]; exact hrg4.alloc _
      have hrw : w.heap.size ≤ r := by obtain ⟨g0, b3, hr, hr0⟩ := G0.out; omega
      have M5 : Moves F F2 w W5 := by
        refine ⟨(hK.mv.only.trans O4 (fun q e => .inr (by rw [e]; exact hrw))).trans (Only.of_below b5) (fun q e => .inr ?_), fun q hq => hK.mv.sub q hq, hK.mv.g, hK.mv.x⟩
        exact Nat.le_trans hK.mv.only.size (by rw [← hsz4]; exact e)
      have hbF2 : Ft F2 b := .inr (.inr (.inr (.inl hK.bm)))
      have hB5 : B ≤ W5.heap.size := by have := h5.lt b hbF2; omega
      have hki : x.size ≤ 100000000 := h.inv.keyb _ hmem
      have hop' : op.length + 1 ≤ N := by omega
      obtain ⟨y0, y1, y2, y3, y4, y5, y6⟩ := hcells_at hbx
      have hbr : b ≠ r := hrg.ne.symm
      have apx := h5.sq.ap
      -- what the next step carries
      have FIN : ∀ (w6 : World) (v' : Value), Sp w6 B { F2 with vd := v' } (N + (op.length + 1)) { s with l := backK (op.foldl backK s.l) (x, p) } → Moves F2 { F2 with vd := v' } W5 w6 → Only (fun q => q = F2.m ∨ IxS F2.gd F2.md F2.vd q) W5 w6 →
          Bk w w6 B F N b r s D L cnt4 { F2 with vd := v' } (fun q => left q && !q.sameKey (DuB.klS x)) (out ++ [(x, hval xv d m)]) (op ++ [(x, p)]) ∧ (op ++ [(x, p)]).length + cnt4 ≤ L.length ∧ w6.rangeLeft b r < wr.rangeLeft b r := by
        intro w6 v' h6 M6 o6
        have hrI : ¬ (r = F2.m ∨ IxS F2.gd F2.md F2.vd r) := fun e => hK.nr (e.elim (fun e => .inr (.inl e)) (fun e => .inr (.inr (.inl e))))
        have hbI : ¬ (b = F2.m ∨ IxS F2.gd F2.md F2.vd b) := fun e => e.elim (fun e => apx.gb.2 (by rw [hK.bm, e])) (fun e => (apx.gx b e).2.2.1 hK.bm)
        have rg6 := ranges_only rg5 o6 hbI hrI
        have hr5 : r < W5.heap.size := Nat.lt_of_lt_of_le hrlt (by rw [← hsz4]; exact b5.size)
        refine ⟨⟨rg6, hco4, by rw [List.map_append, List.map_append, hK.ks]; rfl, fun e he => ?_, ?_, tel_moves te5 M6, M5.trans M6, hK.bm, fun hf => (M6.sub r hf).elim hK.nr (fun hge => absurd hr5 (Nat.not_lt.2 hge)), hK.xr⟩, by rw [List.length_append]; show op.length + 1 + cnt4 ≤ _; omega, by rw [rg6.left_eq, hrg.left_eq]; exact hlt4⟩
        · rcases List.mem_append.1 he with he | he
          · exact hK.ps e he
          · rw [List.mem_singleton] at he; subst he; exact hmem
        · rw [back_snoc, List.length_append]
          exact h6
      by_cases hv0 : m = 0
      · have hfc := free_at B F2 (N + op.length) _ x W5 F.g hK.mv.g h5 hki (by omega) hB5
        have hbk : backK (op.foldl backK s.l) (x, p) = dropK (op.foldl backK s.l) x := by unfold backK; rw [if_pos (by rw [hm]; exact hv0)]
        rw [hbk] at FIN
        have hm0 : ((m : Int) == 0) = true := by simpa using hv0
        have HFN := Lib.hid FIN
        have HW := Lib.hid hW5
        unfold hcells at HW
        unfold hval at hen
        clear FIN hbk hK hop h ho htt hT hrs hLk hbm hLN hz hco4 hgL hp hxv hmem O4 hnr4 hxr4 h4 te4 hx4 hd hm hW5 b5 hbx h5 te5 hx5 rg5 M5 hbF2 hB5 apx hrg hrg4 hgr4 hat hlk hkx hRv hlt4 hsz4 hv0
        go_upto_region 8 with fail
        rw [HW.out]
        go_wp2_with fail
        refine hfc.mono ?_
        rintro e w6 ⟨rfl, v', h6, M6, o6⟩
        have HD := Lib.hid (HFN.out w6 v' (h6.more (by omega)) M6 o6)
        clear h6 M6 o6 hfc
        go_wp2_with fail
        go_roundw
        case rel => exact ⟨_, _, _, _, _, HD.out.1, HD.out.2.1⟩
        case measure => exact HD.out.2.2
      · have hdd := h.inv.dueb _ hmem
        have hI := inv_back (op ++ [(x, p)]) s h.inv ho (fun e he => (List.mem_append.1 he).elim (hK.ps e) (fun he => by rw [List.mem_singleton] at he; subst he; exact hmem))
        have hbk : backK (op.foldl backK s.l) (x, p) = setK lt (op.foldl backK s.l) x p := by unfold backK; rw [if_neg (by rw [hm]; exact hv0)]
        rw [back_snoc, hbk] at hI
        have hlc := lay_at B F2 (N + op.length) _ x xv p W5 F.g hK.mv.g h5 hki (by omega) hB5 hx5 hdd hI hd hm
        rw [hbk] at FIN
        have hm0 : ((m : Int) == 0) = false := by simpa using hv0
        have HFN := Lib.hid FIN
        have HW := Lib.hid hW5
        unfold hcells at HW
        unfold hval at hen hlc
        clear FIN hbk hK hop h ho htt hT hrs hLk hbm hLN hz hco4 hgL hp hxv hmem O4 hnr4 hxr4 h4 te4 hx4 hd hm hW5 b5 hbx h5 te5 hx5 rg5 M5 hbF2 hB5 apx hrg hrg4 hgr4 hat hlk hkx hRv hlt4 hsz4 hdd hI
        go_upto_region 8 with fail
        rw [HW.out]
        go_wp2_with fail
        refine hlc.mono ?_
        rintro e w6 ⟨rfl, v', h6, M6, o6⟩
        have HD := Lib.hid (HFN.out w6 v' (h6.more (by omega)) M6 o6)
        clear h6 M6 o6 hlc
        go_wp2_with fail
        go_roundw
        case rel => exact ⟨_, _, _, _, _, HD.out.1, HD.out.2.1⟩
        case measure => exact HD.out.2.2
theorem back_calls (B : Nat) (F : Lay) (N : Nat) (s : PS) (w : World) (h : Sp w B F N s) (hN : N ≤ 400000000) :
    Calls Tryz.prog 16 #[.pointer (some ⟨F.g, 0, none⟩)] w fun e w' => e = .returned (.int .i64 (if s.on then 0 else 140)) ∧ ∃ F', Sp w' B F' (N + N) (backS s) ∧ Moves F F' w w' := by
  have hg := h.ghost (X' := fun q => F.X q ∨ q = w.heap.size) (fun k hk e => e.elim id (fun e => absurd hk (by omega)))
  refine (back_core B { F with X := fun q => F.X q ∨ q = w.heap.size } N s w hg hN (.inr rfl)).mono ?_
  rintro e w' ⟨rfl, F', h', M'⟩
  exact ⟨rfl, { F' with X := F.X }, h'.ghost (fun k _ e => by rw [M'.x]; exact .inl e), M'.unx⟩
end Go.Proofs.YtjofbagaobdmoaaGreat.SpQ
