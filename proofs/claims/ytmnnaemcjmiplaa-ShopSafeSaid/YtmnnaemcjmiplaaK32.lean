/- spoil, that more than one may be spoilt; Clone of a list of any size. Two archives beside each other in memory, and blocks that are neither's. The archive of a law: all its blocks have been made since the law began; its methods in these words. Sync, Safe, Last in the laws' words. How many steps a move has still to take, as memory says; Revs of what is not there. Contract of turn.Of. Contracts of undo.Of. -/
import Derived.Test.YtmnnaemcjmiplaaK11
import Derived.Test.YtmnnaemcjmiplaaK27
import Derived.Test.YtmnnaemcjmiplaaK31
import Derived.Test.YtmnnaemcjmiplaaK10
import Derived.Test.YtmnnaemcjmiplaaK5
import Derived.Test.YtmnnaemcjmiplaaK19
import Derived.Test.YtmnnaemcjmiplaaK6
import Derived.Test.YtmnnaemcjmiplaaK14
import Derived.Test.YtmnnaemcjmiplaaK20
namespace Go.Proofs.Ytmnnaemcjmiplaa
open Go.ChangeShapes Go.WideShapes Go.RowKit
set_option linter.unusedVariables false
set_option linter.unusedSimpArgs false
set_option maxRecDepth 100000
set_option maxHeartbeats 4000000

theorem spoil_any2 (p : Pt) (g n cap : Nat) (cur : Array Value) (w : World) (hb : Blk w g 81 cur) (hs : cur.size = cap * 3) (hn : n ≤ cap) (hc : cap ≤ maxLen) :
    Calls Try.prog 52 #[.slice (some ⟨g, 0, none⟩) n cap, pval p] w fun e w' => e = .returned (.tuple #[]) ∧ Only w w' (fun k => k = g) ∧ ∃ cs', Blk w' g 81 cs' ∧ cs'.size = cur.size := by
  obtain ⟨kd, m, t⟩ := p
  have hcap : (cap : Int) ≤ 9223372036854775807 := by unfold maxLen at hc; omega
  have hnc : (n : Int) ≤ (cap : Int) := by omega
  have h0 : (0 : Int) ≤ (cap : Int) := by omega
  have Hs := Lib.hid hs
  have Hb := Lib.hid hb
  have hlt := hb.lt
  clear hs hb
  unfold pval
  go_enter Try.func52, Try.ntmps52
  go_wp2_with fail
  have Hx := Lib.hid (Blk.new w 81 #[.int .i64 kd, .int .i64 m, .string t])
  have Hg := Lib.hid (Hb.out.alloc (.cells #[.int .i64 kd, .int .i64 m, .string t] 81))
  have Ho := Lib.hid (Only.alloc (S := fun k => k = g) w (.cells #[.int .i64 kd, .int .i64 m, .string t] 81))
  generalize w.alloc (.cells #[.int .i64 kd, .int .i64 m, .string t] 81) = W at *
  obtain ⟨x, hx⟩ : ∃ x, w.heap.size = x := ⟨_, rfl⟩
  rw [hx] at Hx hlt ⊢
  go_loopw [4, 11] (fun uv iv wr => ∃ (k : Nat) (cs : Array Value), k ≤ cap ∧ iv = .int .i64 k ∧ Hid (cs.size = cap * 3) ∧ Hid (Blk wr g 81 cs) ∧ Hid (Blk wr x 81 #[.int .i64 kd, .int .i64 m, .string t]) ∧ Hid (Only w wr (fun k => k = g))) (fun _ iv _ => cap - (intOf iv).toNat)
  case atStart => exact ⟨0, cur, by omega, rfl, Hs, Hg, Hx, Ho⟩
  case round =>
    obtain ⟨k, cs, hk, rfl, hcs, hgb, hxb, ho⟩ := hrel
    by_cases hlt2 : k < cap
    · have hkc : (k : Int) < (cap : Int) := by omega
      have hk0 : (0 : Int) ≤ (k : Int) := by omega
      have hsz := hcs.out
      have a0 := hgb.out.cell (k * 3)
      have a1 := hgb.out.cell (k * 3 + 1)
      have a2 := hgb.out.cell (k * 3 + 2)
      obtain ⟨v0, e0⟩ : ∃ v, cs[k * 3]? = some v := ⟨cs[k * 3]'(by omega), Array.getElem?_eq_getElem (by omega)⟩
      obtain ⟨v1, e1⟩ : ∃ v, cs[k * 3 + 1]? = some v := ⟨cs[k * 3 + 1]'(by omega), Array.getElem?_eq_getElem (by omega)⟩
      obtain ⟨v2, e2⟩ : ∃ v, cs[k * 3 + 2]? = some v := ⟨cs[k * 3 + 2]'(by omega), Array.getElem?_eq_getElem (by omega)⟩
      rw [e0] at a0
      rw [e1] at a1
      rw [e2] at a2
      have f0 := hgb.out.frozen (k * 3)
      have f1 := hgb.out.frozen (k * 3 + 1)
      have f2 := hgb.out.frozen (k * 3 + 2)
      have x0 := hxb.out.cell 0
      have x1 := hxb.out.cell 1
      have x2 := hxb.out.cell 2
      have hxl := hxb.out.lt
      have hgl := hgb.out.lt
      clear e0 e1 e2 hsz
      have hxg : x ≠ g := by omega
      go_wp2_with fail
      go_roundw
      case rel =>
        refine ⟨k + 1, ((cs.setIfInBounds (k * 3) (.int .i64 kd)).setIfInBounds (k * 3 + 1) (.int .i64 m)).setIfInBounds (k * 3 + 2) (.string t), by omega, by go_num, Lib.hid (by simpa using hcs.out), Lib.hid (((hgb.out.set_ _ _).set_ _ _).set_ _ _), Lib.hid (((hxb.out.far hxg _).far hxg _).far hxg _), Lib.hid (((ho.out.trans (Only.setSelf _ _ _ _)).trans (Only.setSelf _ _ _ _)).trans (Only.setSelf _ _ _ _))⟩
      case measure => simp [intOf]; omega
    · obtain rfl : k = cap := by omega
      go_wp2_with fail
      go_end0
      exact ⟨rfl, ho.out, cs, hgb.out, by rw [hcs.out, Hs.out]⟩
/-- a list of parts that may be spoilt -/
def Spo (w : World) (v : Value) : Prop := v = .slice none 0 0 ∨ ∃ g n cap cs, v = .slice (some ⟨g, 0, none⟩) n cap ∧ n ≤ cap ∧ cap ≤ maxLen ∧ Blk w g 81 cs ∧ cs.size = cap * 3
theorem OwnP.spo {w : World} {B : Nat} {v : Value} {l : List Pt} (h : OwnP w B v l) : Spo w v := by
  rcases h.2 with ⟨rfl, h0⟩ | ⟨g, cap, cur, rfl, hb, hg, hnc, hcm, hcs, htake⟩
  · exact .inl rfl
  · exact .inr ⟨g, l.length, cap, cur, rfl, hnc, hcm, hg, hcs⟩
theorem Spo.below {w w' : World} {v : Value} (h : Spo w v) (hb : Below w.heap.size w w') : Spo w' v := by
  rcases h with rfl | ⟨g, n, cap, cs, rfl, h1, h2, h3, h4⟩
  · exact .inl rfl
  · exact .inr ⟨g, n, cap, cs, rfl, h1, h2, h3.below hb h3.lt, h4⟩
theorem spoil_spo (p : Pt) (v : Value) (w : World) (h : Spo w v) :
    Calls Try.prog 52 #[v, pval p] w fun e w' => e = .returned (.tuple #[]) ∧ Only w w' (fun k => v.ownBlock = some k) ∧ ∀ v', Spo w v' → Spo w' v' := by
  rcases h with rfl | ⟨g, n, cap, cs, rfl, h1, h2, h3, h4⟩
  · refine (spoil_nil p w).mono ?_
    rintro e w' ⟨rfl, hb⟩
    exact ⟨rfl, Only.of_below hb, fun v' h => h.below hb⟩
  · refine (spoil_any2 p g n cap cs w h3 h4 h1 h2).mono ?_
    rintro e w' ⟨rfl, ho, cs', k1, k2⟩
    refine ⟨rfl, ho.mono fun k _ hk => by subst hk; rfl, fun v' h' => ?_⟩
    rcases h' with rfl | ⟨g', n', cap', c', rfl, e1, e2, e3, e4⟩
    · exact .inl rfl
    · by_cases hg : g' = g
      · subst hg
        have : cs = c' := by
          unfold Blk at h3 e3
          rw [h3] at e3
          injection e3 with e3
          injection e3
        subst this
        exact .inr ⟨g', n', cap', cs', rfl, e1, e2, k1, by rw [k2, e4]⟩
      · exact .inr ⟨g', n', cap', c', rfl, e1, e2, e3.only ho hg, e4⟩
/-- a row of another kind lives on -/
theorem Spo.row {w w' : World} {v : Value} (h : Spo w v) (ho : Only w w' (fun k => v.ownBlock = some k)) {B : Nat} {e : TypeId} {size n : Nat} {v' : Value} {xs : List Value} (hr : w.ownsRow B e size v' n xs) (hne : e ≠ 81) : w'.ownsRow B e size v' n xs := by
  refine own_only hr ho fun k hk hk2 => ?_
  rcases h with rfl | ⟨g, n, cap, cs, rfl, h1, h2, h3, h4⟩
  · simp [Value.ownBlock] at hk2
  · have : g = k := by simpa [Value.ownBlock] using hk2
    subst this
    exact own_blk_ne hr h3 hne hk
theorem wpList_app_partsB {ops : Array Oper} {rest : List Oper} {o : Oper} {a : Act} {Q : Exit → Act → World → Prop} (w : World) (hgd : o.guard = none) (s x : Operand)
    (ho : o.op = .call { callee := .builtin .append, args := #[s, x], argTypes := #[25, 25] })
    (B : Nat) (v : Value) (l : List Pt) (hs : a.eval s = v) (hown : OwnP w B v l)
    (A : Option Addr) (m c B' : Nat) (l' : List Pt) (hx : a.eval x = .slice A m c) (hr : RdP w B' A m c l')
    (hn : l.length + m ≤ 4398046511104) (hB : B ≤ w.heap.size)
    (h : ∀ v' w', OwnP w' B v' (l ++ l') → Below B w w' → wpList Try.prog ops Q rest (a.put o.dst v') w') :
    wpList Try.prog ops Q (o :: rest) a w := by
  obtain ⟨i0, hi, hz0, hz1, hz2⟩ := info_parts Try.info_part
  refine wpList_append_any w hgd s x 25 ho B 81 i0 _ 3 32 Try.underlying25 hi hz0 hz1 hz2 rfl (by omega) v _ _ hs hown B' A m c (pc l') hx ?_ ?_ (by simp only [maxLen]; omega) (by omega) hB ?_
  · refine ⟨by rw [pc_len, hr.1], fun h0 => ?_⟩
    obtain ⟨b, o', e, hb, hc⟩ := hr.2.1.2.2.2 h0
    refine ⟨_, e, hb, fun j u hj => ?_⟩
    have := hc j u hj
    by_cases h00 : j = 0
    · subst h00; simpa [Addr.add] using this
    · simpa [Addr.add, h00] using this
  · intro u hu
    unfold pc at hu
    obtain ⟨p, _, hp⟩ := List.mem_flatMap.1 hu
    simp only [pcells, List.mem_cons, List.not_mem_nil, or_false] at hp
    rcases hp with rfl | rfl | rfl <;> rfl
  · intro v' w' h2 h3 h4
    exact h v' w' (by unfold OwnP; rw [pc_append, List.length_append, ← hr.1]; exact h2) (below_grown h3 hB (own_ge hown))
theorem cloneB_some (l : List Pt) (a : Addr) (n c : Nat) (w : World) (h : RdP w w.heap.size (some a) n c l) (hn : n ≤ 4398046511104) :
    Calls Try.prog 51 #[.slice (some a) n c] w fun e w' => ∃ v, e = .returned v ∧ OwnP w' w.heap.size v l ∧ Below w.heap.size w w' := by
  have H := Lib.hid h
  clear h
  go_enter Try.func51, Try.ntmps51
  have hq := eqlP_nil w (some a) n c
  have ho : OwnP (w.alloc (.cells #[] 81)) w.heap.size (.slice (some ⟨w.heap.size, 0, none⟩) 0 0) [] := World.ownsRow_made w #[] 0 (Nat.le_refl _) (by decide) rfl
  have Ho := Lib.hid ho
  have hr := H.out.alloc (Nat.le_refl _) (.cells #[] 81)
  have Hr := Lib.hid hr
  have hB : w.heap.size ≤ (w.alloc (.cells #[] 81)).heap.size := by simp
  have hn0 : ([] : List Pt).length + n ≤ 4398046511104 := by simpa using hn
  clear ho hr
  go_wp2_with (first | (at_builtin; go_loud (refine wpList_app_partsB _ rfl (.tmp 5) (.tmp 6) rfl w.heap.size _ [] rfl Ho.out (some a) n c _ l rfl Hr.out hn0 hB ?_; intro v4 w4 k1 k2)))
  go_ret
  rw [List.nil_append] at k1
  exact ⟨_, rfl, k1, ((Below.refl w.heap.size w).alloc (Nat.le_refl _) _).trans k2⟩
theorem cloneB_any (l : List Pt) (A : Option Addr) (n c : Nat) (w : World) (h : RdP w w.heap.size A n c l) (hn : n ≤ 4398046511104) :
    Calls Try.prog 51 #[.slice A n c] w fun e w' => ∃ v, e = .returned v ∧ OwnP w' w.heap.size v l ∧ Below w.heap.size w w' := by
  cases A with
  | none =>
    have e : l = [] := by
      rw [← List.length_eq_zero_iff, ← h.1]
      by_cases h0 : 0 < n
      · obtain ⟨b, o, e, _⟩ := h.2.1.2.2.2 h0
        cases e
      · omega
    subst e
    refine (cloneP_nil w n c).mono ?_
    rintro e w' ⟨rfl, rfl⟩
    exact ⟨_, rfl, OwnP.nil _ _, Below.refl _ _⟩
  | some a => exact cloneB_some l a n c w h hn
end Go.Proofs.Ytmnnaemcjmiplaa
namespace Go.Proofs.Ytmnnaemcjmiplaa
open Go.ChangeShapes Go.WideShapes Go.RowKit
set_option linter.unusedVariables false
set_option linter.unusedSimpArgs false
set_option maxRecDepth 100000
set_option maxHeartbeats 4000000

theorem ShMem.toM {w : World} {B q : Nat} {s : Sh} (h : ShMem w B q s) : ShM w (fun k => B ≤ k ∧ k < w.heap.size) q s none := by
  obtain ⟨h1, sl, ss, hk, hv⟩ := h
  refine ⟨⟨h1, hk.lt⟩, fun k h => h.2, sl, ss, none, hk, hv.base (Nat.zero_le _), fun k hk => ⟨own_ge hv.row k hk, own_lt hv.row k hk⟩, fun d hd k hk => ?_, rfl⟩
  obtain ⟨j, hj, rfl⟩ := List.getElem_of_mem hd
  have := (hv.ds j (by rw [← hv.len]; exact hj)).1
  exact World.ownsRow.lt this k hk
/-- as far as the first slot alone is used -/
theorem addG_none (s : Sh) (r : Rv) : addG s none r = if nextE s.log s.text.size r = 0 then addS s r else s := by
  unfold addG
  split
  · rfl
  · rfl
theorem addG_fill (l : List Rv) (s : Sh) (r : Rv) : addG (fillS s l) none r = fillS s (l ++ [r]) := by rw [addG_none, fillS_snoc]
theorem base_fill : ∀ (l : List Rv) (s : Sh), (fillS s l).log.base = s.log.base
  | [], s => rfl
  | r :: l, s => by
    unfold fillS
    rw [base_fill l]
    split
    · rfl
    · rfl
/-- two archives, and blocks X that are neither's -/
def TwoX (w : World) (B : Nat) (X : Nat → Prop) (qs qt : Nat) (s t : Sh) : Prop :=
  ∃ Fs Ft : Nat → Prop, ShM w Fs qs s none ∧ ShM w Ft qt t none ∧ (∀ k, Fs k → ¬ Ft k) ∧ (∀ k, Fs k → B ≤ k) ∧ ∀ k, X k → k < w.heap.size ∧ ¬ Fs k ∧ ¬ Ft k
theorem TwoX.less {w : World} {B qs qt : Nat} {X Y : Nat → Prop} {s t : Sh} (h : TwoX w B X qs qt s t) (hY : ∀ k, Y k → X k) : TwoX w B Y qs qt s t := by
  obtain ⟨Fs, Ft, h1, h2, h3, h4, h5⟩ := h
  exact ⟨Fs, Ft, h1, h2, h3, h4, fun k hk => h5 k (hY k hk)⟩
/-- what has been made since is neither's -/
theorem TwoX.made {w w' : World} {B qs qt : Nat} {X : Nat → Prop} {s t : Sh} (h : TwoX w B X qs qt s t) (hb : Below w.heap.size w w') : TwoX w' B (fun k => X k ∨ (w.heap.size ≤ k ∧ k < w'.heap.size)) qs qt s t := by
  obtain ⟨Fs, Ft, h1, h2, h3, h4, h5⟩ := h
  refine ⟨Fs, Ft, h1.below hb, h2.below hb, h3, h4, fun k hk => ?_⟩
  have := hb.size
  rcases hk with hk | ⟨a, b⟩
  · obtain ⟨p, q, r⟩ := h5 k hk
    exact ⟨by omega, q, r⟩
  · exact ⟨b, fun x => by have := h1.lt k x; omega, fun x => by have := h2.lt k x; omega⟩
theorem TwoX.only {w w' : World} {B qs qt : Nat} {X S : Nat → Prop} {s t : Sh} (h : TwoX w B X qs qt s t) (ho : Only w w' S) (hS : ∀ k, S k → X k) : TwoX w' B X qs qt s t := by
  obtain ⟨Fs, Ft, h1, h2, h3, h4, h5⟩ := h
  exact ⟨Fs, Ft, h1.only ho fun k hk hs => (h5 k (hS k hs)).2.1 hk, h2.only ho fun k hk hs => (h5 k (hS k hs)).2.2 hk, h3, h4, fun k hk => by have := h5 k hk; have := ho.2.2.2.1; exact ⟨by omega, (h5 k hk).2⟩⟩
theorem TwoX.add {w : World} {B qs qt : Nat} {X : Nat → Prop} {s t : Sh} (h : TwoX w B X qs qt s t) (h1 : Sh1 s) (hB : B ≤ w.heap.size) (a b : Int) (d : List Pt) (A : Option Addr) (n c : Nat) (hd : RdP w w.heap.size A n c d) :
    Calls Try.prog 21 #[.pointer (some ⟨qs, 0, none⟩), .agg #[.int .i64 a, .int .i64 b, .slice A n c]] w fun e w' => (∃ u : Value, e = .returned u) ∧ TwoX w' B X qs qt (addG s none (a, b, d)) t ∧ Only w w' (fun k => ¬ X k) ∧ Below B w w' := by
  obtain ⟨Fs, Ft, h1', h2, h3, h4, h5⟩ := h
  refine (sadd_M qs s none Fs a b d A n c w h1' h1.hg (by rw [h1.a0]; exact Nat.zero_le _) h1.look (fun h => by simp [whM] at h) hd).mono ?_
  rintro e w' ⟨rfl, hm, ho⟩
  refine ⟨⟨_, rfl⟩, ⟨_, Ft, hm, h2.only ho (fun k hk hs => h3 k hs hk), fun k hk hf => ?_, fun k hk => ?_, fun k hk => ?_⟩, ho.mono (fun k _ hf hx => (h5 k hx).2.1 hf), ho.below hB h4⟩
  · rcases hk with hk | hk
    · exact h3 k hk hf
    · have := h2.lt k hf; omega
  · rcases hk with hk | hk
    · exact h4 k hk
    · omega
  · obtain ⟨p, q, r⟩ := h5 k hk
    have := ho.2.2.2.1
    refine ⟨by omega, ?_, r⟩
    rintro (x | x)
    · exact q x
    · omega
theorem TwoX.revs {w : World} {B qs qt : Nat} {X : Nat → Prop} {s t : Sh} (h : TwoX w B X qs qt s t) (h1 : Sh1 s) (h0 : s.log.base = 0) :
    Calls Try.prog 30 #[.pointer (some ⟨qs, 0, none⟩), .int .i64 0] w fun e w' => ∃ (sl' : Sl) (ss : List Sl), e = .returned (.tuple #[.slice sl'.1 sl'.2.1 sl'.2.2, .int .i64 0]) ∧ OwnV w' w.heap.size (.slice sl'.1 sl'.2.1 sl'.2.2) ss s.log.revs ∧ Below w.heap.size w w' := by
  obtain ⟨Fs, Ft, h1', h2, h3, h4, h5⟩ := h
  exact srevs_M qs s none Fs 0 0 w h1' h1.hg (by rw [h0]; rfl) (Nat.zero_le _)
theorem TwoX.swap {w : World} {B qs qt : Nat} {X : Nat → Prop} {s t : Sh} (h : TwoX w B X qs qt s t) : ∃ B', TwoX w B' X qt qs t s := by
  obtain ⟨Fs, Ft, h1, h2, h3, h4, h5⟩ := h
  exact ⟨0, Ft, Fs, h2, h1, fun k a b => h3 k b a, fun k _ => Nat.zero_le _, fun k hk => ⟨(h5 k hk).1, (h5 k hk).2.2, (h5 k hk).2.1⟩⟩
theorem TwoX.disk {w : World} {B qs qt : Nat} {X : Nat → Prop} {s t : Sh} (h : TwoX w B X qs qt s t) :
    Calls Try.prog 28 #[.pointer (some ⟨qs, 0, none⟩)] w fun e w' => e = .returned (dvl s.d0 s.d1) ∧ Below w.heap.size w w' := by
  obtain ⟨Fs, Ft, h1', h2, h3, h4, h5⟩ := h
  exact sdisk_M qs s none Fs w h1'
theorem fill_a : nextE shN.log shN.text.size (1, 1, [(2, 0, ⟨#[97]⟩)]) = 0 := by decide
theorem fill_ah : (fillS shN [(1, 1, [(2, 0, ⟨#[97]⟩)])]).log.base + ((fillS shN [(1, 1, [(2, 0, ⟨#[97]⟩)])]).log.revs.length : Int) = 1 := by
  simp only [fillS]
  rw [if_pos fill_a]
  rfl
end Go.Proofs.Ytmnnaemcjmiplaa
namespace Go.Proofs.Ytmnnaemcjmiplaa
open Go.ChangeShapes Go.WideShapes Go.RowKit
set_option linter.unusedVariables false
set_option linter.unusedSimpArgs false
set_option maxRecDepth 100000
set_option maxHeartbeats 4000000

/-- an archive in memory, all of whose blocks lie from B on; g: its log's generation -/
def ShB (w : World) (B q : Nat) (s : Sh) (m : Option Mv) (g : Nat) : Prop := ∃ (b : Nat) (tN : List (Nat × Nat)), ShG w (fun k => B ≤ k ∧ k < w.heap.size) q s m g b tN
section
variable {w w' : World} {B q g : Nat} {s : Sh} {m : Option Mv}
theorem ShB.below (h : ShB w B q s m g) (hb : Below w.heap.size w w') : ShB w' B q s m g := by
  obtain ⟨b, tN, h⟩ := h
  have hs := hb.size
  exact ⟨b, tN, (h.mem.below hb).mono (fun k hk => ⟨hk.1, by omega⟩) (fun k hk => hk.2), h.inv⟩
theorem ShB.of {F : Nat → Prop} {b : Nat} {tN : List (Nat × Nat)} (h : ShG w' F q s m g b tN) (hF : ∀ k, F k → B ≤ k) : ShB w' B q s m g :=
  ⟨b, tN, h.mem.mono (fun k hk => ⟨hF k hk, h.mem.lt k hk⟩) (fun k hk => hk.2), h.inv⟩
theorem ShB.grown {b : Nat} {tN : List (Nat × Nat)} (hB : B ≤ w.heap.size) (h : ShG w' (grow (fun k => B ≤ k ∧ k < w.heap.size) w w') q s m g b tN) : ShB w' B q s m g :=
  ShB.of h fun k hk => by
    rcases hk with hk | hk
    · exact hk.1
    · omega
theorem ShB.hg (h : ShB w B q s m g) : Hg s.log s.text := by obtain ⟨b, tN, h⟩ := h; exact h.inv.log.hg
theorem ShB.base (h : ShB w B q s m g) {B' : Nat} (hB : B' ≤ B) : ShB w B' q s m g := by
  obtain ⟨b, tN, h⟩ := h
  exact ShB.of h fun k hk => by omega
/-- what does not touch its blocks -/
theorem ShB.only {S : Nat → Prop} (h : ShB w B q s m g) (ho : Only w w' S) (hS : ∀ k, S k → ¬ (B ≤ k ∧ k < w.heap.size)) : ShB w' B q s m g := by
  obtain ⟨b, tN, h⟩ := h
  exact ShB.of ⟨h.mem.only ho (fun k hk hs => hS k hs hk), h.inv⟩ fun k hk => hk.1
end
/-- what a step makes of an archive -/
def StepB (s : Sh) (m : Option Mv) (g : Nat) (s' : Sh) (m' : Option Mv) (g' : Nat) : Prop :=
  (m = none ∧ s.old = true ∧ m' = none ∧ s'.old = false ∧ s'.log = s.log ∧ s'.text = s.text ∧ s'.safe = s.safe ∧ g' = g) ∨
  (∃ fl cp wh, m = some (fl, cp, wh) ∧ s'.log = s.log ∧ s'.text = s.text ∧ s'.safe = s.safe ∧ s'.old = false ∧ g' = g ∧
    ((cp = -1 ∧ wh = false ∧ m' = some (fl, 0, false)) ∨ (0 ≤ cp ∧ cp + 1 ≤ 64 ∧ wh = false ∧ m' = some (fl, cp + 1, false)) ∨ (0 ≤ cp ∧ cp ≤ 64 ∧ wh = false ∧ m' = some (fl, cp, true)))) ∨
  (∃ fl cp, ∃ k : Nat, m = some (fl, cp, true) ∧ 0 ≤ cp ∧ cp ≤ 64 ∧ fl = s.log.base + (k : Int) ∧ k ≤ s.log.revs.length ∧ m' = none ∧ s'.old = true ∧ s'.log.base = fl ∧ s'.log.text = txt s.log.text s.log.revs k ∧ s'.log.revs = s.log.revs.drop k ∧ s'.log.table = s.log.table ∧ s'.text = s.text ∧ s'.safe = s'.log.base + (s'.log.revs.length : Int) ∧ g' = g + 1)
theorem sstepno_B (q : Nat) (s : Sh) (B g : Nat) (w : World) (h : ShB w B q s none g) (ho : s.old = false) :
    Calls Try.prog 26 #[.pointer (some ⟨q, 0, none⟩)] w fun e w' => e = .returned (.bool false) ∧ Below w.heap.size w w' := by
  obtain ⟨b, tN, h⟩ := h
  exact sstep_no q s _ g b tN w h ho
theorem sstep_B (q : Nat) (s : Sh) (m : Option Mv) (B g : Nat) (w : World) (h : ShB w B q s m g) (hB : B ≤ w.heap.size) (hg2 : g + 2 ≤ 2147483647) (hgo : m ≠ none ∨ s.old = true) :
    Calls Try.prog 26 #[.pointer (some ⟨q, 0, none⟩)] w fun e w' => e = .returned (.bool true) ∧ ∃ s' m' g', ShB w' B q s' m' g' ∧ Below B w w' ∧ StepB s m g s' m' g' := by
  obtain ⟨b, tN, h⟩ := h
  refine (sstep_M q s m _ g b tN w h hg2 hgo).mono ?_
  rintro e w' ⟨rfl, s', m', g', b', tN', h', oo, hr⟩
  refine ⟨rfl, s', m', g', ShB.grown hB h', oo.below hB (fun k hk => hk.1), ?_⟩
  rcases hr with ⟨a1, a2, a3, a4, a5, a6, a7, a8, a9⟩ | ⟨fl, cp, wh, a1, a2, a3, a4, a5, a6, a7, a8⟩ | ⟨fl, cp, k, good, a1, a2, a3, a4, a5, a6, a7, a8, a9, a10, a11, a12⟩
  · exact .inl ⟨a1, a2, a3, a4, a5, a6, a7, a8⟩
  · exact .inr (.inl ⟨fl, cp, wh, a1, a2, a3, a4, a5, a6, a8⟩)
  · refine .inr (.inr ⟨fl, cp, k, a1, a2, a3, by rw [h.inv.log.eb]; exact a4, a5, a6, a7, ?_, ?_, ?_, ?_, a9, a10, a11⟩)
    · rw [a8, a4]
      show ((b + k : Nat) : Int) = _
      omega
    · rw [a8]; rfl
    · rw [a8]; rfl
    · rw [a8]; exact h.inv.log.move_tb k a5 good
theorem skeep_B (q : Nat) (s : Sh) (B g : Nat) (r : Int) (k : Nat) (w : World) (h : ShB w B q s none g) (hB : B ≤ w.heap.size) (ho : s.old = false) (hrk : r = s.log.base + (k : Int)) (hk : k ≤ s.log.revs.length) :
    Calls Try.prog 24 #[.pointer (some ⟨q, 0, none⟩), .int .i64 r] w fun e w' => e = .returned (.int .i64 0) ∧ ShB w' B q s (some (r, -1, false)) g ∧ Below B w w' := by
  obtain ⟨b, tN, h⟩ := h
  refine (skeep_M q s _ g b tN r k w h ho hrk hk).mono ?_
  rintro e w' ⟨rfl, h', oo⟩
  exact ⟨rfl, ShB.grown hB h', oo.below hB (fun k hk => hk.1)⟩
theorem skeepno_B (q : Nat) (s : Sh) (B g : Nat) (r : Int) (w : World) (h : ShB w B q s none g) (ho : s.old = false) (he : thE s.log r ≠ 0) :
    Calls Try.prog 24 #[.pointer (some ⟨q, 0, none⟩), .int .i64 r] w fun e w' => e = .returned (.int .i64 (thE s.log r)) ∧ Below w.heap.size w w' := by
  obtain ⟨b, tN, h⟩ := h
  exact skeepno_M q s _ g b tN r w h ho he
theorem skeepbusy_B (q : Nat) (s : Sh) (m : Option Mv) (B g : Nat) (r : Int) (w : World) (h : ShB w B q s m g) (hb : m ≠ none ∨ s.old = true) :
    Calls Try.prog 24 #[.pointer (some ⟨q, 0, none⟩), .int .i64 r] w fun e w' => e = .returned (.int .i64 13) ∧ Below w.heap.size w w' := by
  obtain ⟨b, tN, h⟩ := h
  exact skeepbusy_M q s m _ g b tN r w h hb
theorem sadd_B (q : Nat) (s : Sh) (m : Option Mv) (B g : Nat) (a c : Int) (d : List Pt) (A : Option Addr) (n cc : Nat) (w : World) (h : ShB w B q s m g) (hB : B ≤ w.heap.size) (hd : RdP w w.heap.size A n cc d) :
    Calls Try.prog 21 #[.pointer (some ⟨q, 0, none⟩), .agg #[.int .i64 a, .int .i64 c, .slice A n cc]] w fun e w' =>
      e = .returned (.tuple #[.int .i64 (if nextE s.log s.text.size (a, c, d) = 0 then s.log.base + (s.log.revs.length + 1 : Nat) else 0), .int .i64 (nextE s.log s.text.size (a, c, d))]) ∧ ShB w' B q (addG s m (a, c, d)) m g ∧ Below B w w' := by
  obtain ⟨b, tN, h⟩ := h
  refine (sadd_G q s m _ g b tN a c d A n cc w h hd).mono ?_
  rintro e w' ⟨rfl, h', oo⟩
  exact ⟨rfl, ShB.grown hB h', oo.below hB (fun k hk => hk.1)⟩
theorem stext_B (q : Nat) (s : Sh) (m : Option Mv) (B g : Nat) (r : Int) (k : Nat) (w : World) (h : ShB w B q s m g) (hrk : r = s.log.base + k) (hkl : k ≤ s.log.revs.length) :
    Calls Try.prog 27 #[.pointer (some ⟨q, 0, none⟩), .int .i64 r] w fun e w' => e = .returned (.tuple #[.string (txt s.log.text s.log.revs k), .int .i64 0]) ∧ Below w.heap.size w w' := by
  have hg := h.hg
  obtain ⟨b, tN, h⟩ := h
  exact stext_M q s m _ r k w h.mem hg hrk hkl
theorem stextno_B (q : Nat) (s : Sh) (m : Option Mv) (B g : Nat) (r : Int) (w : World) (h : ShB w B q s m g) (he : thE s.log r ≠ 0) :
    Calls Try.prog 27 #[.pointer (some ⟨q, 0, none⟩), .int .i64 r] w fun e w' => e = .returned (.tuple #[.string ⟨#[]⟩, .int .i64 (thE s.log r)]) ∧ Below w.heap.size w w' := by
  have hg := h.hg
  obtain ⟨b, tN, h⟩ := h
  exact stextno_M q s m _ r w h.mem hg he
theorem shead_B (q : Nat) (s : Sh) (m : Option Mv) (B g : Nat) (w : World) (h : ShB w B q s m g) :
    Calls Try.prog 19 #[.pointer (some ⟨q, 0, none⟩)] w fun e w' => e = .returned (.int .i64 (s.log.base + s.log.revs.length)) ∧ Below w.heap.size w w' := by
  have hg := h.hg
  obtain ⟨b, tN, h⟩ := h
  exact shead_M q s m _ w h.mem hg
theorem sbase_B (q : Nat) (s : Sh) (m : Option Mv) (B g : Nat) (w : World) (h : ShB w B q s m g) :
    Calls Try.prog 25 #[.pointer (some ⟨q, 0, none⟩)] w fun e w' => e = .returned (.int .i64 s.log.base) ∧ Below w.heap.size w w' := by
  have hg := h.hg
  obtain ⟨b, tN, h⟩ := h
  obtain ⟨sl, ss, mp, hk, hv, hr, hs, hm⟩ := h.mem.ex
  exact sbase_any q s sl mp w hk hg.l8
theorem srevs_B (q : Nat) (s : Sh) (m : Option Mv) (B g : Nat) (r : Int) (k : Nat) (w : World) (h : ShB w B q s m g) (hrk : r = s.log.base + k) (hkl : k ≤ s.log.revs.length) :
    Calls Try.prog 30 #[.pointer (some ⟨q, 0, none⟩), .int .i64 r] w fun e w' => ∃ (sl' : Sl) (ss : List Sl), e = .returned (.tuple #[.slice sl'.1 sl'.2.1 sl'.2.2, .int .i64 0]) ∧ OwnV w' w.heap.size (.slice sl'.1 sl'.2.1 sl'.2.2) ss (s.log.revs.drop k) ∧ Below w.heap.size w w' := by
  have hg := h.hg
  obtain ⟨b, tN, h⟩ := h
  exact srevs_M q s m _ r k w h.mem hg hrk hkl
theorem sdisk_B (q : Nat) (s : Sh) (m : Option Mv) (B g : Nat) (w : World) (h : ShB w B q s m g) :
    Calls Try.prog 28 #[.pointer (some ⟨q, 0, none⟩)] w fun e w' => e = .returned (dvl s.d0 s.d1) ∧ Below w.heap.size w w' := by
  obtain ⟨b, tN, h⟩ := h
  exact sdisk_M q s m _ w h.mem
theorem snew_B (w : World) :
    Calls Try.prog 20 #[] w fun e w' => ∃ q, e = .returned (.pointer (some ⟨q, 0, none⟩)) ∧ ShB w' w.heap.size q shN none 1 ∧ Below w.heap.size w w' := by
  refine (snew_any w).mono ?_
  rintro e w' ⟨q, rfl, hq, hk, hb⟩
  exact ⟨q, rfl, ShB.of ⟨ShM.new hq hk, ShI.new⟩ (fun k hk => hk.1), hb⟩
/-- as far as it may be added -/
theorem fillS_inv : ∀ (l : List Rv) (s : Sh), ShI s none 1 0 tz → ShI (fillS s l) none 1 0 tz
  | [], s, h => h
  | r :: l, s, h => by
    unfold fillS
    apply fillS_inv l
    have := h.add r
    rw [addG_none] at this
    exact this
theorem fillS_old : ∀ (l : List Rv) (s : Sh), (fillS s l).old = s.old
  | [], s => rfl
  | r :: l, s => by
    unfold fillS
    rw [fillS_old l]
    split <;> rfl
theorem fillS_safe : ∀ (l : List Rv) (s : Sh), (fillS s l).safe = s.safe
  | [], s => rfl
  | r :: l, s => by
    unfold fillS
    rw [fillS_safe l]
    split <;> rfl
theorem filled_B (l : List Rv) (A : Option Addr) (n c : Nat) (w : World) (h : RdR w w.heap.size A n c l) :
    Calls Try.prog 15 #[.slice A n c] w fun e w' => ∃ q, e = .returned (.pointer (some ⟨q, 0, none⟩)) ∧ ShB w' w.heap.size q (fillS shN l) none 1 ∧ Below w.heap.size w w' := by
  refine (filledS_any l A n c w h).mono ?_
  rintro e w' ⟨q, rfl, hm, hb⟩
  exact ⟨q, rfl, ShB.of ⟨hm.toM, fillS_inv l shN ShI.new⟩ (fun k hk => hk.1), hb⟩
end Go.Proofs.Ytmnnaemcjmiplaa
namespace Go.Proofs.Ytmnnaemcjmiplaa
open Go.ChangeShapes Go.WideShapes Go.RowKit
set_option linter.unusedVariables false
set_option linter.unusedSimpArgs false
set_option maxRecDepth 100000
set_option maxHeartbeats 4000000

theorem ssync_G (q : Nat) (s : Sh) (m : Option Mv) (F : Nat → Prop) (g b : Nat) (tN : List (Nat × Nat)) (w : World) (h : ShG w F q s m g b tN) :
    Calls Try.prog 23 #[.pointer (some ⟨q, 0, none⟩)] w fun e w' => e = .returned (.tuple #[]) ∧ ShG w' (grow F w w') q (syncG s m) m g b tN ∧ Only w w' F := by
  obtain ⟨hM, hI⟩ := h
  obtain ⟨sl, ss, mp, hk, hv, hr, hs, hm⟩ := hM.ex
  have hR : ShR w q s sl ss mp := ⟨hk, hv⟩
  have h8 := hI.log.hg.l8
  have hb0 := hI.log.hg.base0
  have hb1 := hI.log.hg.base1
  have hlen := hI.log.len
  have ha := hI.at1
  have hl := hI.look s.at_ ha
  have fin : ∀ (w' : World) (s' : Sh), s' = syncG s m → ShR w' q s' sl ss mp → Only w w' (fun k => k = q) → MvM w' F m mp → ShG w' (grow F w w') q (syncG s m) m g b tN ∧ Only w w' F := by
    intro w' s' e hR' oo hm'
    subst e
    exact ⟨⟨ShM.back hM.fq hM.lt hr hs oo.2.2.2.1 hR' (hm'.mono fun k hk => .inl hk), hI.sync⟩, oo.mono fun k _ e => e ▸ hM.fq⟩
  cases m with
  | none =>
    obtain rfl : mp = none := hm
    refine (ssync_none q s sl ss w hR h8 ha hb0 hb1 hlen hl).mono ?_
    rintro e w' ⟨rfl, hR', oo⟩
    exact ⟨rfl, fin w' _ rfl hR' oo rfl⟩
  | some v =>
    obtain ⟨fl, cp, wh⟩ := v
    obtain ⟨gm, em, hfg, hkg⟩ := hm
    subst em
    obtain ⟨-, k, e1, -⟩ := hI.oth
    obtain rfl : fl = ((b + k : Nat) : Int) := by omega
    cases wh with
    | false =>
      refine (ssync_no q s sl ss gm (b + k) cp w hR hkg h8 ha hb0 hb1 hlen hl).mono ?_
      rintro e w' ⟨rfl, hR', oo⟩
      exact ⟨rfl, fin w' _ rfl hR' oo ⟨gm, rfl, hfg, hkg.only oo (Blk.ne_ hkg hk (by decide))⟩⟩
    | true =>
      have hl2 : dlook (syncSh s ((1 - s.at_ : Nat) : Int)).d0 (syncSh s ((1 - s.at_ : Nat) : Int)).d1 (s.at_ : Int) = 0 := by
        have key : ∀ j, j ≤ 1 → SzI (slotOf (syncSh s ((1 - s.at_ : Nat) : Int)) j) := fun j hj => by
          rw [slot_syn s (1 - s.at_) j (by omega) hj]
          split
          · have := hI.sz (1 - s.at_) (by omega)
            exact ⟨this.1, by simp only; omega, Int.le_refl _⟩
          · exact hI.sz j hj
        exact look_of (key 0 (by omega)) (key 1 (by omega)) _ ha
      refine (ssync_yes q s sl ss gm (b + k) cp w hR hkg h8 ha hb0 hb1 hlen hl (hI.look (1 - s.at_) (by omega)) hl2).mono ?_
      rintro e w' ⟨rfl, hR', oo⟩
      exact ⟨rfl, fin w' _ rfl hR' oo ⟨gm, rfl, hfg, hkg.only oo (Blk.ne_ hkg hk (by decide))⟩⟩
theorem ssync_B (q : Nat) (s : Sh) (m : Option Mv) (B g : Nat) (w : World) (h : ShB w B q s m g) (hB : B ≤ w.heap.size) :
    Calls Try.prog 23 #[.pointer (some ⟨q, 0, none⟩)] w fun e w' => e = .returned (.tuple #[]) ∧ ShB w' B q (syncG s m) m g ∧ Below B w w' := by
  obtain ⟨b, tN, h⟩ := h
  refine (ssync_G q s m _ g b tN w h).mono ?_
  rintro e w' ⟨rfl, h', oo⟩
  exact ⟨rfl, ShB.grown hB h', oo.below hB (fun k hk => hk.1)⟩
theorem ssafe_B (q : Nat) (s : Sh) (m : Option Mv) (B g : Nat) (w : World) (h : ShB w B q s m g) :
    Calls Try.prog 17 #[.pointer (some ⟨q, 0, none⟩)] w fun e w' => e = .returned (.int .i64 s.safe) ∧ Below w.heap.size w w' := by
  have hg := h.hg
  obtain ⟨b, tN, h⟩ := h
  obtain ⟨sl, ss, mp, hk, hv, hr, hs, hm⟩ := h.mem.ex
  exact ssafe_any q s sl mp w hk hg.l8
theorem slastno_B (q : Nat) (s : Sh) (m : Option Mv) (B g : Nat) (a : Int) (w : World) (h : ShB w B q s m g) (ha : a < 0 ∨ 7 < a) :
    Calls Try.prog 29 #[.pointer (some ⟨q, 0, none⟩), .int .i64 a] w fun e w' => e = .returned (.tuple #[.agg #[.int .i64 0, .int .i64 0], .int .i64 1]) ∧ Below w.heap.size w w' := by
  obtain ⟨b, tN, h⟩ := h
  obtain ⟨sl, ss, mp, hk, hv, hr, hs, hm⟩ := h.mem.ex
  exact slast_bad q s sl mp a w hk ha
theorem slast_B (q : Nat) (s : Sh) (m : Option Mv) (B g : Nat) (x : Nat) (w : World) (h : ShB w B q s m g) (hx : x < 8) :
    Calls Try.prog 29 #[.pointer (some ⟨q, 0, none⟩), .int .i64 x] w fun e w' => e = .returned (.tuple #[.agg #[.int .i64 (s.log.table.getD x (0, 0)).1, .int .i64 (s.log.table.getD x (0, 0)).2], .int .i64 0]) ∧ Below w.heap.size w w' := by
  have hg := h.hg
  obtain ⟨b, tN, h⟩ := h
  obtain ⟨sl, ss, mp, hk, hv, hr, hs, hm⟩ := h.mem.ex
  have := slast_good q s sl mp x w hk hg.l8 hx
  rw [show s.log.table.getD x (0, 0) = s.log.table[x]'(by have := hg.l8.2; omega) from by rw [List.getD_eq_getElem?_getD, List.getElem?_eq_getElem (by have := hg.l8.2; omega)]; rfl]
  exact this
end Go.Proofs.Ytmnnaemcjmiplaa
namespace Go.Proofs.Ytmnnaemcjmiplaa
open Go.ChangeShapes Go.WideShapes Go.RowKit
set_option linter.unusedVariables false
set_option linter.unusedSimpArgs false
set_option maxRecDepth 100000
set_option maxHeartbeats 4000000

def muM (cp : Int) (wh : Bool) : Nat := if wh = true then 2 else if cp < 0 then 100 else 70 - cp.toNat
def muS (s : Sh) (m : Option Mv) : Nat :=
  match m with
  | none => if s.old = true then 1 else 0
  | some v => muM v.2.1 v.2.2
def muW (w : World) (q : Nat) : Nat :=
  match w.cell? ⟨q, 45, none⟩ with
  | some (.pointer (some p)) => match w.cell? ⟨p.block, 1, none⟩, w.cell? ⟨p.block, 2, none⟩ with
    | some (.int _ c), some (.bool wh) => muM c wh
    | _, _ => 0
  | _ => match w.cell? ⟨q, 46, none⟩ with
    | some (.bool b) => if b = true then 1 else 0
    | _ => 0
theorem ShB.mu {w : World} {B q g : Nat} {s : Sh} {m : Option Mv} (h : ShB w B q s m g) : muW w q = muS s m := by
  have h8 := h.hg.l8
  obtain ⟨b, tN, h⟩ := h
  obtain ⟨sl, ss, mp, hk, hv, hr, hs, hm⟩ := h.mem.ex
  have c45 := hk.cell 45
  rw [shc_mv h8] at c45
  have c46 := hk.cell 46
  rw [shc_old h8] at c46
  unfold muW
  rw [c45]
  cases m with
  | none =>
    obtain rfl : mp = none := hm
    simp only
    rw [c46]
    rfl
  | some v =>
    obtain ⟨gm, e, _, hkg⟩ := hm
    subst e
    have m1 := hkg.cell 1
    have m2 := hkg.cell 2
    simp only
    rw [m1, m2]
    rfl
theorem StepB.mu {s s' : Sh} {m m' : Option Mv} {g g' : Nat} (h : StepB s m g s' m' g') : muS s' m' < muS s m := by
  rcases h with ⟨rfl, a2, rfl, a4, _⟩ | ⟨fl, cp, wh, rfl, _, _, _, _, _, h⟩ | ⟨fl, cp, k, rfl, _, _, _, _, rfl, a4, _⟩
  · simp [muS, a2, a4]
  · rcases h with ⟨rfl, rfl, rfl⟩ | ⟨h1, h2, rfl, rfl⟩ | ⟨h1, h2, rfl, rfl⟩
    · simp [muS, muM]
    · simp only [muS, muM]
      rw [if_neg (by simp), if_neg (by omega), if_neg (by simp), if_neg (by omega)]
      omega
    · simp only [muS, muM]
      rw [if_pos trivial, if_neg (by simp), if_neg (by omega)]
      omega
  · simp [muS, muM, a4]
theorem srevs_none (q : Nat) (s : Sh) (sl : Sl) (mp : Option Addr) (r : Int) (w : World) (hk : Blk w q 108 (shc s sl mp)) (h8 : Lg8 s.log) (hsl : sl.2.1 = s.log.revs.length) (hb0 : 0 ≤ s.log.base) (hb1 : s.log.base ≤ 2147483647) (hr : s.log.revs.length ≤ 1000) (he : thE s.log r ≠ 0) :
    Calls Try.prog 30 #[.pointer (some ⟨q, 0, none⟩), .int .i64 r] w fun e w' => e = .returned (.tuple #[.slice none 0 0, .int .i64 (thE s.log r)]) ∧ Below w.heap.size w w' := by
  have hc : Calls Try.prog 71 #[.pointer (some ⟨q, 0, none⟩), .int .i64 r] w fun e w' => e = .returned (.int .i64 (thE s.log r)) ∧ Below w.heap.size w w' := there_any q s sl mp r w hk h8 hsl hb0 hb1 hr
  obtain ⟨E, hE⟩ : ∃ E, thE s.log r = E := ⟨_, rfl⟩
  rw [hE] at hc he ⊢
  have hEn : (E != 0) = true := by simpa using he
  have Hc := Lib.hid hc
  clear hc hE he hk h8 hsl hb0 hb1 hr
  go_enter Try.func30, Try.ntmps30
  go_wp2_with fail
  refine Hc.out.mono ?_
  rintro e w1 ⟨rfl, hb⟩
  go_wp2_with fail
  go_ret2
  exact ⟨rfl, hb⟩
theorem srevsno_B (q : Nat) (s : Sh) (m : Option Mv) (B g : Nat) (r : Int) (w : World) (h : ShB w B q s m g) (he : thE s.log r ≠ 0) :
    Calls Try.prog 30 #[.pointer (some ⟨q, 0, none⟩), .int .i64 r] w fun e w' => e = .returned (.tuple #[.slice none 0 0, .int .i64 (thE s.log r)]) ∧ Below w.heap.size w w' := by
  have hg := h.hg
  obtain ⟨b, tN, h⟩ := h
  obtain ⟨sl, ss, mp, hk, hv, hr, hs, hm⟩ := h.mem.ex
  have hsl : sl.2.1 = s.log.revs.length := by obtain ⟨A9, c9, e9⟩ := hv.form; injection e9
  exact srevs_none q s sl mp r w hk hg.l8 hsl hg.base0 hg.base1 (by have := hg.len; omega) he
end Go.Proofs.Ytmnnaemcjmiplaa
namespace Go.Proofs.Ytmnnaemcjmiplaa
open Go.ChangeShapes Go.WideShapes Go.RowKit
set_option linter.unusedVariables false
set_option linter.unusedSimpArgs false
set_option maxRecDepth 100000
set_option maxHeartbeats 4000000

end Go.Proofs.Ytmnnaemcjmiplaa
namespace Go.Proofs.Ytmnnaemcjmiplaa
open Go.ChangeShapes Go.WideShapes Go.RowKit
set_option linter.unusedVariables false
set_option linter.unusedSimpArgs false
set_option maxRecDepth 100000
set_option maxHeartbeats 4000000

theorem meet_rdn (a b : List Pt) (A A' : Option Addr) (n n' c c' : Nat) (w : World) (h : RdP w w.heap.size A n c a) (h' : RdP w w.heap.size A' n' c' b) (z : Int) (x y : List Pt) (hz : meetE a b = z) (hx : meetC a b = x) (hy : meetD a b = y) :
    Calls Try.prog 76 #[.slice A n c, .slice A' n' c'] w fun e w' => ∃ A1 n1 c1 A2 n2 c2, e = .returned (.tuple #[.slice A1 n1 c1, .slice A2 n2 c2, .int .i64 z]) ∧
      RdP w' w'.heap.size A1 n1 c1 x ∧ RdP w' w'.heap.size A2 n2 c2 y ∧ Below w.heap.size w w' := by
  subst hz; subst hx; subst hy
  refine (meet_rd a b A A' n n' c c' w h h').mono ?_
  rintro e w' ⟨A1, c1, A2, c2, rfl, h1, h2, hb⟩
  exact ⟨_, _, _, _, _, _, rfl, h1, h2, hb⟩
end Go.Proofs.Ytmnnaemcjmiplaa
