/- Frames, plainly: what is put is got, whatever stands behind; cut short it is told; what is got is put as it was; what is turned within 32 bits behind the length is told. Arguments opened; what the bound on the bulk gives. Slices of parts, opened. Rows of frames; frame.Scan. Contract of frame.Scan, and of frame.Put for any frame. What hot.Read makes of a slot's frames (pure). -/
import Derived.Test.YtmnnaemcjmiplaaK17
import Derived.Test.YtmnnaemcjmiplaaK1
import Derived.Lib.SmallJoins
import Derived.Test.YtmnnaemcjmiplaaK3
import Derived.Deep.Slices
import Derived.Deep.Fields
import Derived.ChangeSame
import Derived.Test.YtmnnaemcjmiplaaK16
namespace Go.Proofs.Ytmnnaemcjmiplaa
set_option linter.unusedVariables false
set_option linter.unusedSimpArgs false
set_option maxRecDepth 100000

theorem fourL_len (x : Nat) : (fourL x).length = 4 := rfl
theorem frH_len (k : Nat) (b : List UInt8) : (frH k b).length = b.length + 3 := by simp [frH]
theorem frL_len (k : Nat) (b : List UInt8) : (frL k b).length = b.length + 7 := by
  rw [frL, List.length_append, frH_len, fourL_len]
theorem frL_zero : frL 3 [] = [3, 0, 0, 9, 99, 74, 138] := by decide +kernel
theorem frL_z : frL 9 [122] = [9, 0, 1, 122, 219, 102, 190, 106] := by decide +kernel

theorem gf_frL (k : Nat) (b more : List UInt8) (h1 : 1 ≤ k) (h2 : k ≤ 255) (h3 : b.length ≤ 4000) : gf (frL k b ++ more) = (k, b, b.length + 7, 0) := by
  have e0 : ((frL k b ++ more).headD 0).toNat = k := by
    show (UInt8.ofNat k).toNat = k
    rw [mod_of]; omega
  have e1 : ((frL k b ++ more).getD 1 0).toNat * 256 + ((frL k b ++ more).getD 2 0).toNat = b.length := by
    show (UInt8.ofNat (b.length / 256)).toNat * 256 + (UInt8.ofNat b.length).toNat = b.length
    rw [mod_of, mod_of]; omega
  have e2 : (frL k b ++ more).take (b.length + 3) = frH k b := by
    rw [frL, List.append_assoc, ← frH_len k b, List.take_left']; rfl
  have e3 : ((frL k b ++ more).drop (b.length + 3)).take 4 = fourL (crcL (frH k b)).toNat := by
    rw [frL, List.append_assoc, ← frH_len k b, List.drop_left' rfl]; rfl
  have e4 : ((frL k b ++ more).drop 3).take b.length = b := by
    show (b ++ fourL (crcL (frH k b)).toNat ++ more).take b.length = b
    rw [List.append_assoc, List.take_left' rfl]
  have hl : (frL k b ++ more).length = b.length + 7 + more.length := by rw [List.length_append, frL_len]
  unfold gf
  rw [e1, e0, e2, e3, e4, if_neg (by omega), if_neg (by omega), if_neg (by omega), if_neg (by simp)]
theorem gf_cut (k : Nat) (b : List UInt8) (j : Nat) (h1 : 1 ≤ k) (h2 : k ≤ 255) (h3 : b.length ≤ 4000) (hj : j < (frL k b).length) : gf ((frL k b).take j) = (0, [], 0, 5) := by
  have hl : ((frL k b).take j).length = j := by rw [List.length_take]; omega
  rw [frL_len] at hj
  unfold gf
  rw [hl]
  by_cases h7 : j < 7
  · rw [if_pos h7]
  · obtain ⟨i, rfl⟩ : ∃ i, j = i + 3 := ⟨j - 3, by omega⟩
    have e0 : (((frL k b).take (i + 3)).headD 0).toNat = k := by
      show (UInt8.ofNat k).toNat = k
      rw [mod_of]; omega
    have e1 : (((frL k b).take (i + 3)).getD 1 0).toNat * 256 + (((frL k b).take (i + 3)).getD 2 0).toNat = b.length := by
      show (UInt8.ofNat (b.length / 256)).toNat * 256 + (UInt8.ofNat b.length).toNat = b.length
      rw [mod_of, mod_of]; omega
    rw [e0, e1, if_neg h7, if_neg (by omega), if_pos (by omega)]
/-- what is got: nothing of it, where something went wrong -/
theorem gf_wrong (l : List UInt8) : (gf l).2.2.2 ≠ 0 → gf l = (0, [], 0, (gf l).2.2.2) := by
  unfold gf
  (repeat' split) <;> simp
theorem gf_le (l : List UInt8) : (gf l).1 ≤ 255 ∧ (gf l).2.1.length ≤ 4000 := by
  unfold gf
  have := (l.headD 0).toNat_lt
  (repeat' split) <;> simp_all
  all_goals omega
theorem ofNat_toNat (c : UInt8) : UInt8.ofNat c.toNat = c := by simp
theorem three (l : List UInt8) (h : 3 ≤ l.length) : l = l.headD 0 :: l.getD 1 0 :: l.getD 2 0 :: l.drop 3 := by
  match l, h with
  | a :: b :: c :: r, _ => rfl
/-- what is got is put as it was -/
theorem frL_gf (l : List UInt8) (h : (gf l).2.2.2 = 0) : 1 ≤ (gf l).1 ∧ (gf l).2.2.1 ≤ l.length ∧ frL (gf l).1 (gf l).2.1 = l.take (gf l).2.2.1 := by
  unfold gf at h ⊢
  split at h
  · simp at h
  split at h
  · simp at h
  split at h
  · simp at h
  split at h
  · simp at h
  rename_i h1 h2 h3 h4
  rw [if_neg h1, if_neg h2, if_neg h3, if_neg h4]
  simp only
  obtain ⟨n, hn⟩ : ∃ n, n = (l.getD 1 0).toNat * 256 + (l.getD 2 0).toNat := ⟨_, rfl⟩
  rw [← hn] at h2 h3 h4 ⊢
  have hb : ((l.drop 3).take n).length = n := by rw [List.length_take, List.length_drop]; omega
  have hc1 := (l.getD 1 0).toNat_lt
  have hc2 := (l.getD 2 0).toNat_lt
  have e : frH (l.headD 0).toNat ((l.drop 3).take n) = l.take (n + 3) := by
    unfold frH
    rw [hb, ofNat_toNat]
    have e1 : UInt8.ofNat (n / 256) = l.getD 1 0 := by
      rw [hn, ← UInt8.toNat_inj, mod_of]; omega
    have e2 : UInt8.ofNat n = l.getD 2 0 := by
      rw [hn, ← UInt8.toNat_inj, mod_of]; omega
    rw [e1, e2]
    conv => rhs; rw [three l (by omega)]
    rfl
  refine ⟨by omega, by omega, ?_⟩
  unfold frL
  rw [e]
  simp only [ne_eq, Decidable.not_not] at h4
  rw [← h4, show n + 7 = (n + 3) + 4 by omega]
  exact (List.take_add ..).symm

theorem val_four (x : Nat) (h : x < 4294967296) : val (fourL x) = x := by
  simp only [fourL, val, mod_of]
  omega
theorem val_append (a : List UInt8) : ∀ b, val (a ++ b) = val a + 256 ^ a.length * val b := by
  induction a with
  | nil => intro b; simp [val]
  | cons c r ih =>
    intro b
    simp only [List.cons_append, val, ih, List.length_cons, Nat.pow_succ]
    rw [Nat.mul_add, Nat.add_assoc]
    congr 1
    rw [Nat.mul_comm (256 ^ r.length) 256, Nat.mul_assoc]
theorem val_lt (a : List UInt8) : val a < 256 ^ a.length := by
  induction a with
  | nil => simp [val]
  | cons c r ih =>
    have := c.toNat_lt
    simp only [val, List.length_cons, Nat.pow_succ]
    omega
/-- a text with its sum behind it comes to one and the same state -/
theorem kb_sum (H : List UInt8) : kb (~~~ 0#32) (val (H ++ fourL (crcL H).toNat)) (8 * (H.length + 4)) = stps 32 (BitVec.allOnes 32) := by
  have hp : 2 ^ (8 * H.length) = 256 ^ H.length := by rw [Nat.pow_mul]
  have hv := val_lt H
  have hpos : 0 < 256 ^ H.length := Nat.pow_pos (by omega)
  rw [show 8 * (H.length + 4) = 8 * H.length + 32 by omega, kb_add, val_append, hp, Nat.add_mul_div_left _ _ hpos, Nat.div_eq_of_lt hv, Nat.zero_add]
  rw [kb_mod (8 * H.length) _ (val H + 256 ^ H.length * val (fourL (crcL H).toNat)) (val H) (by rw [hp]; simp)]
  have hx := (crcL H).isLt
  rw [val_four _ (by omega), kb_word 32 _ _ hx (by omega)]
  congr 1
  have e : BitVec.ofNat 32 (crcL H).toNat = crcL H := by simp
  rw [e, crcL_kb]
  generalize kb (~~~ 0#32) (val H) (8 * H.length) = X
  apply BitVec.eq_of_getLsbD_eq
  intro i hi
  rw [BitVec.getLsbD_xor, BitVec.getLsbD_not, BitVec.getLsbD_allOnes]
  simp [hi]
theorem frame_burst (H l' : List UInt8) (p T m : Nat) (hlen : l'.length = H.length + 4) (h8 : 8 * (H.length + 4) = p + (32 + m)) (hv : val l' = val (H ++ fourL (crcL H).toNat) ^^^ T * 2 ^ p) (hT : T < 2 ^ 32) (h0 : T ≠ 0) :
    l'.drop H.length ≠ fourL (crcL (l'.take H.length)).toNat := by
  intro h
  have e : l' = l'.take H.length ++ fourL (crcL (l'.take H.length)).toNat := by rw [← h, List.take_append_drop]
  have hl : (l'.take H.length).length = H.length := by rw [List.length_take]; omega
  have h1 := kb_sum (l'.take H.length)
  rw [← e, hl, hv] at h1
  have h2 := kb_xor (8 * (H.length + 4)) (~~~ 0#32) 0#32 (val (H ++ fourL (crcL H).toNat)) (T * 2 ^ p)
  rw [BitVec.xor_zero, h1, kb_sum] at h2
  have h3 : kb 0#32 (T * 2 ^ p) (8 * (H.length + 4)) = 0#32 := by
    have := congrArg (stps 32 (BitVec.allOnes 32) ^^^ ·) h2
    simp only [← BitVec.xor_assoc, BitVec.xor_self, BitVec.zero_xor] at this
    exact this.symm
  rw [h8, kb_shift, kb_add, kb_word 32 _ T hT (by omega), Nat.div_eq_of_lt hT, kb_zero] at h3
  refine stps_ne m _ (stps_ne 32 _ ?_) h3
  rw [BitVec.zero_xor]
  intro h4
  have := congrArg BitVec.toNat h4
  simp at this
  omega
theorem gf_burst (k : Nat) (b l' : List UInt8) (p T m : Nat) (h1 : 1 ≤ k) (h2 : k ≤ 255) (h3 : b.length ≤ 4000) (hlen : l'.length = (frL k b).length) (h3' : l'.take 3 = (frL k b).take 3) (h8 : 8 * (b.length + 7) = p + (32 + m))
    (hv : val l' = val (frL k b) ^^^ T * 2 ^ p) (hT : T < 2 ^ 32) (h0 : T ≠ 0) : gf l' = (0, [], 0, 6) := by
  have hne := frame_burst (frH k b) l' p T m (by rw [hlen, frL_len, frH_len]) (by rw [frH_len]; omega) hv hT h0
  rw [frL_len] at hlen
  rw [frH_len] at hne
  match l', hlen, h3' with
  | x :: y :: z :: r, hlen, h3' =>
    have e3 : [x, y, z] = [UInt8.ofNat k, UInt8.ofNat (b.length / 256), UInt8.ofNat b.length] := h3'
    simp only [List.cons.injEq] at e3
    obtain ⟨rfl, rfl, rfl, _⟩ := e3
    have hr : r.length = b.length + 4 := by simpa using hlen
    have e1 : (UInt8.ofNat (b.length / 256)).toNat * 256 + (UInt8.ofNat b.length).toNat = b.length := by rw [mod_of, mod_of]; omega
    have e0 : (UInt8.ofNat k).toNat = k := by rw [mod_of]; omega
    have hd : ∀ (q : List UInt8), q.length = 4 → q.take 4 = q := fun q h => by rw [← h, List.take_length]
    unfold gf
    simp only [List.headD_cons, List.getD_cons_zero, List.getD_cons_succ]
    rw [e1, e0, if_neg (by simp [hr]), if_neg (by omega), if_neg (by simp [hr]), if_pos]
    rw [hd _ (by rw [List.length_drop]; simp [hr])]
    exact hne
end Go.Proofs.Ytmnnaemcjmiplaa
namespace Go.Proofs.Ytmnnaemcjmiplaa
open Go.ChangeShapes Go.WideShapes Go.RowKit Go.Joins
set_option linter.unusedVariables false
set_option linter.unusedSimpArgs false
set_option maxRecDepth 100000

theorem bulk_bound {H : Type} {l g : List (DataW H)} (hk : Rows.uptoSmall H (l ++ g) = true) : Rows.uptoBulkAll (l ++ g) ≤ 1048576 := by
  have := of_decide_eq_true hk
  exact this
theorem bulk_one_le {H : Type} (d : DataW H) : 1 ≤ Rows.uptoBulk d := by
  cases d with
  | lit l => cases l <;> simp [Rows.uptoBulk]
  | nil => simp [Rows.uptoBulk]
  | ptr d => simp [Rows.uptoBulk]
  | slice elems spare => simp [Rows.uptoBulk]
  | agg parts => simp [Rows.uptoBulk]
  | iface t d => simp [Rows.uptoBulk]
  | map entries => simp [Rows.uptoBulk]
  | held h => simp [Rows.uptoBulk]
theorem bulk_mem {H : Type} {d : DataW H} : ∀ {l : List (DataW H)}, d ∈ l → Rows.uptoBulk d ≤ Rows.uptoBulkAll l
  | x :: r, h => by
    simp only [Rows.uptoBulkAll]
    cases List.mem_cons.1 h with
    | inl e => subst e; omega
    | inr e => have := bulk_mem e; omega
theorem bulk_length {H : Type} : ∀ (l : List (DataW H)), l.length ≤ Rows.uptoBulkAll l
  | [] => by simp [Rows.uptoBulkAll]
  | x :: r => by have := bulk_one_le x; have := bulk_length r; simp only [Rows.uptoBulkAll, List.length_cons]; omega
theorem bulk_string {H : Type} {s : ByteArray} {l : List (DataW H)} (h : Rows.uptoBulkAll l ≤ 1048576) (hm : DataW.lit (.string s.data.toList) ∈ l) : s.size ≤ 1048576 := by
  have := bulk_mem hm
  simp only [Rows.uptoBulk, Array.length_toList] at this
  have : s.size = s.data.size := rfl
  omega
theorem bulk_part {H : Type} {d : DataW H} {l : List (DataW H)} (h : Rows.uptoBulkAll l ≤ 1048576) (hm : d ∈ l) : Rows.uptoBulk d ≤ 1048576 := by
  have := bulk_mem hm
  omega

theorem sized_part {H : Type} {P : Program} {ts : List TypeId} {ds : List (DataW H)} (h : (DataW.weightsEach P ts ds).all (· ≤ reachBytes) = true) {j : Nat} {t : TypeId} {d : DataW H} (ht : ts[j]? = some t) (hd : ds[j]? = some d) : ∀ x ∈ DataW.weights P t d, x ≤ 140737488351232 := by
  intro x hx
  have := List.all_eq_true.1 h _ (DataW.weights_mem_each ht hd x hx)
  have h2 : x ≤ reachBytes := by simpa using this
  have h3 : reachBytes = 140737488351232 := by decide
  omega
def IsFrame (v : Value) (x : Int × ByteArray) : Prop := v = .agg #[.int .i64 x.1, .string x.2] ∧ x.2.size ≤ 140737488351232
section
variable {H : Type} {enc : TypeId × Value → H} {w : World} {base : Nat} {spare : Nat → Bool} {held : Bool}
theorem read_frame {r : Reach} {b0 : Nat} {v : Value} {d : DataW H} {p : List MemPlace} (hv : Value.okWide Try.prog w r b0 170 v) (h : DataW.Trod enc Try.prog w base spare held 170 v d p) :
    ∃ (k : Int) (b : ByteArray), v = .agg #[.int .i64 k, .string b] ∧ d = .agg [.lit (.int .i64 k), .lit (.string b.data.toList)] := by
  obtain ⟨v0, v1, y0, y1, n, rfl, rfl, rfl, h0, h1⟩ := open_agg2 Try.underlying170 (by kernel_rfl) (by kernel_rfl) hv h
  obtain ⟨k, e0, rfl, _⟩ := DataW.trod_int Try.underlying3 h0
  obtain ⟨s, e1, rfl, _⟩ := DataW.trod_string Try.underlying9 h1
  simp only [List.cons.injEq, and_true] at e0 e1
  subst e0 e1
  exact ⟨k, s, rfl, rfl⟩
theorem open_frame_upto {r : Reach} {b0 : Nat} {v : Value} {d : DataW H} {p : List MemPlace} (hv : Value.okWide Try.prog w r b0 170 v) (h : DataW.Trod enc Try.prog w base spare held 170 v d p) (_ : ∀ x ∈ p, x.block < w.heap.size)
    (hb : Rows.uptoBulk d ≤ 1048576) : ∃ x, IsFrame v x := by
  obtain ⟨k, b, rfl, rfl⟩ := read_frame hv h
  simp only [Rows.uptoBulk, Rows.uptoBulkAll, Array.length_toList] at hb
  have : b.size = b.data.size := rfl
  exact ⟨(k, b), rfl, by simp only; omega⟩
theorem open_frame_said {r : Reach} {b0 : Nat} {v : Value} {d : DataW H} {p : List MemPlace} (hv : Value.okWide Try.prog w r b0 170 v) (h : DataW.Trod enc Try.prog w base spare held 170 v d p) (_ : ∀ x ∈ p, x.block < w.heap.size)
    (hb : ∀ x ∈ DataW.weights Try.prog 170 d, x ≤ 140737488351232) : ∃ x, IsFrame v x := by
  obtain ⟨k, b, rfl, rfl⟩ := read_frame hv h
  simp [DataW.weights, DataW.weightsEach, Try.underlying170] at hb
  exact ⟨(k, b), rfl, hb⟩
end
end Go.Proofs.Ytmnnaemcjmiplaa
namespace Go.Proofs.Ytmnnaemcjmiplaa
open Go.ChangeShapes Go.WideShapes Go.RowKit Go.Joins Go.Deep
set_option linter.unusedVariables false
set_option linter.unusedSimpArgs false
set_option maxRecDepth 100000

section
variable {H : Type} {enc : TypeId × Value → H} {P : Program} {w : World} {base : Nat} {spare : Nat → Bool} {held : Bool}
theorem open_slice_fields {t e : TypeId} {fs : Array Field} {fuel : Nat} {cs : List Value} {x : DataW H × List MemPlace} (ht : P.underlying t = some (.slice e)) (he : P.underlying e = some (.struct fs))
    (hone : oneCellFields P fs = true) (hC : P.cellsOf e = fs.size) (h : DataW.trod enc P w base spare held fuel t cs = some x) :
    (cs = [.slice none 0 0] ∧ x = (.nil, [])) ∨
    ∃ (a : Addr) (len cap m : Nat) (D : Nat → DataW H) (Pl : Nat → List MemPlace), cs = [.slice (some a) len cap] ∧ base ≤ a.block ∧ len ≤ cap ∧ cap ≤ maxLen ∧ m = (if spare a.block then cap else len) ∧
      x = (.slice ((List.range len).map D) ((List.range (m - len)).map fun j => D (len + j)), MemPlace.row a (m * fs.size) ++ (List.range m).flatMap Pl) ∧
      ∀ i, i < m → ∃ (ys : List (DataW H × List MemPlace)) (n : Nat), D i = .agg (ys.map (·.1)) ∧ Pl i = ys.flatMap (·.2) ∧ ys.length = fs.size ∧
        ∀ (j : Nat) (f : Field), fs[j]? = some f → ∃ (v : Value) (y : DataW H × List MemPlace), w.cell? (a.add (i * fs.size + j)) = some v ∧ ys[j]? = some y ∧ DataW.trod enc P w base spare held n f.type [v] = some y := by
  rcases open_slice ht h with h0 | ⟨a, len, cap, m, n, D, Pl, hcs, hb, hl, hm, hmm, hx, hi⟩
  · exact .inl h0
  · refine .inr ⟨a, len, cap, m, D, Pl, hcs, hb, hl, hm, hmm, by rw [hC] at hx; exact hx, fun i him => ?_⟩
    obtain ⟨cs', hc, ht'⟩ := hi i him
    rw [hC] at hc
    obtain ⟨ys, n', hn', hy, hlen, hyl, hf⟩ := DataW.trod_struct he ht'
    obtain ⟨_, hcl, hat⟩ := World.cells?_some hc
    simp only [Prod.mk.injEq] at hy
    refine ⟨ys, n', hy.1, hy.2, hyl, fun j f hj => ?_⟩
    obtain ⟨ho, hk⟩ := hone_of hone j f hj
    have hjl : j < fs.size := (Array.getElem?_eq_some_iff.1 hj).1
    have hcell := hat j hjl
    have hv : cs'[j]? = some (cs'[j]'(by omega)) := List.getElem?_eq_getElem (by omega)
    have h1 := hf j f hj
    rw [ho, hk] at h1
    have hone' : (cs'.drop j).take 1 = [cs'[j]'(by omega)] := by
      rw [List.drop_eq_getElem_cons (by omega)]
      rfl
    rw [hone'] at h1
    have hys : ys[j]? = some (ys[j]'(by omega)) := List.getElem?_eq_getElem (by omega)
    refine ⟨_, _, ?_, hys, h1.trans hys⟩
    rw [← Go.Deep.add_add, hcell, hv]
theorem weights_all_mem {e : TypeId} {d : DataW H} {n : Nat} (hn : n ∈ d.weights P e) : ∀ {l : List (DataW H)}, d ∈ l → n ∈ DataW.weightsAll P e l
  | x :: r, h => by
    simp only [DataW.weightsAll, List.mem_append]
    rcases List.mem_cons.1 h with rfl | h
    · exact .inl hn
    · exact .inr (weights_all_mem hn h)
end
/-- a list of parts as it came in -/
def IsParts (w : World) (v : Value) (l : List Pt) : Prop := ∃ A n c, v = .slice A n c ∧ RdP w w.heap.size A n c l
theorem IsParts.below {w w' : World} {v : Value} {l : List Pt} (h : IsParts w v l) : ∃ A n c, v = .slice A n c ∧ RdP w w.heap.size A n c l := h
section
variable {H : Type} {enc : TypeId × Value → H} {w : World} {base : Nat} {spare : Nat → Bool} {held : Bool}
theorem pick_lt {α : Type} {p : Nat → α → Prop} (d : α) {n : Nat} (h : ∀ i, i < n → ∃ x, p i x) : ∃ l : List α, l.length = n ∧ ∀ i (hi : i < l.length), p i l[i] := by
  induction n with
  | zero => exact ⟨[], rfl, fun i hi => absurd hi (by simp)⟩
  | succ n ih =>
    obtain ⟨l, hl, hp⟩ := ih fun i hi => h i (by omega)
    obtain ⟨x, hx⟩ := h n (by omega)
    refine ⟨l ++ [x], by simp [hl], fun i hi => ?_⟩
    rw [List.length_append, List.length_singleton] at hi
    rcases Nat.lt_or_ge i l.length with h1 | h1
    · rw [List.getElem_append_left h1]; exact hp i h1
    · obtain rfl : i = n := by omega
      rw [List.getElem_append_right (by omega)]
      simpa [hl] using hx
theorem read_parts {fuel : Nat} {v : Value} {x : DataW H × List MemPlace} (h : DataW.trod enc Try.prog w base spare held fuel 25 [v] = some x) (hb : ∀ n ∈ DataW.weights Try.prog 25 x.1, n ≤ 140737488351232) : ∃ l, IsParts w v l := by
  rcases open_slice_fields Try.underlying25 Try.underlying81 (by kernel_rfl) (by kernel_rfl) h with ⟨hc, _⟩ | ⟨a, len, cap, m, D, Pl, hc, _, h1, h2, h3, hx, h4⟩
  · simp only [List.cons.injEq, and_true] at hc
    exact ⟨[], _, _, _, hc, rfl, Rd.nil _ _ _, by simp⟩
  · simp only [List.cons.injEq, and_true] at hc
    have hl : len ≤ m := by rw [h3]; split <;> omega
    subst hx
    have h5 : ∀ i, i < len → ∃ p : Pt, w.cell? (a.add (i * 3)) = some (.int .i64 p.1) ∧ w.cell? (a.add (i * 3 + 1)) = some (.int .i64 p.2.1) ∧ w.cell? (a.add (i * 3 + 2)) = some (.string p.2.2) ∧ p.2.2.size ≤ 140737488351232 := by
      intro i hi
      obtain ⟨ys, n, hD, _, hyl, hf⟩ := h4 i (by omega)
      obtain ⟨v0, y0, c0, e0, t0⟩ := hf 0 _ rfl
      obtain ⟨v1, y1, c1, e1, t1⟩ := hf 1 _ rfl
      obtain ⟨v2, y2, c2, e2, t2⟩ := hf 2 _ rfl
      obtain ⟨k0, z0, rfl, _⟩ := DataW.trod_int Try.underlying3 t0
      obtain ⟨k1, z1, rfl, _⟩ := DataW.trod_int Try.underlying3 t1
      obtain ⟨s, z2, rfl, _⟩ := DataW.trod_string Try.underlying9 t2
      simp only [List.cons.injEq, and_true] at z0 z1 z2
      subst z0 z1 z2
      refine ⟨(k0, k1, s), c0, c1, c2, ?_⟩
      match ys, hyl with
      | [a0, a1, a2], _ =>
        simp only [List.getElem?_cons_zero, List.getElem?_cons_succ, Option.some.injEq] at e0 e1 e2
        subst e0 e1 e2
        have hmem : s.size ∈ DataW.weights Try.prog 81 (D i) := by
          rw [hD]
          simp [DataW.weights, DataW.weightsEach, Try.underlying81]
        refine hb _ ?_
        simp only [DataW.weights, Try.underlying25, List.mem_cons, List.mem_append]
        exact .inr (.inl (weights_all_mem hmem (List.mem_map.2 ⟨i, List.mem_range.2 hi, rfl⟩)))
    obtain ⟨l, hll, hp⟩ := pick_lt ((0, 0, emp) : Pt) h5
    refine ⟨l, _, len, cap, hc, hll.symm, rd_of (by omega) h1 h2 (by rw [pc_len, hll]) fun j u hj => ?_, fun p hp' => ?_⟩
    · have hjl : j < l.length * 3 := by
        rcases Nat.lt_or_ge j (pc l).length with hlt | hge
        · rw [pc_len] at hlt; exact hlt
        · rw [List.getElem?_eq_none hge] at hj; cases hj
      obtain ⟨q0, q1, q2⟩ := pc_at l (j / 3) (by omega)
      obtain ⟨b0, b1, b2, _⟩ := hp (j / 3) (by omega)
      have e : j = j / 3 * 3 + j % 3 := by omega
      rcases (show j % 3 = 0 ∨ j % 3 = 1 ∨ j % 3 = 2 by omega) with h | h | h
      · rw [e, h, Nat.add_zero] at hj ⊢; rw [q0] at hj; rw [b0]; exact hj
      · rw [e, h] at hj ⊢; rw [q1] at hj; rw [b1]; exact hj
      · rw [e, h] at hj ⊢; rw [q2] at hj; rw [b2]; exact hj
    · obtain ⟨i, hi, rfl⟩ := List.getElem_of_mem hp'
      exact (hp i hi).2.2.2
theorem open_parts_said {r : Reach} {b0 : Nat} {v : Value} {d : DataW H} {p : List MemPlace} (hv : Value.okWide Try.prog w r b0 25 v) (h : DataW.Trod enc Try.prog w base spare held 25 v d p) (_ : ∀ x ∈ p, x.block < w.heap.size)
    (hb : ∀ x ∈ DataW.weights Try.prog 25 d, x ≤ 140737488351232) : ∃ x, IsParts w v x := by
  obtain ⟨A, n, c, rfl⟩ := okWide_slice Try.underlying25 hv
  obtain ⟨fuel, hf⟩ := h
  exact read_parts hf hb
end
end Go.Proofs.Ytmnnaemcjmiplaa
namespace Go.Proofs.Ytmnnaemcjmiplaa
open Go.ChangeShapes Go.WideShapes Go.RowKit Go.Joins Go.Deep
set_option linter.unusedVariables false
set_option linter.unusedSimpArgs false
set_option maxRecDepth 100000
set_option maxHeartbeats 4000000

abbrev Fm := Int × ByteArray
def fc (l : List Fm) : List Value := l.flatMap fun p => [.int .i64 p.1, .string p.2]
theorem fc_len : ∀ l : List Fm, (fc l).length = l.length * 2
  | [] => rfl
  | p :: l => by have := fc_len l; simp only [fc, List.flatMap_cons, List.length_append, List.length_cons, List.length_nil] at this ⊢; omega
theorem fc_at : ∀ (l : List Fm) (k : Nat) (h : k < l.length), (fc l)[k * 2]? = some (.int .i64 l[k].1) ∧ (fc l)[k * 2 + 1]? = some (.string l[k].2)
  | [], k, h => absurd h (by simp)
  | p :: l, 0, h => ⟨rfl, rfl⟩
  | p :: l, k + 1, h => by
    have := fc_at l k (by simpa using h)
    have e (j : Nat) : (fc (p :: l))[(k + 1) * 2 + j]? = (fc l)[k * 2 + j]? := by
      simp only [fc, List.flatMap_cons]
      rw [List.getElem?_append_right (by simp; omega)]
      congr 1
      simp; omega
    have e0 := e 0
    simp only [Nat.add_zero] at e0
    rw [e0, e 1]
    exact this
theorem fc_append (l l' : List Fm) : fc (l ++ l') = fc l ++ fc l' := by simp [fc]
theorem fc_cell (l : List Fm) : ∀ u ∈ fc l, u.oneCell' = true := by
  intro u hu
  unfold fc at hu
  obtain ⟨p, _, h⟩ := List.mem_flatMap.1 hu
  simp only [List.mem_cons, List.not_mem_nil, or_false] at h
  rcases h with rfl | rfl <;> rfl
def RdF (w : World) (B : Nat) (A : Option Addr) (n c : Nat) (l : List Fm) : Prop := n = l.length ∧ Rd w B 2 A n c (fc l)
section
variable {w w' : World} {B B' n c : Nat} {A : Option Addr} {l : List Fm}
theorem RdF.at_ (h : RdF w B A n c l) (k : Nat) (hk : k < n) :
    ∃ b o, A = some ⟨b, o, none⟩ ∧ b < B ∧ w.cell? ⟨b, o + k * 2, none⟩ = some (.int .i64 (l[k]'(by have := h.1; omega)).1) ∧ w.cell? ⟨b, o + k * 2 + 1, none⟩ = some (.string (l[k]'(by have := h.1; omega)).2) := by
  obtain ⟨h0, hr⟩ := h
  obtain ⟨b, o, e, hb, hc⟩ := hr.2.2.2 (by omega)
  obtain ⟨h1, h2⟩ := fc_at l k (by omega)
  refine ⟨b, o, e, hb, hc _ _ h1, ?_⟩
  have := hc _ _ h2
  rwa [← Nat.add_assoc] at this
theorem RdF.below (h : RdF w B A n c l) (hb : Below B w w') : RdF w' B A n c l := ⟨h.1, h.2.below hb⟩
theorem RdF.more (h : RdF w B A n c l) (hB : B ≤ B') : RdF w B' A n c l := ⟨h.1, h.2.more hB⟩
theorem RdF.step (h : RdF w w.heap.size A n c l) (hb : Below w.heap.size w w') : RdF w' w'.heap.size A n c l := (h.below hb).more hb.size
theorem RdF.stepA (h : RdF w w.heap.size A n c l) (o : Obj) : RdF (w.alloc o) (w.alloc o).heap.size A n c l := ⟨h.1, (h.2.alloc (Nat.le_refl _) o).more (by simp)⟩
theorem RdF.le (h : RdF w B A n c l) : n ≤ 9223372036854775807 := by have := h.2.1; have := h.2.2.1; unfold maxLen at this; omega
end
def OwnF (w : World) (B : Nat) (v : Value) (l : List Fm) : Prop := w.ownsRow B 170 2 v l.length (fc l)
theorem OwnF.nil (w : World) (B : Nat) : OwnF w B (.slice none 0 0) [] := World.ownsRow_nil _ _ _ _
theorem OwnF.rd {w : World} {B : Nat} {v : Value} {l : List Fm} (h : OwnF w B v l) : ∃ A c, v = .slice A l.length c ∧ RdF w w.heap.size A l.length c l := by
  obtain ⟨A, c, e, hr⟩ := Rd.own h
  exact ⟨A, c, e, rfl, hr⟩
theorem Try.info_frame : (Try.prog.info? 170).map (fun i => (i.zero, i.size, i.bytes)) = some (some (.agg #[.int .i64 0, .string ⟨#[]⟩]), 2, 24) := by kernel_rfl
theorem wpList_app_fm {ops : Array Oper} {rest : List Oper} {o : Oper} {a : Act} {Q : Exit → Act → World → Prop} (w : World) (k : Int) (t : ByteArray) (hgd : o.guard = none) (s x : Operand)
    (ho : o.op = .call { callee := .builtin .append, args := #[s, x], argTypes := #[175, 175] })
    (B : Nat) (v : Value) (l : List Fm) (hs : a.eval s = v) (hown : OwnF (w.alloc (.cells #[.int .i64 k, .string t] 170)) B v l)
    (c g : Nat) (hg : w.heap.size = g) (hx : a.eval x = .slice (some ⟨g, 0, none⟩) 1 c)
    (hn : l.length ≤ 5864062014636) (hB : B ≤ w.heap.size)
    (h : ∀ v' w', OwnF w' B v' (l ++ [(k, t)]) → Below B (w.alloc (.cells #[.int .i64 k, .string t] 170)) w' → (w.alloc (.cells #[.int .i64 k, .string t] 170)).grownBy w' v.ownBlock → wpList Try.prog ops Q rest (a.put o.dst v') w') :
    wpList Try.prog ops Q (o :: rest) a (w.alloc (.cells #[.int .i64 k, .string t] 170)) := by
  subst hg
  obtain ⟨i0, hi, hz0, hz1, hz2⟩ := info_parts Try.info_frame
  have hB2 : B ≤ (w.alloc (.cells #[.int .i64 k, .string t] 170)).heap.size := by simp; omega
  have hr := Rd.built w 170 #[.int .i64 k, .string t] (n := 1) (size := 2) rfl (by decide)
  refine wpList_append_any (w.alloc (.cells #[.int .i64 k, .string t] 170)) hgd s x 175 ho B 170 i0 _ 2 24 Try.underlying175 hi hz0 hz1 hz2 rfl (by omega) v _ _ hs hown (w.heap.size + 1) _ 1 c (fc [(k, t)]) hx ?_ (fc_cell _) (by simp only [maxLen]; omega) (by omega) hB2 ?_
  · refine ⟨rfl, fun h0 => ?_⟩
    obtain ⟨b, o', e, hb, hc⟩ := hr.2.2.2 h0
    refine ⟨_, e, hb, fun j u hj => ?_⟩
    have := hc j u hj
    by_cases h00 : j = 0
    · subst h00; simpa [Addr.add] using this
    · simpa [Addr.add, h00] using this
  · intro v' w' h2 h3 h4
    refine h v' w' ?_ (below_grown h3 hB2 (own_ge hown)) h3
    unfold OwnF
    rw [fc_append, List.length_append]
    exact h2
theorem eqf_nil (w : World) (a : Option Addr) (l c : Nat) : (binOp .eql 175 (.slice a l c) (.slice none 0 0)).run Try.prog w = .ok (.bool a.isNone) w := by
  simp [binOp, run_equal_slice_nil w 175 170 a l c Try.underlying175]
end Go.Proofs.Ytmnnaemcjmiplaa
namespace Go.Proofs.Ytmnnaemcjmiplaa
open Go.ChangeShapes Go.WideShapes Go.RowKit Go.Joins Go.Deep
set_option linter.unusedVariables false
set_option linter.unusedSimpArgs false
set_option maxRecDepth 100000
set_option maxHeartbeats 4000000

def okF (p : Fm) : Prop := 1 ≤ p.1 ∧ p.1 ≤ 255 ∧ p.2.size ≤ 4000
instance (p : Fm) : Decidable (okF p) := by unfold okF; infer_instance
def txF (p : Fm) : List UInt8 := frL p.1.toNat p.2.data.toList
def flat : List Fm → List UInt8
  | [] => []
  | p :: l => txF p ++ flat l
theorem flat_app (l l' : List Fm) : flat (l ++ l') = flat l ++ flat l' := by
  induction l with
  | nil => rfl
  | cons p l ih => simp only [List.cons_append, flat, ih, List.append_assoc]
theorem txF_len (p : Fm) : (txF p).length = p.2.size + 7 := by unfold txF; rw [frL_len]; rfl
theorem gf_txF (p : Fm) (more : List UInt8) (h : okF p) : gf (txF p ++ more) = (p.1.toNat, p.2.data.toList, p.2.size + 7, 0) := by
  obtain ⟨h1, h2, h3⟩ := h
  unfold txF
  rw [gf_frL _ _ _ (by omega) (by omega) h3]
  rfl
theorem get_good (p : Fm) (s : ByteArray) (more : List UInt8) (hp : okF p) (hs : s.data.toList = txF p ++ more) (w : World) :
    Calls Try.prog 126 #[.string s] w fun e w' => e = .returned (.tuple #[.agg #[.int .i64 p.1, .string p.2], .int .i64 ((p.2.size + 7 : Nat) : Int), .int .i64 0]) ∧ Below w.heap.size w w' := by
  have h := fget_any s w
  rw [hs, gf_txF p more hp] at h
  have e : frV (p.1.toNat, p.2.data.toList, p.2.size + 7, 0) = .tuple #[.agg #[.int .i64 p.1, .string p.2], .int .i64 ((p.2.size + 7 : Nat) : Int), .int .i64 0] := by
    unfold frV
    have h1 : ((p.1.toNat : Nat) : Int) = p.1 := by have := hp.1; omega
    simp only [h1]
    rfl
  rw [e] at h
  exact h
theorem get_bad (s : ByteArray) (hs : (gf s.data.toList).2.2.2 ≠ 0) (w : World) :
    Calls Try.prog 126 #[.string s] w fun e w' => (∃ E : Int, E ≠ 0 ∧ e = .returned (.tuple #[.agg #[.int .i64 0, .string ⟨#[]⟩], .int .i64 0, .int .i64 E])) ∧ Below w.heap.size w w' := by
  have h := fget_any s w
  rw [gf_wrong _ hs] at h
  refine h.mono ?_
  rintro e w' ⟨rfl, hb⟩
  exact ⟨⟨((gf s.data.toList).2.2.2 : Nat), by omega, rfl⟩, hb⟩
theorem scan_any (s : ByteArray) (fs : List Fm) (rest : List UInt8) (hok : ∀ p ∈ fs, okF p) (hs : s.data.toList = flat fs ++ rest) (hr : (gf rest).2.2.2 ≠ 0) (hn : fs.length ≤ 5864062014636) (hsz : s.size ≤ 1000000000000000000) (N G : Nat) (hN : fs.length = N) (hG : (flat fs).length = G) (w : World) :
    Calls Try.prog 106 #[.string s] w fun e w' => ∃ A c, e = .returned (.tuple #[.slice A N c, .int .i64 G]) ∧ RdF w' w'.heap.size A N c fs ∧ Below w.heap.size w w' := by
  have Hok := Lib.hid hok
  have Hs := Lib.hid hs
  have Hr := Lib.hid hr
  have HN := Lib.hid hN
  have HG := Lib.hid hG
  have hsl : s.data.toList.length = s.size := rfl
  have Hsl := Lib.hid hsl
  clear hok hs hr hN hG hsl
  go_enter Try.func106, Try.ntmps106
  go_wp2_with fail
  go_loopw [4, 5, 6, 7, 8] (fun ov gv pv nv ev wr => ∃ (k g : Nat), k ≤ N ∧ gv = .int .i64 g ∧ g ≤ s.size ∧ Hid (OwnF wr w.heap.size ov (fs.take k)) ∧ Hid ((flat (fs.take k)).length = g) ∧ Hid ((s.extract g s.size).data.toList = flat (fs.drop k) ++ rest) ∧ Below w.heap.size w wr) (fun _ gv _ _ _ _ => s.size + 1 - (intOf gv).toNat)
  case atStart => exact ⟨0, 0, by omega, rfl, by omega, Lib.hid (OwnF.nil _ _), Lib.hid rfl, Lib.hid (by rw [bs_extract, ← Hsl.out, List.take_length]; exact Hs.out), Below.refl _ _⟩
  case round =>
    obtain ⟨k, g, hk, rfl, hgs, hown, hfl, hex, hbw⟩ := hrel
    have hg0 : (0 : Int) ≤ (g : Int) := by omega
    have hgs' : (g : Int) ≤ (s.size : Int) := by omega
    obtain ⟨Y, hY⟩ : ∃ Y, s.extract g s.size = Y := ⟨_, rfl⟩
    rw [hY] at hex
    by_cases hlt : k < N
    · have hkl : k < fs.length := by have := HN.out; omega
      have hp := Hok.out _ (List.getElem_mem hkl)
      have hdr : fs.drop k = fs[k] :: fs.drop (k + 1) := List.drop_eq_getElem_cons hkl
      have hts : fs.take (k + 1) = fs.take k ++ [fs[k]] := List.take_succ_eq_append_getElem hkl
      have hex2 := hex.out
      rw [hdr] at hex2
      obtain ⟨p, hpe⟩ : ∃ p, p = fs[k] := ⟨_, rfl⟩
      rw [← hpe] at hp hex2 hts
      have hYl : Y.data.toList.length = Y.size := rfl
      have hYs : Y.size = s.size - g := by rw [← hY, ← bs_len, bs_extract, List.length_drop, ← Hsl.out, List.take_length]
      have hpl : p.2.size + 7 ≤ s.size - g := by
        have h1 := congrArg List.length hex2
        rw [hYl, hYs] at h1
        simp only [flat, List.length_append, txF_len] at h1
        omega
      have Hcall := Lib.hid (get_good p Y (flat (fs.drop (k + 1)) ++ rest) hp (by rw [hex2]; simp [flat]) wr)
      have hfl2 : (flat (fs.take (k + 1))).length = g + (p.2.size + 7) := by
        rw [hts, flat_app, List.length_append, hfl.out]
        simp only [flat, List.append_nil, txF_len]
      have hex3 : (s.extract (g + (p.2.size + 7)) s.size).data.toList = flat (fs.drop (k + 1)) ++ rest := by
        have h1 : (s.extract (g + (p.2.size + 7)) s.size).data.toList = Y.data.toList.drop (p.2.size + 7) := by
          rw [← hY, bs_extract, bs_extract, ← Hsl.out, List.take_length, List.drop_drop]
        rw [h1, hex2]
        simp only [flat]
        rw [List.append_assoc, ← txF_len p, List.drop_append_length]
      have hsb := hp.2.2
      have Hts := Lib.hid hts
      have Hfl2 := Lib.hid hfl2
      have Hex3 := Lib.hid hex3
      have hkt : (fs.take k).length ≤ 5864062014636 := by rw [List.length_take]; omega
      obtain ⟨pk, pt⟩ := p
      simp only at hpl Hfl2 Hex3 hsb Hcall
      have hpli : ((pt.size + 7 : Nat) : Int) ≤ 4007 := by omega
      have hgp : (g : Int) + ((pt.size + 7 : Nat) : Int) ≤ 1000000000000000000 := by omega
      clear hpe hdr hts hex hex2 hfl hfl2 hex3 hYl hYs hp
      go_wp2_with fail
      refine Hcall.out.mono ?_
      rintro e w2 ⟨rfl, hb2⟩
      have hw2 := hbw.trans (hb2.mono hbw.size)
      have hw3 := hw2.alloc hw2.size (.cells #[.int .i64 pk, .string pt] 170)
      have hw4 := hw3.alloc hw3.size (.cells #[.int .i64 pk, .string pt] 170)
      have hown' : Hid (OwnF ((w2.alloc (.cells #[.int .i64 pk, .string pt] 170)).alloc (.cells #[.int .i64 pk, .string pt] 170)) w.heap.size _ (fs.take k)) := Lib.hid (World.ownsRow.alloc (World.ownsRow.alloc (own_below hown.out hb2) _) _)
      have hB8 : w.heap.size ≤ (w2.alloc (.cells #[.int .i64 pk, .string pt] 170)).heap.size := hw3.size
      clear hb2 hown
      go_wp2_with (first | (at_builtin; go_loud (refine wpList_app_fm (w2.alloc (.cells #[.int .i64 pk, .string pt] 170)) pk pt rfl (.tmp 21) (.tmp 23) rfl w.heap.size _ (fs.take k) rfl hown'.out 1 (w2.heap.size + 1) (by simp) rfl hkt hB8 ?_; intro v8 w8 k1 k2 k3)))
      have hw9 := hw4.trans k2
      rw [← Hts.out] at k1
      have K1 := Lib.hid k1
      clear k1 k3
      go_roundw
      case rel => exact ⟨k + 1, g + (pt.size + 7), by omega, by go_num, by omega, K1, Hfl2, Hex3, hw9⟩
      case measure => simp [intOf]; omega
    · obtain rfl : k = N := by omega
      have hex2 := hex.out
      rw [List.drop_eq_nil_of_le (by have := HN.out; omega)] at hex2
      have hb := get_bad Y (by rw [hex2]; exact Hr.out) wr
      have hown2 := hown.out
      rw [List.take_of_length_le (by have := HN.out; omega)] at hown2
      have hfl2 := hfl.out
      rw [List.take_of_length_le (by have := HN.out; omega), HG.out] at hfl2
      subst hfl2
      obtain ⟨A9, c9, hv9, hr9⟩ := hown2.rd
      rw [HN.out] at hv9 hr9
      have Hr9 := Lib.hid hr9
      have Hb := Lib.hid hb
      subst hv9
      clear hb hex hex2 hown hown2 hfl hr9
      go_wp2_with fail
      refine Hb.out.mono ?_
      rintro e w2 ⟨⟨E, hE, rfl⟩, hb2⟩
      have hne : (E != 0) = true := by simpa using hE
      have hw2 := hbw.trans (hb2.mono hbw.size)
      have hw3 := hw2.alloc hw2.size (.cells #[.int .i64 0, .string ⟨#[]⟩] 170)
      have Hr10 := Lib.hid ((Hr9.out.step hb2).stepA (.cells #[.int .i64 0, .string ⟨#[]⟩] 170))
      clear hb2 hE
      go_wp2_with fail
      go_ret2
      exact ⟨_, _, rfl, Hr10.out, hw3⟩
/-- what Put makes of a frame -/
theorem put_okF (p : Fm) (h : okF p) (w : World) : Calls Try.prog 101 #[.agg #[.int .i64 p.1, .string p.2]] w fun e w' => e = .returned (.tuple #[.string ⟨(txF p).toArray⟩, .int .i64 0]) ∧ Below w.heap.size w w' := by
  obtain ⟨h1, h2, h3⟩ := h
  have := fput_good p.1.toNat p.2 (by omega) (by omega) (by omega) w
  rw [show ((p.1.toNat : Nat) : Int) = p.1 by omega] at this
  exact this
theorem put_noF (p : Fm) (h : ¬ okF p) (w : World) : Calls Try.prog 101 #[.agg #[.int .i64 p.1, .string p.2]] w fun e w' => (∃ E : Int, E ≠ 0 ∧ e = .returned (.tuple #[.string ⟨#[]⟩, .int .i64 E])) ∧ Below w.heap.size w w' := by
  unfold okF at h
  by_cases h1 : p.1 < 1 ∨ 255 < p.1
  · refine (fput_kind p.1 p.2 h1 w).mono ?_
    rintro e w' ⟨rfl, hb⟩
    exact ⟨⟨1, by omega, rfl⟩, hb⟩
  · refine (fput_large p.1 p.2 (by omega) (by omega) (by omega) w).mono ?_
    rintro e w' ⟨rfl, hb⟩
    exact ⟨⟨2, by omega, rfl⟩, hb⟩
end Go.Proofs.Ytmnnaemcjmiplaa
namespace Go.Proofs.Ytmnnaemcjmiplaa
set_option linter.unusedVariables false
set_option linter.unusedSimpArgs false

/-- the frames behind the head, one after the other; t: the text by now -/
def readF : Lg → ByteArray → List Fm → Lg
  | l, _, [] => l
  | l, t, f :: fs =>
    if f.1 = 3 then
      if l.whole = true ∨ f.2.size ≠ 0 then l else readF { l with whole := true, good := l.good + ((f.2.size + 7 : Nat) : Int) } t fs
    else if f.1 = 2 then
      if rvOk f.2.data.toList = true ∧ nextE l t.size (rvV f.2.data.toList) = 0 then
        readF { addL l (rvV f.2.data.toList) with good := l.good + ((f.2.size + 7 : Nat) : Int) } (doS (rvV f.2.data.toList).2.2 t) fs
      else l
    else l
/-- what a list of frames says: its errno and its log -/
def hotE : List Fm → Int
  | [] => 7
  | f :: _ => if f.1 ≠ 1 ∨ hdOk f.2.data.toList = false then 3 else 0
def hotL : List Fm → Lg
  | [] => lg0
  | f :: fs => if f.1 ≠ 1 ∨ hdOk f.2.data.toList = false then lg0 else readF { hdL f.2.data.toList with good := ((f.2.size + 7 : Nat) : Int) } (hdL f.2.data.toList).text fs
/-- the log while it is read -/
structure Rd_ (l : Lg) (t : ByteArray) : Prop where
  l8 : Lg8 l
  base0 : 0 ≤ l.base
  base1 : l.base ≤ 2147483647
  len : l.revs.length ≤ 64
  txt : t.size ≤ 500
theorem next_len {l : Lg} {n : Nat} {r : Rv} (h : nextE l n r = 0) : oneE r = 0 ∧ (l.table.getD r.1.toNat (0, 0)).1 < r.2.1 ∧ l.revs.length < 64 ∧ l.base + l.revs.length < 2147483647 ∧ fitsE r.2.2 n = 0 := by
  unfold nextE at h
  split at h
  · rename_i h1; exact absurd h h1
  · rename_i h1
    split at h
    · exact absurd h (by decide)
    · rename_i h2
      split at h
      · exact absurd h (by decide)
      · rename_i h3
        exact ⟨by simpa using h1, by omega, by omega, by omega, h⟩
theorem Rd_.done {l : Lg} {t : ByteArray} (h : Rd_ l t) (g : Int) : Rd_ { l with whole := true, good := g } t := ⟨h.l8, h.base0, h.base1, h.len, h.txt⟩
theorem Rd_.add {l : Lg} {t : ByteArray} {r : Rv} (h : Rd_ l t) (hn : nextE l t.size r = 0) (g : Int) : Rd_ { addL l r with good := g } (doS r.2.2 t) := by
  have h1 := next_len hn
  exact ⟨⟨h.l8.1, by simp [addL, h.l8.2]⟩, h.base0, h.base1, by simp [addL]; omega, do_size_any _ _⟩
end Go.Proofs.Ytmnnaemcjmiplaa
