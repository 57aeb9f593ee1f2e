/- Contracts of client.copied, Out, Edit. -/
import Derived.Test.YtfncpcmaplhojaaClient
import Derived.Test.YtfncpcmaplhojaaBoxes
import Derived.Test.YtfncpcmaplhojaaDRows
namespace Go.Proofs.Ytfncpcmaplhojaa
open Go.ChangeShapes Go.WideShapes Go.RowKit
set_option linter.unusedVariables false
set_option linter.unusedSimpArgs false
set_option maxRecDepth 100000
set_option maxHeartbeats 4000000

theorem client_row {W : World} {g : Nat} {cs : Array Value} (h : Blk W g 52 cs) (hs : cs.size = 8) : (loadVar 52 ⟨g, 0, none⟩).run Try.prog W = .ok (.agg cs) W :=
  run_loadVar_row (P := Try.prog) W g 52 52 _ _ _ h Try.underlying52 rfl (by rw [hs]; kernel_rfl)
theorem client_info : (Try.prog.info? 52).map (·.size) = some 8 := by kernel_rfl
theorem ccopied_any (c : Cl) (s h : Sl) (w : World) (hS : RdP w w.heap.size s.1 s.2.1 s.2.2 c.sent) (hH : RdP w w.heap.size h.1 h.2.1 h.2.2 c.held) (hs : s.2.1 ≤ 4000000) (hh : h.2.1 ≤ 4000000) :
    Calls Try.prog 70 #[clv c s h] w fun e w' => ∃ A1 n1 c1 A2 n2 c2, e = .returned (clv c (A1, n1, c1) (A2, n2, c2)) ∧ OwnP w' w.heap.size (.slice A1 n1 c1) c.sent ∧ OwnP w' w.heap.size (.slice A2 n2 c2) c.held ∧ Inc [.slice A1 n1 c1, .slice A2 n2 c2] ∧ Below w.heap.size w w' := by
  obtain ⟨a, r, sq, t, f, S, q, H⟩ := c
  obtain ⟨A, n, cp⟩ := s
  obtain ⟨A', n', cp'⟩ := h
  simp only at hS hH hs hh ⊢
  have HS := Lib.hid hS
  have HH := Lib.hid hH
  have hb0 := ((Below.refl w.heap.size w).alloc (Nat.le_refl _) (.cells (clc ⟨a, r, sq, t, f, S, q, H⟩ (A, n, cp) (A', n', cp')) 52)).alloc (by simp) (.cells #[.int .i64 0, .int .i64 0, .int .i64 0, .string ⟨#[]⟩, .bool false, .slice none 0 0, .bool false, .slice none 0 0] 52)
  have kc := (Blk.new w 52 (clc ⟨a, r, sq, t, f, S, q, H⟩ (A, n, cp) (A', n', cp'))).alloc (.cells #[.int .i64 0, .int .i64 0, .int .i64 0, .string ⟨#[]⟩, .bool false, .slice none 0 0, .bool false, .slice none 0 0] 52)
  have kr := Blk.new (w.alloc (.cells (clc ⟨a, r, sq, t, f, S, q, H⟩ (A, n, cp) (A', n', cp')) 52)) 52 #[.int .i64 0, .int .i64 0, .int .i64 0, .string ⟨#[]⟩, .bool false, .slice none 0 0, .bool false, .slice none 0 0]
  unfold clv at *
  unfold clc at *
  simp only [World.size_alloc] at *
  clear hS hH
  go_enter Try.func70, Try.ntmps70
  go_upto_region 1 with (fail)
  generalize (w.alloc (.cells #[.int .i64 a, .int .i64 r, .int .i64 sq, .string t, .bool f, .slice A n cp, .bool q, .slice A' n' cp'] 52)).alloc (.cells #[.int .i64 0, .int .i64 0, .int .i64 0, .string ⟨#[]⟩, .bool false, .slice none 0 0, .bool false, .slice none 0 0] 52) = W at *
  obtain ⟨g, hg⟩ : ∃ g, w.heap.size = g := ⟨_, rfl⟩
  rw [hg] at kc kr hb0
  have c5 := kc.cell 5
  have cl := kc.lt
  have hS1 := Lib.hid (hg ▸ (HS.out.below (hg.symm ▸ hb0)))
  have hH1 := Lib.hid (hg ▸ (HH.out.below (hg.symm ▸ hb0)))
  have hgW : g ≤ W.heap.size := by have := hb0.size; omega
  rw [hg]
  go_upto_region 2 with (first
    | (at_builtin; go_loud (refine wpList_app_partsC _ rfl (.const (.slice none 0 0)) (.tmp 4) rfl W.heap.size _ [] rfl (OwnP.nil _ _) A n cp _ S rfl hS1.out (by simp; omega) (Nat.le_refl _) ?_; intro v1 w1 q1 q2; rw [List.nil_append] at q1; obtain ⟨A1, c1, rfl⟩ := q1.form_ (n := n) hS1.out.1.symm; have e1 := kc.below q2 kc.lt; have d5 := e1.cell 5; have f5 := e1.frozen 5; have l1 := e1.lt)))
  have hb2 : Below g w (w1.setCell ⟨g, 5, none⟩ (.slice A1 n c1)) := (hb0.trans (q2.mono hgW)).setCell (p := ⟨g, 5, none⟩) (Nat.le_refl g) _
  have kc2 : Blk (w1.setCell ⟨g, 5, none⟩ (.slice A1 n c1)) g 52 #[.int .i64 a, .int .i64 r, .int .i64 sq, .string t, .bool f, .slice A1 n c1, .bool q, .slice A' n' cp'] := e1.set_ 5 _
  have kr2 : Blk (w1.setCell ⟨g, 5, none⟩ (.slice A1 n c1)) (g + 1) 52 #[.int .i64 0, .int .i64 0, .int .i64 0, .string ⟨#[]⟩, .bool false, .slice none 0 0, .bool false, .slice none 0 0] := (kr.below q2 kr.lt).far (p := ⟨g, 5, none⟩) (by simp only; omega) _
  have hW2 : W.heap.size ≤ (w1.setCell ⟨g, 5, none⟩ (.slice A1 n c1)).heap.size := by simp; exact q2.size
  have o2 := Lib.hid (own_only q1 (Only.setSelf w1 g 5 (.slice A1 n c1)) (fun k hk => by have := (World.ownsRow.lt q1 k hk).1; omega))
  have hg1 : g + 1 < W.heap.size := kr.lt
  clear e1 d5 f5 l1 c5 cl q1 hb0 kc kr hS1
  generalize (w1.setCell ⟨g, 5, none⟩ (.slice A1 n c1)) = W2 at *
  have hgW2 : g ≤ W2.heap.size := by omega
  have hH2 := Lib.hid (hg ▸ (HH.out.below (hg.symm ▸ hb2)))
  have c7 := kc2.cell 7
  have cl := kc2.lt
  go_upto_region 3 with (first
    | (at_builtin; go_loud (refine wpList_app_partsC _ rfl (.const (.slice none 0 0)) (.tmp 8) rfl W2.heap.size _ [] rfl (OwnP.nil _ _) A' n' cp' _ H rfl hH2.out (by simp; omega) (Nat.le_refl _) ?_; intro v2 w2 q1 q3; rw [List.nil_append] at q1; obtain ⟨A2, c2, rfl⟩ := q1.form_ (n := n') hH2.out.1.symm; have e1 := kc2.below q3 kc2.lt; have d7 := e1.cell 7; have f7 := e1.frozen 7; have l1 := e1.lt)))
  have hb3 : Below g w (w2.setCell ⟨g, 7, none⟩ (.slice A2 n' c2)) := (hb2.trans (q3.mono hgW2)).setCell (p := ⟨g, 7, none⟩) (Nat.le_refl g) _
  have kc3 : Blk (w2.setCell ⟨g, 7, none⟩ (.slice A2 n' c2)) g 52 #[.int .i64 a, .int .i64 r, .int .i64 sq, .string t, .bool f, .slice A1 n c1, .bool q, .slice A2 n' c2] := e1.set_ 7 _
  have kr3 : Blk (w2.setCell ⟨g, 7, none⟩ (.slice A2 n' c2)) (g + 1) 52 #[.int .i64 0, .int .i64 0, .int .i64 0, .string ⟨#[]⟩, .bool false, .slice none 0 0, .bool false, .slice none 0 0] := (kr2.below q3 kr2.lt).far (p := ⟨g, 7, none⟩) (by simp only; omega) _
  have hWW : W.heap.size ≤ W2.heap.size := hW2
  have o3 := Lib.hid (own_only (own_below o2.out q3) (Only.setSelf w2 g 7 (.slice A2 n' c2)) (fun k hk => by have := (World.ownsRow.lt o2.out k hk).1; omega))
  have o4 := Lib.hid (own_only q1 (Only.setSelf w2 g 7 (.slice A2 n' c2)) (fun k hk => by have := (World.ownsRow.lt q1 k hk).1; omega))
  have ho2 := o2
  clear e1 d7 f7 l1 c7 cl q1 hb2 kc2 kr2 hH2 o2
  generalize (w2.setCell ⟨g, 7, none⟩ (.slice A2 n' c2)) = W3 at *
  have hinc : Inc [.slice A1 n c1, .slice A2 n' c2] := by
    refine List.Pairwise.cons (fun u hu p q hp hq => ?_) (List.Pairwise.cons (fun u hu => by cases hu) List.Pairwise.nil)
    rw [List.mem_singleton] at hu
    subst hu
    have h1 := (World.ownsRow.lt (ho2.out) p hp).2
    have h2 := (World.ownsRow.lt o4.out q hq).1
    omega
  go_wp2_with (first
    | (refine wpList_load_blk rfl _ (.tmp 1) rfl g rfl _ (client_row kc3 rfl) ?_)
    | (refine wpList_store_blk rfl _ (.tmp 2) (.tmp 11) rfl (g + 1) _ rfl rfl _ _ kr3 client_info rfl (by simp [Value.oneCell']) ?_))

  refine row_end1 rfl rfl rfl (client_row (kr3.row #[.int .i64 a, .int .i64 r, .int .i64 sq, .string t, .bool f, .slice A1 n c1, .bool q, .slice A2 n' c2]) rfl) ?_
  refine ⟨_, _, _, _, _, _, rfl, ?_, ?_, hinc, hg ▸ below_setRow hb3 (g + 1) _ (by omega)⟩
  · exact own_base (own_only o3.out (Only.setRow W3 (g + 1) _) (fun k hk => by have := (World.ownsRow.lt o3.out k hk).1; omega)) (by omega)
  · exact own_base (own_only o4.out (Only.setRow W3 (g + 1) _) (fun k hk => by have := (World.ownsRow.lt o4.out k hk).1; omega)) (by omega)
end Go.Proofs.Ytfncpcmaplhojaa
