/- One part of a proof: an evaluator of the model, shown right, and contracts that it yields. No condition beyond those that each theorem names. -/
import Derived.Test.YtenpginanhnkbaaCI
section
set_option linter.unusedSimpArgs false
set_option linter.unusedVariables false
namespace Go.Proofs.Ytenpginanhnkbaa
open Go.X
set_option maxRecDepth 100000

/-! ## a sort of one row -/
theorem ins1_spec (b : Option Addr) (c : Nat) (f : Value) (V : View) : PSpec 111 [.slice b 1 c, .int .i64 0, .int .i64 1, f] V (fun v _ => v = .tuple #[]) := by
  refine does_of_zfun [(4, [(0, []), (1, []), (2, []), (3, []), (4, []), (5, []), (6, []), (7, []), (8, []), (9, []), (10, []), (11, []), (12, []), (13, []), (14, []), (15, []), (16, [])]), (6, [(0, []), (1, []), (2, []), (3, []), (4, []), (5, []), (6, []), (7, []), (8, []), (9, []), (10, []), (11, []), (12, []), (13, []), (14, []), (15, []), (16, []), (17, [])])] mixed (args := [.v _, .v _, .v _, .v _]) (ms := []) Try.func111 (by kernel_rfl) rfl ?_
  conv => whnf
  repeat' first
    | (refine br_t rfl ?_; conv => whnf)
    | (refine br_f rfl ?_; conv => whnf)
    | (refine IdxN.lit rfl rfl ?_; conv => whnf)
    | (intro _; conv => whnf)
  refine unrollz 1 ?_
  conv => whnf
  repeat' first
    | (refine br_t rfl ?_; conv => whnf)
    | (refine br_f rfl ?_; conv => whnf)
    | (refine IdxN.lit rfl rfl ?_; conv => whnf)
    | (intro _; conv => whnf)
  exact ret_pure rfl
theorem stable1_spec (b : Option Addr) (c : Nat) (f : Value) (V : View) : PSpec 99 [.slice b 1 c, .int .i64 1, f] V (fun v _ => v = .tuple #[]) := by
  refine does_of_zfun [] mixed (args := [.v _, .v _, .v _]) (ms := []) Try.func99 (by kernel_rfl) rfl ?_
  conv => whnf
  repeat' first
    | (refine br_t rfl ?_; conv => whnf)
    | (refine br_f rfl ?_; conv => whnf)
    | (refine IdxN.lit rfl rfl ?_; conv => whnf)
    | (intro _; conv => whnf)
  refine unrollz 1 ?_
  conv => whnf
  repeat' first
    | (refine br_t rfl ?_; conv => whnf)
    | (refine br_f rfl ?_; conv => whnf)
    | (refine IdxN.lit rfl rfl ?_; conv => whnf)
    | (intro _; conv => whnf)
  refine CallN.pure (ins1_spec b c f _) fun v V1 _ hV1 hv => ?_
  subst hv
  conv => whnf
  repeat' first
    | (refine br_t rfl ?_; conv => whnf)
    | (refine br_f rfl ?_; conv => whnf)
    | (refine IdxN.lit rfl rfl ?_; conv => whnf)
    | (intro _; conv => whnf)
  refine unrollz 1 ?_
  conv => whnf
  repeat' first
    | (refine br_t rfl ?_; conv => whnf)
    | (refine br_f rfl ?_; conv => whnf)
    | (refine IdxN.lit rfl rfl ?_; conv => whnf)
    | (intro _; conv => whnf)
  exact ret_pure rfl
theorem sorts1_spec (b : Option Addr) (c : Nat) (f : Value) (V : View) : PSpec 75 [.slice b 1 c, f] V (fun v _ => v = .tuple #[]) := by
  refine does_of_zfun [] mixed (args := [.v _, .v _]) (ms := []) Try.func75 (by kernel_rfl) rfl ?_
  conv => whnf
  repeat' first
    | (refine br_t rfl ?_; conv => whnf)
    | (refine br_f rfl ?_; conv => whnf)
    | (refine IdxN.lit rfl rfl ?_; conv => whnf)
    | (intro _; conv => whnf)
  refine CallN.pure (stable1_spec b c f _) fun v V1 _ hV1 hv => ?_
  subst hv
  conv => whnf
  repeat' first
    | (refine br_t rfl ?_; conv => whnf)
    | (refine br_f rfl ?_; conv => whnf)
    | (refine IdxN.lit rfl rfl ?_; conv => whnf)
    | (intro _; conv => whnf)
  exact ret_pure rfl
theorem clone1_spec (p off c : Nat) (x : Value) (hx : x.oneCell' = true) (hxc : x.cells.toList = [x]) (V : View) (h : V.has p off [x]) : PSpec 74 [.slice (some ⟨p, off, none⟩) 1 c] V (fun v _ => ∃ b' c', v = .slice b' 1 c') := by
  refine does_of_zfun [] mixed (args := [.v _]) (ms := []) Try.func74 (by kernel_rfl) rfl ?_
  conv => whnf
  repeat' first
    | (refine br_t rfl ?_; conv => whnf)
    | (refine br_f rfl ?_; conv => whnf)
    | (refine IdxN.lit rfl rfl ?_; conv => whnf)
    | (intro _; conv => whnf)
  rename_i b1 V1 hV1 h1
  refine AppN.to 1 rfl [] [x] h1 rfl (h.mono (by repeat (first | exact View.le_refl _ | assumption | exact View.addU_le _ _ _ | refine View.le_trans ?_ (by assumption) | refine View.le_trans ?_ (View.addU_le _ _ _)))) rfl (by show (match x.oneCell' with | true => true | false => false) = true; rw [hx]) (by decide) (by decide) fun base' cap' V3 hV3 hc3 => ?_
  conv => whnf
  exact ret_pure ⟨base', cap', rfl⟩
theorem sorted1_spec (p off c : Nat) (x : Value) (hx : x.oneCell' = true) (hxc : x.cells.toList = [x]) (a : Nat) (d : Bool) (V : View) (h : V.has p off [x]) : PSpec 52 [.slice (some ⟨p, off, none⟩) 1 c, .func (.func 53) #[] #[.pointer (some ⟨a, 0, none⟩)], .bool d] V (fun v _ => ∃ b' c', v = .slice b' 1 c') := by
  refine does_of_zfun [] mixed (args := [.v _, .v _, .v _]) (ms := []) Try.func52 (by kernel_rfl) rfl ?_
  conv => whnf
  repeat' first
    | (refine br_t rfl ?_; conv => whnf)
    | (refine br_f rfl ?_; conv => whnf)
    | (refine IdxN.lit rfl rfl ?_; conv => whnf)
    | (intro _; conv => whnf)
  refine CallN.pure (clone1_spec p off c x hx hxc _ (h.mono (by repeat (first | exact View.le_refl _ | assumption | exact View.addU_le _ _ _ | refine View.le_trans ?_ (by assumption) | refine View.le_trans ?_ (View.addU_le _ _ _))))) fun v V1 _ hV1 ⟨b', c', hv⟩ => ?_
  subst hv
  conv => whnf
  repeat' first
    | (refine br_t rfl ?_; conv => whnf)
    | (refine br_f rfl ?_; conv => whnf)
    | (refine IdxN.lit rfl rfl ?_; conv => whnf)
    | (intro _; conv => whnf)
  refine CallN.pure (sorts1_spec b' c' _ _) fun v V2 _ hV2 hv => ?_
  subst hv
  conv => whnf
  repeat' first
    | (refine br_t rfl ?_; conv => whnf)
    | (refine br_f rfl ?_; conv => whnf)
    | (refine IdxN.lit rfl rfl ?_; conv => whnf)
    | (intro _; conv => whnf)
  exact ret_pure ⟨b', c', rfl⟩
theorem sort51_spec (b : Option Addr) (n c : Nat) (k : Int) (a : Nat) (V : View) (h : V.has a 0 [.int .i64 k]) : PSpec 51 [.slice b n c, .pointer (some ⟨a, 0, none⟩)] V (fun v _ => v = .bool (decide (k ≥ (n : Int)))) := by
  refine does_of_zfun [] mixed (args := [.v _, .v _]) (ms := []) Try.func51 (by kernel_rfl) rfl ?_
  conv => whnf
  refine LoadN.of (h.mono (by repeat (first | exact View.le_refl _ | assumption | exact View.addU_le _ _ _ | refine View.le_trans ?_ (by assumption) | refine View.le_trans ?_ (View.addU_le _ _ _)))) 0 rfl rfl ?_
  conv => whnf
  repeat' first
    | (refine br_t rfl ?_; conv => whnf)
    | (refine br_f rfl ?_; conv => whnf)
    | (refine IdxN.lit rfl rfl ?_; conv => whnf)
    | (intro _; conv => whnf)
  exact ret_pure rfl
theorem index1_spec (p off c a : Nat) (b : Option Addr) (n cp : Nat) (k : Int) (hk : k < n) (V : View) (h : V.has p off [.slice b n cp]) (ha : V.has a 0 [.int .i64 k]) :
    PSpec 73 [.slice (some ⟨p, off, none⟩) 1 c, .func (.func 51) #[] #[.pointer (some ⟨a, 0, none⟩)]] V (fun v _ => v = .int .i64 (-1)) := by
  refine does_of_zfun [] mixed (args := [.v _, .v _]) (ms := []) Try.func73 (by kernel_rfl) rfl ?_
  conv => whnf
  repeat' first
    | (refine br_t rfl ?_; conv => whnf)
    | (refine br_f rfl ?_; conv => whnf)
    | (refine IdxN.lit rfl rfl ?_; conv => whnf)
    | (intro _; conv => whnf)
  refine unrollz 2 ?_
  conv => whnf
  repeat' first
    | (refine br_t rfl ?_; conv => whnf)
    | (refine br_f rfl ?_; conv => whnf)
    | (refine IdxN.lit rfl rfl ?_; conv => whnf)
    | (intro _; conv => whnf)
  refine LoadN.of (h.mono (by repeat (first | exact View.le_refl _ | assumption | exact View.addU_le _ _ _ | refine View.le_trans ?_ (by assumption) | refine View.le_trans ?_ (View.addU_le _ _ _)))) 0 rfl rfl ?_
  conv => whnf
  repeat' first
    | (refine br_t rfl ?_; conv => whnf)
    | (refine br_f rfl ?_; conv => whnf)
    | (refine IdxN.lit rfl rfl ?_; conv => whnf)
    | (intro _; conv => whnf)
  refine CallN.pure (sort51_spec b n cp k a _ (ha.mono (by repeat (first | exact View.le_refl _ | assumption | exact View.addU_le _ _ _ | refine View.le_trans ?_ (by assumption) | refine View.le_trans ?_ (View.addU_le _ _ _))))) fun v V1 _ hV1 hv => ?_
  subst hv
  conv => whnf
  refine br_f (by simp; omega) ?_
  conv => whnf
  repeat' first
    | (refine br_t rfl ?_; conv => whnf)
    | (refine br_f rfl ?_; conv => whnf)
    | (refine IdxN.lit rfl rfl ?_; conv => whnf)
    | (intro _; conv => whnf)
  exact ret_pure rfl
theorem contains1_spec (p off c a : Nat) (b : Option Addr) (n cp : Nat) (k : Int) (hk : k < n) (V : View) (h : V.has p off [.slice b n cp]) (ha : V.has a 0 [.int .i64 k]) :
    PSpec 50 [.slice (some ⟨p, off, none⟩) 1 c, .func (.func 51) #[] #[.pointer (some ⟨a, 0, none⟩)]] V (fun v _ => v = .bool false) := by
  refine does_of_zfun [] mixed (args := [.v _, .v _]) (ms := []) Try.func50 (by kernel_rfl) rfl ?_
  conv => whnf
  repeat' first
    | (refine br_t rfl ?_; conv => whnf)
    | (refine br_f rfl ?_; conv => whnf)
    | (refine IdxN.lit rfl rfl ?_; conv => whnf)
    | (intro _; conv => whnf)
  refine CallN.pure (index1_spec p off c a b n cp k hk _ (h.mono (by repeat (first | exact View.le_refl _ | assumption | exact View.addU_le _ _ _ | refine View.le_trans ?_ (by assumption) | refine View.le_trans ?_ (View.addU_le _ _ _)))) (ha.mono (by repeat (first | exact View.le_refl _ | assumption | exact View.addU_le _ _ _ | refine View.le_trans ?_ (by assumption) | refine View.le_trans ?_ (View.addU_le _ _ _))))) fun v V1 _ hV1 hv => ?_
  subst hv
  conv => whnf
  repeat' first
    | (refine br_t rfl ?_; conv => whnf)
    | (refine br_f rfl ?_; conv => whnf)
    | (refine IdxN.lit rfl rfl ?_; conv => whnf)
    | (intro _; conv => whnf)
  exact ret_pure rfl
theorem sort1_spec (r : List Val) (b : Option Addr) (cap p off c : Nat) (d : Bool) (hr0 : 0 < r.length) (hrs : r.length ≤ 1000) (hp : Plain b) (V : View) (h : V.has p off [.slice b r.length cap]) (hr : ValsAt V r b) :
    PSpec 28 [.slice (some ⟨p, off, none⟩) 1 c, .int .i64 0, .bool d] V (fun v _ => ∃ b' c', v = .slice b' 1 c') := by
  refine does_of_zfun [] mixed (args := [.v _, .v _, .v _]) (ms := []) Try.func28 (by kernel_rfl) rfl ?_
  conv => whnf
  repeat' first
    | (refine br_t rfl ?_; conv => whnf)
    | (refine br_f rfl ?_; conv => whnf)
    | (refine IdxN.lit rfl rfl ?_; conv => whnf)
    | (intro _; conv => whnf)
  rename_i b4
  refine unrollz 2 ?_
  conv => whnf
  repeat' first
    | (refine br_t rfl ?_; conv => whnf)
    | (refine br_f rfl ?_; conv => whnf)
    | (refine IdxN.lit rfl rfl ?_; conv => whnf)
    | (intro _; conv => whnf)
  refine LoadN.of (h.mono (by repeat (first | exact View.le_refl _ | assumption | exact View.addU_le _ _ _ | refine View.le_trans ?_ (by assumption) | refine View.le_trans ?_ (View.addU_le _ _ _)))) 0 rfl rfl ?_
  conv => whnf
  refine CallN.pure (clone_spec r b cap _ (.inr hp) (hr.mono (by repeat (first | exact View.le_refl _ | assumption | exact View.addU_le _ _ _ | refine View.le_trans ?_ (by assumption) | refine View.le_trans ?_ (View.addU_le _ _ _)))) hrs) fun v V1 _ hV1 hv => ?_
  obtain ⟨qb, qc, hqv⟩ := row_shape hv
  subst hqv
  conv => whnf
  intro b2 V2 hV2 h2
  conv => whnf
  refine AppN.to 1 rfl [] [.slice qb r.length qc] rfl rfl h2 rfl rfl (by decide) (by decide) fun base' cap' V3 hV3 hc3 => ?_
  conv => whnf
  repeat' first
    | (refine br_t rfl ?_; conv => whnf)
    | (refine br_f rfl ?_; conv => whnf)
    | (refine IdxN.lit rfl rfl ?_; conv => whnf)
    | (intro _; conv => whnf)
  obtain ⟨q3, o3, rfl, hh3⟩ := cells_some hc3 (by simp)
  refine CallN.lend 4 rfl fun l4 => CallN.pure (contains1_spec p off c b4 b r.length cap 0 (by omega) _ (h.mono (by repeat (first | exact View.le_refl _ | assumption | exact View.addU_le _ _ _ | refine View.le_trans ?_ (by assumption) | refine View.le_trans ?_ (View.addU_le _ _ _)))) View.add_has) fun v V4 _ hV4 hv => ⟨⟨_, rfl⟩, rfl, ?_⟩
  subst hv
  conv => whnf
  repeat' first
    | (refine br_t rfl ?_; conv => whnf)
    | (refine br_f rfl ?_; conv => whnf)
    | (refine IdxN.lit rfl rfl ?_; conv => whnf)
    | (intro _; conv => whnf)
  have hh3 : V3.has q3 o3 [.slice qb r.length qc] := hh3
  refine CallN.pure (sorted1_spec q3 o3 cap' _ rfl rfl b4 d _ (hh3.mono (by repeat (first | exact View.le_refl _ | assumption | exact View.addU_le _ _ _ | refine View.le_trans ?_ (by assumption) | refine View.le_trans ?_ (View.addU_le _ _ _))))) fun v V5 _ hV5 ⟨b', c', hv⟩ => ?_
  subst hv
  conv => whnf
  repeat' first
    | (refine br_t rfl ?_; conv => whnf)
    | (refine br_f rfl ?_; conv => whnf)
    | (refine IdxN.lit rfl rfl ?_; conv => whnf)
    | (intro _; conv => whnf)
  exact ret_pure ⟨b', c', rfl⟩
end Go.Proofs.Ytenpginanhnkbaa
end

section
set_option linter.unusedSimpArgs false
set_option linter.unusedVariables false
namespace Go.Proofs.Ytenpginanhnkbaa
open Go.X
set_option maxRecDepth 100000

theorem holdsN_spec (cb vb : Option Addr) (cl cc vl vc : Nat) (V : View) : PSpec 22 [.slice cb cl cc, .slice vb vl vc, .slice none 0 0] V (fun v _ => v = .tuple #[.bool true, .int .i64 0]) := by
  have h47 : ∀ sc V', PSpec 47 [.slice none 0 0, closure sc] V' (fun v _ => v = .tuple #[.slice none 0 0, .int .i64 0]) := fun sc V' => by
    refine does_of_zfun [] mixed (args := [.v _, .v _]) (ms := []) Try.func47 (by kernel_rfl) rfl ?_
    conv => whnf
    repeat' first
      | (refine br_t rfl ?_; conv => whnf)
      | (refine br_f rfl ?_; conv => whnf)
      | (refine IdxN.lit rfl rfl ?_; conv => whnf)
      | (intro _; conv => whnf)
    refine unrollz 1 ?_
    conv => whnf
    repeat' first
      | (refine br_t rfl ?_; conv => whnf)
      | (refine br_f rfl ?_; conv => whnf)
      | (refine IdxN.lit rfl rfl ?_; conv => whnf)
      | (intro _; conv => whnf)
    exact ret_pure rfl
  refine does_of_zfun [] mixed (args := [.v _, .v _, .v _]) (ms := []) Try.func22 (by kernel_rfl) rfl ?_
  conv => whnf
  repeat' first
    | (refine br_t rfl ?_; conv => whnf)
    | (refine br_f rfl ?_; conv => whnf)
    | (refine IdxN.lit rfl rfl ?_; conv => whnf)
    | (intro _; conv => whnf)
  refine CallN.pure (h47 _ _) fun v V1 _ hV1 hv => ?_
  subst hv
  conv => whnf
  repeat' first
    | (refine br_t rfl ?_; conv => whnf)
    | (refine br_f rfl ?_; conv => whnf)
    | (refine IdxN.lit rfl rfl ?_; conv => whnf)
    | (intro _; conv => whnf)
  refine unrollz 1 ?_
  conv => whnf
  repeat' first
    | (refine br_t rfl ?_; conv => whnf)
    | (refine br_f rfl ?_; conv => whnf)
    | (refine IdxN.lit rfl rfl ?_; conv => whnf)
    | (intro _; conv => whnf)
  exact ret_pure rfl
theorem whereX_all {hold : List Val → Bool × Int} (h : ∀ r, hold r = (true, 0)) : ∀ l, whereX hold l = (l, 0)
  | [] => rfl
  | r :: l => by rw [whereX, h r, whereX_all h l]; simp
theorem begun12_spec (V : View) : PSpec 26 [] V (fun v _ => v = .bool true) := by
  refine does_of_zfun [] mixed (args := []) (ms := []) Try.func26 (by kernel_rfl) rfl ?_
  conv => whnf
  repeat' first
    | (refine br_t rfl ?_; conv => whnf)
    | (refine br_f rfl ?_; conv => whnf)
    | (refine IdxN.lit rfl rfl ?_; conv => whnf)
    | (intro _; conv => whnf)
  rename_i b1 V1 hV1 h1 blk b2 V2 hV2 h2 b3 V3 hV3 h3
  have hvals : ValsAt V3 [⟨1, 3, noText⟩] (some ⟨b2, 0, none⟩) := ⟨fun _ => ⟨b2, 0, rfl, h2.mono (by repeat (first | exact View.le_refl _ | assumption | exact View.addU_le _ _ _ | refine View.le_trans ?_ (by assumption) | refine View.le_trans ?_ (View.addU_le _ _ _)))⟩, by decide⟩
  have hrow : RowAt V3 [⟨1, 3, noText⟩] (.slice (some ⟨b2, 0, none⟩) 1 1) := ⟨_, 1, rfl, .inr (.inr ⟨b2, 0, rfl⟩), hvals⟩
  have hrows : RowsAt V3 [[⟨1, 3, noText⟩]] (some ⟨b3, 0, none⟩) := ⟨⟨[.slice (some ⟨b2, 0, none⟩) 1 1], CellsAt.snoc CellsAt.nil hrow, fun _ => ⟨b3, 0, rfl, h3⟩⟩, by decide⟩
  have hcols : ColsLie V3 [⟨txt [107], 1, noText⟩] b1 := ⟨h1.mono (by repeat (first | exact View.le_refl _ | assumption | exact View.addU_le _ _ _ | refine View.le_trans ?_ (by assumption) | refine View.le_trans ?_ (View.addU_le _ _ _))), fun c hc => by rw [List.mem_singleton.1 hc]; exact .inl rfl, by decide⟩
  refine CallN.pure (select1_spec ⟨6, txt [116], noText, (none, 0, 0), (none, 0, 0), (none, 0, 0), (none, 0, 0), noText, (none, 0, 0), (none, 0, 0), (none, 0, 0), false, (none, 0, 0)⟩ ⟨txt [116], b1, [⟨txt [107], 1, noText⟩], 1, none, 0, 0⟩ ⟨noText, 0, [], 0, none, 0, 0⟩ _ rfl
    [[⟨1, 3, noText⟩]] (some ⟨b3, 0, none⟩) none 1 0 0 (fun _ => (true, 0)) _ noText_list rfl rfl hcols hrows (by decide) (fun r hr => by rw [List.mem_singleton.1 hr]; decide) (fun cb cc V4 hV4 hc r hr v V5 hV5 hra => by
      obtain ⟨qb, qc, hqv⟩ := row_shape hra
      subst hqv
      exact holdsN_spec _ _ _ _ _ _ _)) fun v V4 _ hV4 ⟨x, hv, hok, _⟩ => ?_
  rw [whereX_all (fun _ => rfl)] at hv hok
  obtain ⟨rb, rc, hx, hpl, hr⟩ := hok rfl
  subst hx
  subst hv
  obtain ⟨p, off, c, hb, hcell, hrow2⟩ := hr.at (i := 0) rfl
  subst hb
  obtain ⟨qb, qc, hqv, hqp, hqvals⟩ := hrow2
  subst hqv
  obtain ⟨p2, off2, hb2, hval⟩ := hqvals.at (i := 0) rfl
  subst hb2
  conv => whnf
  repeat' first
    | (refine br_t rfl ?_; conv => whnf)
    | (refine br_f rfl ?_; conv => whnf)
    | (refine IdxN.lit rfl rfl ?_; conv => whnf)
    | (intro _; conv => whnf)
  refine LoadN.of (hcell.mono (by repeat (first | exact View.le_refl _ | assumption | exact View.addU_le _ _ _ | refine View.le_trans ?_ (by assumption) | refine View.le_trans ?_ (View.addU_le _ _ _)))) 0 rfl rfl ?_
  conv => whnf
  repeat' first
    | (refine br_t rfl ?_; conv => whnf)
    | (refine br_f rfl ?_; conv => whnf)
    | (refine IdxN.lit rfl rfl ?_; conv => whnf)
    | (intro _; conv => whnf)
  refine LoadN.of (hcell.mono (by repeat (first | exact View.le_refl _ | assumption | exact View.addU_le _ _ _ | refine View.le_trans ?_ (by assumption) | refine View.le_trans ?_ (View.addU_le _ _ _)))) 0 rfl rfl ?_
  conv => whnf
  repeat' first
    | (refine br_t rfl ?_; conv => whnf)
    | (refine br_f rfl ?_; conv => whnf)
    | (refine IdxN.lit rfl rfl ?_; conv => whnf)
    | (intro _; conv => whnf)
  refine LoadN.of (hval.mono (by repeat (first | exact View.le_refl _ | assumption | exact View.addU_le _ _ _ | refine View.le_trans ?_ (by assumption) | refine View.le_trans ?_ (View.addU_le _ _ _)))) 1 rfl rfl ?_
  conv => whnf
  repeat' first
    | (refine br_t rfl ?_; conv => whnf)
    | (refine br_f rfl ?_; conv => whnf)
    | (refine IdxN.lit rfl rfl ?_; conv => whnf)
    | (intro _; conv => whnf)
  refine CallN.pure (sort1_spec [⟨1, 3, noText⟩] (some ⟨p2, off2, none⟩) qc p (off + 0) rc true (by decide) (by decide) (.inr ⟨p2, off2, rfl⟩) _ (hcell.mono (by repeat (first | exact View.le_refl _ | assumption | exact View.addU_le _ _ _ | refine View.le_trans ?_ (by assumption) | refine View.le_trans ?_ (View.addU_le _ _ _)))) (hqvals.mono (by repeat (first | exact View.le_refl _ | assumption | exact View.addU_le _ _ _ | refine View.le_trans ?_ (by assumption) | refine View.le_trans ?_ (View.addU_le _ _ _))))) fun v V5 _ hV5 ⟨b', c', hv⟩ => ?_
  subst hv
  conv => whnf
  repeat' first
    | (refine br_t rfl ?_; conv => whnf)
    | (refine br_f rfl ?_; conv => whnf)
    | (refine IdxN.lit rfl rfl ?_; conv => whnf)
    | (intro _; conv => whnf)
  exact ret_pure rfl
end Go.Proofs.Ytenpginanhnkbaa
end

section
set_option linter.unusedSimpArgs false
set_option linter.unusedVariables false
namespace Go.Proofs.Ytenpginanhnkbaa
open Go.X
set_option maxRecDepth 100000

/-! ## two lists of rows that read the same -/
theorem samerow_spec (r : List Val) (b1 b2 : Option Addr) (c1 c2 : Nat) (V : View) (h1 : ValsAt V r b1) (h2 : ValsAt V r b2) :
    PSpec 48 [.slice b1 r.length c1, .slice b2 r.length c2] V (fun v _ => v = .bool true) := by
  have hlen := h1.len
  refine does_of_zfun [(6, [(0, []), (1, []), (2, []), (3, []), (4, []), (5, []), (6, []), (7, []), (8, [])])] mixed (args := [.v _, .v _]) (ms := []) Try.func48 (by kernel_rfl) rfl ?_
  conv => whnf
  refine br_f (by simp) ?_
  conv => whnf
  refine loopz (σ := Nat) (fun i => [(0, .v (.slice b1 r.length c1)), (1, .v (.slice b2 r.length c2)), (5, .v (.int .i64 i))]) (fun _ => []) (fun j i V' => V.le V' ∧ i ≤ r.length ∧ r.length - i = j) r.length 0 ?_ ?_ ?_ ?_
  · repeat' (first | exact sees_nil | refine sees_cons rfl rfl rfl ?_)
  · exact keeps_nil
  · exact ⟨View.le_refl _, Nat.zero_le _, rfl⟩
  rintro j i V' ⟨hV, hi, hj⟩
  conv => whnf
  apply br <;> intro h3 <;> conv => whnf
  · have hi1 : i < r.length := by simpa using h3
    obtain ⟨x, hx⟩ : ∃ x, r[i]? = some x := ⟨_, List.getElem?_eq_getElem hi1⟩
    obtain ⟨p, off, hb, hh⟩ := h1.at hx
    obtain ⟨q, off2, hb2, hh2⟩ := h2.at hx
    subst hb; subst hb2
    refine IdxN.of (by omega) (by omega) ?_
    conv => whnf
    refine LoadN.of (hh.mono (by repeat (first | exact View.le_refl _ | assumption | exact View.addU_le _ _ _ | refine View.le_trans ?_ (by assumption) | refine View.le_trans ?_ (View.addU_le _ _ _)))) 0 rfl rfl ?_
    conv => whnf
    refine IdxN.of (by omega) (by omega) ?_
    conv => whnf
    refine LoadN.of (hh2.mono (by repeat (first | exact View.le_refl _ | assumption | exact View.addU_le _ _ _ | refine View.le_trans ?_ (by assumption) | refine View.le_trans ?_ (View.addU_le _ _ _)))) 0 rfl rfl ?_
    conv => whnf
    refine ⟨⟨_, nev_run _ _ x x, ?_⟩⟩
    conv => whnf
    have hsame : (!sameV x x) = false := by rw [sameV_self]; rfl
    refine br_f hsame ?_
    conv => whnf
    refine ⟨j - 1, i + 1, by omega, ?_, keeps_nil, hV, hi1, by omega⟩
    have hw := wrap_big hi1 hlen
    repeat' (first | exact sees_nil | refine sees_cons rfl rfl rfl ?_ | refine sees_cons rfl rfl (by rw [← hw]; rfl) ?_)
  · repeat' first
      | (refine br_t rfl ?_; conv => whnf)
      | (refine br_f rfl ?_; conv => whnf)
      | (refine IdxN.lit rfl rfl ?_; conv => whnf)
      | (intro _; conv => whnf)
    exact ret_pure rfl
theorem samerows_spec (rows : List (List Val)) (b1 b2 : Option Addr) (c1 c2 : Nat) (V : View) (h1 : RowsAt V rows b1) (h2 : RowsAt V rows b2) :
    PSpec 27 [.slice b1 rows.length c1, .slice b2 rows.length c2] V (fun v _ => v = .bool true) := by
  have hlen := h1.len
  refine does_of_zfun [(6, [(0, []), (1, []), (2, []), (3, []), (4, []), (5, []), (6, []), (7, []), (8, []), (9, [])])] mixed (args := [.v _, .v _]) (ms := []) Try.func27 (by kernel_rfl) rfl ?_
  conv => whnf
  refine br_f (by simp) ?_
  conv => whnf
  refine loopz (σ := Nat) (fun i => [(0, .v (.slice b1 rows.length c1)), (1, .v (.slice b2 rows.length c2)), (5, .v (.int .i64 i))]) (fun _ => []) (fun j i V' => V.le V' ∧ i ≤ rows.length ∧ rows.length - i = j) rows.length 0 ?_ ?_ ?_ ?_
  · repeat' (first | exact sees_nil | refine sees_cons rfl rfl rfl ?_)
  · exact keeps_nil
  · exact ⟨View.le_refl _, Nat.zero_le _, rfl⟩
  rintro j i V' ⟨hV, hi, hj⟩
  conv => whnf
  apply br <;> intro h3 <;> conv => whnf
  · have hi1 : i < rows.length := by simpa using h3
    obtain ⟨r, hr1⟩ : ∃ r, rows[i]? = some r := ⟨_, List.getElem?_eq_getElem hi1⟩
    obtain ⟨p, off, c, hb, hcell, hrow⟩ := h1.at hr1
    obtain ⟨q, off2, c2, hb2, hcell2, hrow2⟩ := h2.at hr1
    obtain ⟨rb, rcap, hrv, _, hv1⟩ := hrow
    obtain ⟨rb2, rcap2, hrv2, _, hv2⟩ := hrow2
    subst hb; subst hb2; subst hrv; subst hrv2
    refine IdxN.of (by omega) (by omega) ?_
    conv => whnf
    refine LoadN.of (hcell.mono (by repeat (first | exact View.le_refl _ | assumption | exact View.addU_le _ _ _ | refine View.le_trans ?_ (by assumption) | refine View.le_trans ?_ (View.addU_le _ _ _)))) 0 (by show off + i * 1 = off + i + 0; omega) rfl ?_
    conv => whnf
    refine IdxN.of (by omega) (by omega) ?_
    conv => whnf
    refine LoadN.of (hcell2.mono (by repeat (first | exact View.le_refl _ | assumption | exact View.addU_le _ _ _ | refine View.le_trans ?_ (by assumption) | refine View.le_trans ?_ (View.addU_le _ _ _)))) 0 (by show off2 + i * 1 = off2 + i + 0; omega) rfl ?_
    conv => whnf
    refine CallN.pure (samerow_spec r rb rb2 rcap rcap2 _ (hv1.mono (by repeat (first | exact View.le_refl _ | assumption | exact View.addU_le _ _ _ | refine View.le_trans ?_ (by assumption) | refine View.le_trans ?_ (View.addU_le _ _ _)))) (hv2.mono (by repeat (first | exact View.le_refl _ | assumption | exact View.addU_le _ _ _ | refine View.le_trans ?_ (by assumption) | refine View.le_trans ?_ (View.addU_le _ _ _))))) fun v V2 _ hV2 hv => ?_
    subst hv
    refine Prot.refl ?_
    conv => whnf
    repeat' first
      | (refine br_t rfl ?_; conv => whnf)
      | (refine br_f rfl ?_; conv => whnf)
      | (refine IdxN.lit rfl rfl ?_; conv => whnf)
      | (intro _; conv => whnf)
    refine ⟨j - 1, i + 1, by omega, ?_, keeps_nil, View.le_trans hV hV2, hi1, by omega⟩
    have hw := wrap_big hi1 hlen
    repeat' (first | exact sees_nil | refine sees_cons rfl rfl rfl ?_ | refine sees_cons rfl rfl (by rw [← hw]; rfl) ?_)
  · repeat' first
      | (refine br_t rfl ?_; conv => whnf)
      | (refine br_f rfl ?_; conv => whnf)
      | (refine IdxN.lit rfl rfl ?_; conv => whnf)
      | (intro _; conv => whnf)
    exact ret_pure rfl
/-- the reference's Holds -/
theorem rholds_spec (cs vs : Value) (p off cap : Nat) (x : XC) (r : Val × Int) (V : View) (hs : V.has p off (xcells x))
    (h : ∀ V', V.le V' → PSpec 21 [cs, vs, xagg x] V' (fun v _ => v = pairX r)) :
    PSpec 34 [cs, vs, .slice (some ⟨p, off, none⟩) 1 cap] V (fun v _ => v = .tuple #[.bool (holdsX r).1, .int .i64 (holdsX r).2]) := by
  refine does_of_zfun [] mixed (args := [.v _, .v _, .v _]) (ms := []) Try.func34 (by kernel_rfl) rfl ?_
  conv => whnf
  repeat' first
    | (refine br_t rfl ?_; conv => whnf)
    | (refine br_f rfl ?_; conv => whnf)
    | (refine IdxN.lit rfl rfl ?_; conv => whnf)
    | (intro _; conv => whnf)
  refine LoadN.of (hs.mono (by repeat (first | exact View.le_refl _ | assumption | exact View.addU_le _ _ _ | refine View.le_trans ?_ (by assumption) | refine View.le_trans ?_ (View.addU_le _ _ _)))) 0 rfl rfl ?_
  conv => whnf
  refine CallN.pure (h _ (by repeat (first | exact View.le_refl _ | assumption | exact View.addU_le _ _ _ | refine View.le_trans ?_ (by assumption) | refine View.le_trans ?_ (View.addU_le _ _ _)))) fun v V1 _ hV1 hv => ?_
  subst hv
  obtain ⟨⟨rk, rn, rt⟩, re⟩ := r
  conv => whnf
  repeat' first
    | (refine br_t rfl ?_; conv => whnf)
    | (refine br_f rfl ?_; conv => whnf)
    | (refine IdxN.lit rfl rfl ?_; conv => whnf)
    | (intro _; conv => whnf)
  apply br <;> intro h3 <;> conv => whnf
  · repeat' first
      | (refine br_t rfl ?_; conv => whnf)
      | (refine br_f rfl ?_; conv => whnf)
      | (refine IdxN.lit rfl rfl ?_; conv => whnf)
      | (intro _; conv => whnf)
    have h3 : re = 0 := by simpa using h3
    exact ret_pure (by rw [holdsX, if_pos h3]; subst h3; rfl)
  · have h3 : re ≠ 0 := by simpa using h3
    exact ret_pure (by rw [holdsX, if_neg h3]; rfl)
end Go.Proofs.Ytenpginanhnkbaa
end
