import Derived.Test.YtchfbblpflcniaaProg
import Derived.KernelRfl
import Derived.Test.YtchfbblpflcniaaRows
import Derived.Laws.Rows
import Derived.StillTailTactics
import Derived.Laws.CopyOwn
import Derived.Shelf.Small.Bits
import Derived.Shelf.Strconv.Itoa0
import Derived.Shelf.Bits.Mul64
import Derived.Laws.Externs
import Derived.Shelf.Spec.BitsCarry
import Derived.WalkKit
import Derived.BigQuiet
import Derived.Deep.QuietTactic
import Derived.Deep.RegionHeld3
import Derived.Test.YtchfbblpflcniaaM2

/-
  The types of this seat's program, as the evaluator reads them. Printed by a small program.
-/
set_option linter.unusedVariables false
set_option maxRecDepth 10000
namespace Go.Proofs.Ytchfbblpflcniaa.Sx
open Go
noncomputable def tys : Tys := [(0, Try.t0, Try.t0.desc),
  (1, Try.t1, Try.t1.desc),
  (2, Try.t2, Try.t2.desc),
  (3, Try.t3, Try.t3.desc),
  (4, Try.t4, Try.t4.desc),
  (5, Try.t5, Try.t5.desc),
  (6, Try.t6, Try.t5.desc),
  (7, Try.t7, Try.t7.desc),
  (8, Try.t8, Try.t7.desc),
  (9, Try.t9, Try.t9.desc),
  (10, Try.t10, Try.t9.desc),
  (11, Try.t11, Try.t9.desc),
  (12, Try.t12, Try.t12.desc),
  (13, Try.t13, Try.t13.desc),
  (14, Try.t14, Try.t13.desc),
  (15, Try.t15, Try.t15.desc),
  (16, Try.t16, Try.t16.desc),
  (17, Try.t17, Try.t17.desc),
  (18, Try.t18, Try.t18.desc),
  (19, Try.t19, Try.t18.desc),
  (20, Try.t20, Try.t20.desc),
  (21, Try.t21, Try.t21.desc),
  (22, Try.t22, Try.t22.desc),
  (23, Try.t23, Try.t22.desc),
  (24, Try.t24, Try.t24.desc),
  (25, Try.t25, Try.t24.desc),
  (26, Try.t26, Try.t26.desc),
  (27, Try.t27, Try.t26.desc),
  (28, Try.t28, Try.t3.desc),
  (29, Try.t29, Try.t29.desc),
  (30, Try.t30, Try.t30.desc),
  (31, Try.t31, Try.t31.desc),
  (32, Try.t32, Try.t32.desc),
  (33, Try.t33, Try.t33.desc),
  (34, Try.t34, Try.t34.desc),
  (35, Try.t35, Try.t35.desc),
  (36, Try.t36, Try.t36.desc),
  (37, Try.t37, Try.t37.desc),
  (38, Try.t38, Try.t38.desc),
  (39, Try.t39, Try.t39.desc),
  (40, Try.t40, Try.t40.desc),
  (41, Try.t41, Try.t41.desc),
  (42, Try.t42, Try.t42.desc),
  (43, Try.t43, Try.t43.desc),
  (44, Try.t44, Try.t44.desc),
  (45, Try.t45, Try.t45.desc),
  (46, Try.t46, Try.t46.desc),
  (47, Try.t47, Try.t47.desc),
  (48, Try.t48, Try.t48.desc),
  (49, Try.t49, Try.t49.desc),
  (50, Try.t50, Try.t49.desc),
  (51, Try.t51, Try.t51.desc),
  (52, Try.t52, Try.t51.desc),
  (53, Try.t53, Try.t53.desc),
  (54, Try.t54, Try.t54.desc),
  (55, Try.t55, Try.t55.desc),
  (56, Try.t56, Try.t56.desc),
  (57, Try.t57, Try.t56.desc),
  (58, Try.t58, Try.t58.desc),
  (59, Try.t59, Try.t59.desc),
  (60, Try.t60, Try.t60.desc),
  (61, Try.t61, Try.t61.desc),
  (62, Try.t62, Try.t62.desc),
  (63, Try.t63, Try.t63.desc),
  (64, Try.t64, Try.t64.desc),
  (65, Try.t65, Try.t65.desc),
  (66, Try.t66, Try.t66.desc),
  (67, Try.t67, Try.t67.desc),
  (68, Try.t68, Try.t68.desc),
  (69, Try.t69, Try.t69.desc),
  (70, Try.t70, Try.t70.desc),
  (71, Try.t71, Try.t71.desc),
  (72, Try.t72, Try.t72.desc),
  (73, Try.t73, Try.t73.desc),
  (74, Try.t74, Try.t74.desc),
  (75, Try.t75, Try.t75.desc),
  (76, Try.t76, Try.t76.desc),
  (77, Try.t77, Try.t77.desc),
  (78, Try.t78, Try.t78.desc),
  (79, Try.t79, Try.t79.desc),
  (80, Try.t80, Try.t80.desc),
  (81, Try.t81, Try.t81.desc),
  (82, Try.t82, Try.t82.desc),
  (83, Try.t83, Try.t83.desc),
  (84, Try.t84, Try.t84.desc),
  (85, Try.t85, Try.t85.desc),
  (86, Try.t86, Try.t86.desc),
  (87, Try.t87, Try.t87.desc),
  (88, Try.t88, Try.t88.desc),
  (89, Try.t89, Try.t89.desc),
  (90, Try.t90, Try.t90.desc),
  (91, Try.t91, Try.t91.desc),
  (92, Try.t92, Try.t92.desc),
  (93, Try.t93, Try.t93.desc),
  (94, Try.t94, Try.t94.desc),
  (95, Try.t95, Try.t95.desc),
  (96, Try.t96, Try.t96.desc),
  (97, Try.t97, Try.t97.desc),
  (98, Try.t98, Try.t98.desc),
  (99, Try.t99, Try.t99.desc),
  (100, Try.t100, Try.t100.desc),
  (101, Try.t101, Try.t101.desc),
  (102, Try.t102, Try.t102.desc),
  (103, Try.t103, Try.t103.desc),
  (104, Try.t104, Try.t104.desc),
  (105, Try.t105, Try.t105.desc),
  (106, Try.t106, Try.t106.desc),
  (107, Try.t107, Try.t107.desc),
  (108, Try.t108, Try.t108.desc),
  (109, Try.t109, Try.t109.desc),
  (110, Try.t110, Try.t110.desc),
  (111, Try.t111, Try.t111.desc),
  (112, Try.t112, Try.t112.desc),
  (113, Try.t113, Try.t113.desc),
  (114, Try.t114, Try.t114.desc),
  (115, Try.t115, Try.t115.desc),
  (116, Try.t116, Try.t116.desc),
  (117, Try.t117, Try.t117.desc),
  (118, Try.t118, Try.t118.desc),
  (119, Try.t119, Try.t119.desc),
  (120, Try.t120, Try.t120.desc),
  (121, Try.t121, Try.t120.desc),
  (122, Try.t122, Try.t122.desc),
  (123, Try.t123, Try.t123.desc),
  (124, Try.t124, Try.t124.desc),
  (125, Try.t125, Try.t124.desc),
  (126, Try.t126, Try.t126.desc),
  (127, Try.t127, Try.t127.desc),
  (128, Try.t128, Try.t127.desc),
  (129, Try.t129, Try.t5.desc),
  (130, Try.t130, Try.t5.desc),
  (131, Try.t131, Try.t131.desc),
  (132, Try.t132, Try.t132.desc),
  (133, Try.t133, Try.t21.desc),
  (134, Try.t134, Try.t21.desc),
  (135, Try.t135, Try.t135.desc),
  (136, Try.t136, Try.t135.desc),
  (137, Try.t137, Try.t137.desc),
  (138, Try.t138, Try.t137.desc),
  (139, Try.t139, Try.t139.desc)]
theorem tysOK : TysOK Try.prog tys := TysAll.ok (
  ⟨⟨Try.type0, Try.underlying0⟩,
  ⟨⟨Try.type1, Try.underlying1⟩,
  ⟨⟨Try.type2, Try.underlying2⟩,
  ⟨⟨Try.type3, Try.underlying3⟩,
  ⟨⟨Try.type4, Try.underlying4⟩,
  ⟨⟨Try.type5, Try.underlying5⟩,
  ⟨⟨Try.type6, Try.underlying6⟩,
  ⟨⟨Try.type7, Try.underlying7⟩,
  ⟨⟨Try.type8, Try.underlying8⟩,
  ⟨⟨Try.type9, Try.underlying9⟩,
  ⟨⟨Try.type10, Try.underlying10⟩,
  ⟨⟨Try.type11, Try.underlying11⟩,
  ⟨⟨Try.type12, Try.underlying12⟩,
  ⟨⟨Try.type13, Try.underlying13⟩,
  ⟨⟨Try.type14, Try.underlying14⟩,
  ⟨⟨Try.type15, Try.underlying15⟩,
  ⟨⟨Try.type16, Try.underlying16⟩,
  ⟨⟨Try.type17, Try.underlying17⟩,
  ⟨⟨Try.type18, Try.underlying18⟩,
  ⟨⟨Try.type19, Try.underlying19⟩,
  ⟨⟨Try.type20, Try.underlying20⟩,
  ⟨⟨Try.type21, Try.underlying21⟩,
  ⟨⟨Try.type22, Try.underlying22⟩,
  ⟨⟨Try.type23, Try.underlying23⟩,
  ⟨⟨Try.type24, Try.underlying24⟩,
  ⟨⟨Try.type25, Try.underlying25⟩,
  ⟨⟨Try.type26, Try.underlying26⟩,
  ⟨⟨Try.type27, Try.underlying27⟩,
  ⟨⟨Try.type28, Try.underlying28⟩,
  ⟨⟨Try.type29, Try.underlying29⟩,
  ⟨⟨Try.type30, Try.underlying30⟩,
  ⟨⟨Try.type31, Try.underlying31⟩,
  ⟨⟨Try.type32, Try.underlying32⟩,
  ⟨⟨Try.type33, Try.underlying33⟩,
  ⟨⟨Try.type34, Try.underlying34⟩,
  ⟨⟨Try.type35, Try.underlying35⟩,
  ⟨⟨Try.type36, Try.underlying36⟩,
  ⟨⟨Try.type37, Try.underlying37⟩,
  ⟨⟨Try.type38, Try.underlying38⟩,
  ⟨⟨Try.type39, Try.underlying39⟩,
  ⟨⟨Try.type40, Try.underlying40⟩,
  ⟨⟨Try.type41, Try.underlying41⟩,
  ⟨⟨Try.type42, Try.underlying42⟩,
  ⟨⟨Try.type43, Try.underlying43⟩,
  ⟨⟨Try.type44, Try.underlying44⟩,
  ⟨⟨Try.type45, Try.underlying45⟩,
  ⟨⟨Try.type46, Try.underlying46⟩,
  ⟨⟨Try.type47, Try.underlying47⟩,
  ⟨⟨Try.type48, Try.underlying48⟩,
  ⟨⟨Try.type49, Try.underlying49⟩,
  ⟨⟨Try.type50, Try.underlying50⟩,
  ⟨⟨Try.type51, Try.underlying51⟩,
  ⟨⟨Try.type52, Try.underlying52⟩,
  ⟨⟨Try.type53, Try.underlying53⟩,
  ⟨⟨Try.type54, Try.underlying54⟩,
  ⟨⟨Try.type55, Try.underlying55⟩,
  ⟨⟨Try.type56, Try.underlying56⟩,
  ⟨⟨Try.type57, Try.underlying57⟩,
  ⟨⟨Try.type58, Try.underlying58⟩,
  ⟨⟨Try.type59, Try.underlying59⟩,
  ⟨⟨Try.type60, Try.underlying60⟩,
  ⟨⟨Try.type61, Try.underlying61⟩,
  ⟨⟨Try.type62, Try.underlying62⟩,
  ⟨⟨Try.type63, Try.underlying63⟩,
  ⟨⟨Try.type64, Try.underlying64⟩,
  ⟨⟨Try.type65, Try.underlying65⟩,
  ⟨⟨Try.type66, Try.underlying66⟩,
  ⟨⟨Try.type67, Try.underlying67⟩,
  ⟨⟨Try.type68, Try.underlying68⟩,
  ⟨⟨Try.type69, Try.underlying69⟩,
  ⟨⟨Try.type70, Try.underlying70⟩,
  ⟨⟨Try.type71, Try.underlying71⟩,
  ⟨⟨Try.type72, Try.underlying72⟩,
  ⟨⟨Try.type73, Try.underlying73⟩,
  ⟨⟨Try.type74, Try.underlying74⟩,
  ⟨⟨Try.type75, Try.underlying75⟩,
  ⟨⟨Try.type76, Try.underlying76⟩,
  ⟨⟨Try.type77, Try.underlying77⟩,
  ⟨⟨Try.type78, Try.underlying78⟩,
  ⟨⟨Try.type79, Try.underlying79⟩,
  ⟨⟨Try.type80, Try.underlying80⟩,
  ⟨⟨Try.type81, Try.underlying81⟩,
  ⟨⟨Try.type82, Try.underlying82⟩,
  ⟨⟨Try.type83, Try.underlying83⟩,
  ⟨⟨Try.type84, Try.underlying84⟩,
  ⟨⟨Try.type85, Try.underlying85⟩,
  ⟨⟨Try.type86, Try.underlying86⟩,
  ⟨⟨Try.type87, Try.underlying87⟩,
  ⟨⟨Try.type88, Try.underlying88⟩,
  ⟨⟨Try.type89, Try.underlying89⟩,
  ⟨⟨Try.type90, Try.underlying90⟩,
  ⟨⟨Try.type91, Try.underlying91⟩,
  ⟨⟨Try.type92, Try.underlying92⟩,
  ⟨⟨Try.type93, Try.underlying93⟩,
  ⟨⟨Try.type94, Try.underlying94⟩,
  ⟨⟨Try.type95, Try.underlying95⟩,
  ⟨⟨Try.type96, Try.underlying96⟩,
  ⟨⟨Try.type97, Try.underlying97⟩,
  ⟨⟨Try.type98, Try.underlying98⟩,
  ⟨⟨Try.type99, Try.underlying99⟩,
  ⟨⟨Try.type100, Try.underlying100⟩,
  ⟨⟨Try.type101, Try.underlying101⟩,
  ⟨⟨Try.type102, Try.underlying102⟩,
  ⟨⟨Try.type103, Try.underlying103⟩,
  ⟨⟨Try.type104, Try.underlying104⟩,
  ⟨⟨Try.type105, Try.underlying105⟩,
  ⟨⟨Try.type106, Try.underlying106⟩,
  ⟨⟨Try.type107, Try.underlying107⟩,
  ⟨⟨Try.type108, Try.underlying108⟩,
  ⟨⟨Try.type109, Try.underlying109⟩,
  ⟨⟨Try.type110, Try.underlying110⟩,
  ⟨⟨Try.type111, Try.underlying111⟩,
  ⟨⟨Try.type112, Try.underlying112⟩,
  ⟨⟨Try.type113, Try.underlying113⟩,
  ⟨⟨Try.type114, Try.underlying114⟩,
  ⟨⟨Try.type115, Try.underlying115⟩,
  ⟨⟨Try.type116, Try.underlying116⟩,
  ⟨⟨Try.type117, Try.underlying117⟩,
  ⟨⟨Try.type118, Try.underlying118⟩,
  ⟨⟨Try.type119, Try.underlying119⟩,
  ⟨⟨Try.type120, Try.underlying120⟩,
  ⟨⟨Try.type121, Try.underlying121⟩,
  ⟨⟨Try.type122, Try.underlying122⟩,
  ⟨⟨Try.type123, Try.underlying123⟩,
  ⟨⟨Try.type124, Try.underlying124⟩,
  ⟨⟨Try.type125, Try.underlying125⟩,
  ⟨⟨Try.type126, Try.underlying126⟩,
  ⟨⟨Try.type127, Try.underlying127⟩,
  ⟨⟨Try.type128, Try.underlying128⟩,
  ⟨⟨Try.type129, Try.underlying129⟩,
  ⟨⟨Try.type130, Try.underlying130⟩,
  ⟨⟨Try.type131, Try.underlying131⟩,
  ⟨⟨Try.type132, Try.underlying132⟩,
  ⟨⟨Try.type133, Try.underlying133⟩,
  ⟨⟨Try.type134, Try.underlying134⟩,
  ⟨⟨Try.type135, Try.underlying135⟩,
  ⟨⟨Try.type136, Try.underlying136⟩,
  ⟨⟨Try.type137, Try.underlying137⟩,
  ⟨⟨Try.type138, Try.underlying138⟩,
  ⟨⟨Try.type139, Try.underlying139⟩, trivial⟩⟩⟩⟩⟩⟩⟩⟩⟩⟩⟩⟩⟩⟩⟩⟩⟩⟩⟩⟩⟩⟩⟩⟩⟩⟩⟩⟩⟩⟩⟩⟩⟩⟩⟩⟩⟩⟩⟩⟩⟩⟩⟩⟩⟩⟩⟩⟩⟩⟩⟩⟩⟩⟩⟩⟩⟩⟩⟩⟩⟩⟩⟩⟩⟩⟩⟩⟩⟩⟩⟩⟩⟩⟩⟩⟩⟩⟩⟩⟩⟩⟩⟩⟩⟩⟩⟩⟩⟩⟩⟩⟩⟩⟩⟩⟩⟩⟩⟩⟩⟩⟩⟩⟩⟩⟩⟩⟩⟩⟩⟩⟩⟩⟩⟩⟩⟩⟩⟩⟩⟩⟩⟩⟩⟩⟩⟩⟩⟩⟩⟩⟩⟩⟩⟩⟩⟩⟩⟩⟩)
theorem mixed : Try.prog.follows .mixedOrders = true := by kernel_rfl
end Go.Proofs.Ytchfbblpflcniaa.Sx


/-
  min, max of two numbers; a loop of a few rounds, unrolled.
-/
set_option linter.unusedVariables false
set_option linter.unusedSimpArgs false
namespace Go.Proofs.Ytchfbblpflcniaa
open Go Go.RowKit Sx

theorem N.min2 {ts : Array TypeId} {t : TypeId} {k : IntKind} {x y : Int} {K : Value → Prop} (h : K (.int k (min x y))) : N (BuiltN Try.prog .min ts t [.int k x, .int k y] K) := by
  refine N.mk ⟨.int k (min x y), ⟨rfl, rfl, fun cs w => ?_⟩, h⟩
  have e : (if y < x then y else x) = min x y := by split <;> omega
  show (do pure (Next.value (← Builtin.min_ ts t #[.int k x, .int k y])) : Sem _).run Try.prog w = _
  rw [Sem.run_bind, run_min_int2, e]; rfl
theorem N.max2 {ts : Array TypeId} {t : TypeId} {k : IntKind} {x y : Int} {K : Value → Prop} (h : K (.int k (max x y))) : N (BuiltN Try.prog .max ts t [.int k x, .int k y] K) := by
  refine N.mk ⟨.int k (max x y), ⟨rfl, rfl, fun cs w => ?_⟩, h⟩
  have e : (if y > x then y else x) = max x y := by split <;> omega
  show (do pure (Next.value (← Builtin.max_ ts t #[.int k x, .int k y])) : Sem _).run Try.prog w = _
  rw [Sem.run_bind, run_max_int2, e]; rfl
/-- A loop of a few rounds, unrolled. -/
noncomputable def Roll (A : CodeT) (Q : Exit → St → Prop) (k : Nat) : St → Prop := Nat.rec (motive := fun _ => St → Prop) (fun _ => False) (fun _ W st => A (thenQ W Q) st) k
theorem N.roll {P : Program} {G : Tys} {n0 : Nat} {c : Code} {A : (Exit → St → Prop) → St → Prop} {Q : Exit → St → Prop} {st : St} (k : Nat) (h : Roll A Q k st) : N (LoopN P G n0 c A Q st) :=
  N.mk ⟨(k : Nat) × {s : St // Roll A Q k s}, fun x => x.2.1, fun _ => True, fun x => x.1, fun x s => ∃ j, x.1 = j + 1 ∧ Roll A Q j s, fun x s hx => by
    obtain ⟨j, hj, hr⟩ := hx
    refine ⟨⟨j, s, hr⟩, trivial, ?_, by show j < x.1; omega⟩
    exact (Wk.refl _ _).g, ⟨⟨k, st, h⟩, trivial, (Wk.refl _ _).g⟩, fun x _ => by
    obtain ⟨k, s, hs⟩ := x
    cases k with
    | zero => exact hs.elim
    | succ j =>
      have : (fun s' => ∃ i, j + 1 = i + 1 ∧ Roll A Q i s') = Roll A Q j := by
        funext s'
        refine propext ⟨fun ⟨i, hi, hr⟩ => ?_, fun hr => ⟨j, rfl, hr⟩⟩
        have : j = i := by simpa using hi
        subst this; exact hr
      show A (thenQ (fun s' => ∃ i, j + 1 = i + 1 ∧ Roll A Q i s') Q) s
      rw [this]; exact hs⟩
theorem Try.own : ownKnob Try.prog.godebug = none := by kernel_rfl
theorem Try.laidOut : laidOutB Try.prog = true := by kernel_rfl
end Go.Proofs.Ytchfbblpflcniaa


/-
  The walks of the document's numbers: trim, bits, cmp.
-/
set_option linter.unusedVariables false
set_option linter.unusedSimpArgs false
namespace Go.Proofs.Ytchfbblpflcniaa
open Go Go.RowKit Sx

theorem i64n (n : Int) (h0 : -9223372036854775808 ≤ n) (h1 : n < 9223372036854775808) : IntKind.i64.wrap n = n := by rw [IntKind.wrap_i64]; omega
theorem re_eqn {ix : List (Nat × Nat)} {v u : Value} (h : v = u) (hp : plain3 v = true) : Re ix v u := by subst h; exact .plain hp
theorem inteq {k : IntKind} {a b : Int} (h : a = b) : Value.int k a = .int k b := by rw [h]
theorem re_sl {ix : List (Nat × Nat)} {i k l l' c : Nat} (h : ixK ix k = some i) (e : l = l') : Re ix (.slice (some ⟨i, 0, some 0⟩) l c) (.slice (some ⟨k, 0, some 0⟩) l' c) := by subst e; exact .one (.slice h)
theorem MakeN.mk1 {a b : Int} {bytes size : Nat} {K : Nat → Nat → Prop} {K0 : Prop} (n m : Nat) (ha : a = (n : Nat)) (hb : b = (n : Nat)) (h1 : bytes * n ≤ 281474976710656) (h2 : n ≤ 9223372036854775807) (hm : m = n * size) (k : K n m) : N (MakeN a b bytes size K K0) := N.mk (.inl ⟨n, m, ha, hb, h1, h2, hm, k⟩)
/-- Words of a number, m of them. -/
abbrev numC (o : Bool) (m v : Nat) : Chunk := ⟨o, m, [(0, m, .agg ⟨segL m (fun j => .int .u32 ((lm v j : Nat) : Int))⟩)]⟩
/-- A stretch that holds the words of a number. -/
def IsNum (c : Chunk) (m v : Nat) : Prop := c.n = m ∧ ∀ j, j < m → c.f j = .int .u32 ((lm v j : Nat) : Int)
theorem isNum (o : Bool) (m v : Nat) : IsNum (numC o m v) m v := ⟨rfl, fun j hj => seg_cell hj⟩
theorem num_re {ix : List (Nat × Nat)} {c : Chunk} {o : Bool} {m v : Nat} (hc : IsNum c m v) : ChunkRe ix c (numC o m v) := fun j hj => by
  have hj : j < m := hj
  rw [seg_cell hj, hc.2 j hj]; exact .plain rfl
theorem reads_num {o : Bool} {m v p q : Nat} (h : p < m) (e : q = p) : Reads (numC o m v) q false 1 (.int .u32 ((lm v p : Nat) : Int)) := by
  subst e; exact reads_seg1 h rfl rfl
theorem N.bnd {lo hi : Option Value} {len cap : Nat} {K : Nat → Nat → Nat → Prop} (p q s : Nat) (h1 : Bnd hi len cap q) (h2 : Bnd lo 0 q p) (k : K p q s) : N (BndN lo hi len cap K) := N.mk ⟨p, q, s, h1, h2, k⟩
theorem sl_cut {i m x y : Nat} (h : y = x) : Value.slice (some ⟨i, 0 + (if m = 0 then 0 else 0 * 1), some 0⟩) (y - 0) (m - 0) = .slice (some ⟨i, 0, some 0⟩) x m := by
  subst h; simp
set_option maxRecDepth 100000 in
set_option maxHeartbeats 2000000 in
theorem cTrim (v m l i : Nat) (o : Chunk) (h : List (Option Chunk)) (hi : h[i]? = some (some o)) (hin : IsNum o m v) (hl : l ≤ m) (hm : m ≤ 1000000) (hv : v < bw l) :
    CallOK Try.prog 91 [.slice (some ⟨i, 0, some 0⟩) l m] h (.slice (some ⟨i, 0, some 0⟩) (nl v) m) [] [i] := by
  refine call_sub (G := tys) [⟨i, _, numC false m v, ⟨false, 0, []⟩⟩] [] [.slice (some ⟨0, 0, some 0⟩) l m] tysOK mixed Try.func91 (by rfl) (Try.call91) ⟨hi, trivial⟩ ⟨⟨fun h => (by cases h), Nat.le_of_eq hin.1.symm, num_re hin⟩, trivial⟩ (by simp [Apart]) trivial ⟨.slice rfl, trivial⟩ ?_
  repeat' (refine N.go ?_; first | with_reducible (first | refine N.obl (by decide) ?_ | refine N.eq ?_ | refine N.obl rfl ?_ | refine N.obl ⟨by kernel_rfl, by kernel_rfl⟩ ?_ | refine N.alt ?_ | refine N.forkT ?_ | refine N.forkF ?_) | fail)
  refine N.go ?_
  refine N.loop (α := Nat) (fun x => x ≤ l ∧ v < bw x) (fun x => x) (fun x => [(0, .slice (some ⟨0, 0, some 0⟩) x m)]) (fun _ => []) l ⟨Nat.le_refl _, hv⟩ ?_ ?_
  · repeat (refine N.go ?_; first | exact N.true | with_reducible (first | refine N.obl rfl ?_ | refine N.obl (ChunkLe.refl _) ?_) | refine N.obl (int_i64 (by rw [IntWalk.i64_in _ (by omega)]; rfl)) ?_ |  fail_if_success skip)
  · intro x hx
    obtain ⟨x1, x2⟩ := hx
    rcases Nat.eq_zero_or_pos x with rfl | hp
    · have hv0 : v = 0 := by rw [bw_zero] at x2; omega
      subst hv0
      repeat' (refine N.go ?_; first | with_reducible (first | refine N.obl (by decide) ?_ | refine N.eq ?_ | refine N.obl rfl ?_ | refine N.obl ⟨by kernel_rfl, by kernel_rfl⟩ ?_ | refine N.alt ?_ | refine N.forkT ?_ | refine N.forkF ?_) | refine N.forkNo (by decide) ?_ | refine N.forkYes (by decide) ?_ | refine N.obl (re_sl (by rfl) nl_zero) ?_ | refine N.obl trivial ?_ | exact N.true | fail)
    · obtain ⟨y, rfl⟩ : ∃ y, x = y + 1 := ⟨x - 1, by omega⟩
      have e1 : IntKind.i64.wrap (((y + 1 : Nat) : Int) - 1) = (y : Int) := by rw [i64n _ (by omega) (by omega)]; omega
      by_cases h0 : lm v y = 0
      · have x3 := (trim_word x2).1 h0
        repeat' (refine N.go ?_; first | with_reducible (first | refine N.obl (by decide) ?_ | refine N.eq ?_ | refine N.obl rfl ?_ | refine N.obl ⟨by kernel_rfl, by kernel_rfl⟩ ?_ | refine N.alt ?_ | refine N.forkT ?_ | refine N.forkF ?_) | refine N.idx y 1 e1 (by omega) ?_ | refine N.load _ (reads_num (p := y) (by omega) (by omega)) ?_ | refine N.forkYes (by rw [h0]; rfl) ?_ | refine N.forkYes (by rw [decide_eq_true_eq]; omega) ?_ | refine N.bnd 0 y 0 ⟨e1, by omega⟩ rfl ?_ | fail)
        refine N.go ?_
        refine N.next y ⟨⟨by omega, x3⟩, by omega⟩ ?_
        repeat (refine N.go ?_; first | exact N.true | with_reducible (first | refine N.obl rfl ?_ | refine N.obl (ChunkLe.refl _) ?_) | refine N.obl (int_i64 (by rw [IntWalk.i64_in _ (by omega)]; rfl)) ?_ | refine N.obl (sl_cut rfl) ?_ |  fail_if_success skip)
      · have x3 : nl v = y + 1 := nl_eq x2 (by rcases Nat.lt_or_ge v (bw y) with h | h; exact absurd (lm_big h) h0; exact h)
        repeat' (refine N.go ?_; first | with_reducible (first | refine N.obl (by decide) ?_ | refine N.eq ?_ | refine N.obl rfl ?_ | refine N.obl ⟨by kernel_rfl, by kernel_rfl⟩ ?_ | refine N.alt ?_ | refine N.forkT ?_ | refine N.forkF ?_) | refine N.idx y 1 e1 (by omega) ?_ | refine N.load _ (reads_num (p := y) (by omega) (by omega)) ?_ | refine N.forkNo (by rw [beq_eq_false_iff_ne]; omega) ?_ | refine N.forkYes (by rw [decide_eq_true_eq]; omega) ?_ | refine N.obl (re_sl (by rfl) x3) ?_ | refine N.obl trivial ?_ | exact N.true | fail)
/-- How many bits a word has. -/
def bn : Nat → Nat
  | 0 => 0
  | v + 1 => bn ((v + 1) / 2) + 1
decreasing_by exact Nat.div_lt_self (by omega) (by decide)
theorem bn_zero : bn 0 = 0 := by unfold bn; rfl
theorem bn_pos {v : Nat} (h : 0 < v) : bn v = bn (v / 2) + 1 := by
  obtain ⟨u, rfl⟩ : ∃ u, v = u + 1 := ⟨v - 1, by omega⟩
  rw [bn]
theorem bn_le : ∀ (n v : Nat), v < 2 ^ n → bn v ≤ n
  | 0, v, h => by
    obtain rfl : v = 0 := by simpa using h
    rw [bn_zero]; exact Nat.le_refl _
  | n + 1, v, h => by
    rcases Nat.eq_zero_or_pos v with rfl | hv
    · rw [bn_zero]; exact Nat.zero_le _
    · rw [bn_pos hv]
      have := bn_le n (v / 2) (by rw [Nat.pow_succ] at h; omega)
      omega
theorem fd1 (n : Nat) : ((n : Nat) : Int).fdiv (2 ^ sh 1 IntKind.u32) = ((n / 2 : Nat) : Int) := by
  rw [show sh 1 IntKind.u32 = 1 from by decide, Int.fdiv_eq_ediv_of_nonneg _ (by decide)]; omega
theorem fd32 (n : Nat) : ((n : Nat) : Int).fdiv (2 ^ sh 32 IntKind.u64) = ((n / 4294967296 : Nat) : Int) := by
  rw [show sh 32 IntKind.u64 = 32 from by decide, Int.fdiv_eq_ediv_of_nonneg _ (by decide)]; omega
def bitn (v : Nat) : Nat := if v = 0 then 0 else 32 * (nl v - 1) + bn (lm v (nl v - 1))
theorem bitn_le (v : Nat) : bitn v ≤ 32 * nl v := by
  unfold bitn
  split
  · exact Nat.zero_le _
  · rename_i h
    have h0 : nl v ≠ 0 := fun e => h (nl_zero_iff.1 e)
    have := bn_le 32 (lm v (nl v - 1)) (lm_lt v _)
    omega
set_option maxRecDepth 100000 in
set_option maxHeartbeats 2000000 in
theorem cBits32 (v m i : Nat) (o : Chunk) (h : List (Option Chunk)) (hi : h[i]? = some (some o)) (hin : IsNum o m v) (hl : nl v ≤ m) (hm : m ≤ 1000000) :
    CallOK Try.prog 75 [.slice (some ⟨i, 0, some 0⟩) (nl v) m] h (.int .i64 (bitn v : Nat)) [] [i] := by
  refine call_sub (G := tys) [⟨i, _, numC false m v, ⟨false, 0, []⟩⟩] [] [.slice (some ⟨0, 0, some 0⟩) (nl v) m] tysOK mixed Try.func75 (by rfl) (Try.call75) ⟨hi, trivial⟩ ⟨⟨fun h => (by cases h), Nat.le_of_eq hin.1.symm, num_re hin⟩, trivial⟩ (by simp [Apart]) trivial ⟨.slice rfl, trivial⟩ ?_
  rcases Nat.eq_zero_or_pos v with rfl | hp
  · rw [nl_zero]
    repeat' (refine N.go ?_; first | with_reducible (first | refine N.obl (by decide) ?_ | refine N.eq ?_ | refine N.obl rfl ?_ | refine N.obl ⟨by kernel_rfl, by kernel_rfl⟩ ?_ | refine N.alt ?_ | refine N.forkT ?_ | refine N.forkF ?_) | refine N.forkNo (by decide) ?_ | refine N.forkYes (by decide) ?_ | refine N.obl (re_eqn (inteq (by decide)) rfl) ?_ | refine N.obl trivial ?_ | exact N.true | fail)
  · have h0 : nl v ≠ 0 := fun e => by have := nl_zero_iff.1 e; omega
    have hbv : bitn v = 32 * (nl v - 1) + bn (lm v (nl v - 1)) := by unfold bitn; rw [if_neg (by omega)]
    have htop := lm_lt v (nl v - 1)
    obtain ⟨y, hy⟩ : ∃ y, nl v = y + 1 := ⟨nl v - 1, by omega⟩
    rw [hy] at hbv htop
    rw [show y + 1 - 1 = y from by omega] at hbv htop
    rw [hbv, hy]
    rw [hy] at hl
    generalize hT : lm v y = T at *
    have hbT := bn_le 32 T htop
    have e1 : IntKind.i64.wrap (((y + 1 : Nat) : Int) - 1) = (y : Int) := by rw [i64n _ (by omega) (by omega)]; omega
    repeat' (refine N.go ?_; first | with_reducible (first | refine N.obl (by decide) ?_ | refine N.eq ?_ | refine N.obl rfl ?_ | refine N.obl ⟨by kernel_rfl, by kernel_rfl⟩ ?_ | refine N.alt ?_ | refine N.forkT ?_ | refine N.forkF ?_) | refine N.forkNo (by rw [beq_eq_false_iff_ne]; omega) ?_ | refine N.idx y 1 e1 (by omega) ?_ | refine N.load _ (reads_num (p := y) (by omega) (by omega)) ?_ | fail)
    refine N.go ?_
    refine N.loop (α := Nat) (fun x => x < 4294967296 ∧ bn x ≤ bn T) (fun x => x) (fun x => [(3, .int .i64 ((32 * y + (bn T - bn x) : Nat) : Int)), (4, .int .u32 (x : Int))]) (fun _ => []) T ⟨htop, Nat.le_refl _⟩ ?_ ?_
    · repeat (refine N.go ?_; first | exact N.true | with_reducible (first | refine N.obl rfl ?_ | refine N.obl (ChunkLe.refl _) ?_) | refine N.obl (int_i64 (by rw [IntWalk.i64_in _ (by omega)]; rfl)) ?_ | refine N.obl (inteq (by rw [e1, i64n _ (by omega) (by omega)]; omega)) ?_ | refine N.obl (inteq (by rw [hT])) ?_ |  fail_if_success skip)
    · intro x hx
      obtain ⟨x1, x2⟩ := hx
      rcases Nat.eq_zero_or_pos x with rfl | hp
      · repeat' (refine N.go ?_; first | with_reducible (first | refine N.obl (by decide) ?_ | refine N.eq ?_ | refine N.obl rfl ?_ | refine N.obl ⟨by kernel_rfl, by kernel_rfl⟩ ?_ | refine N.alt ?_ | refine N.forkT ?_ | refine N.forkF ?_) | refine N.forkNo (by decide) ?_ | refine N.forkYes (by decide) ?_ | refine N.obl (re_eqn (inteq (by rw [bn_zero]; omega)) rfl) ?_ | refine N.obl trivial ?_ | exact N.true | fail)
      · have e2 := bn_pos hp
        repeat' (refine N.go ?_; first | with_reducible (first | refine N.obl (by decide) ?_ | refine N.eq ?_ | refine N.obl rfl ?_ | refine N.obl ⟨by kernel_rfl, by kernel_rfl⟩ ?_ | refine N.alt ?_ | refine N.forkT ?_ | refine N.forkF ?_) | refine N.forkNo (by simp; omega) ?_ | refine N.forkYes (by simp; omega) ?_ | fail)
        refine N.go ?_
        refine N.next (x / 2) ⟨⟨by omega, by omega⟩, by omega⟩ ?_
        repeat (refine N.go ?_; first | exact N.true | with_reducible (first | refine N.obl rfl ?_ | refine N.obl (ChunkLe.refl _) ?_) | refine N.obl (int_i64 (by rw [IntWalk.i64_in _ (by omega)]; rfl)) ?_ | refine N.obl (inteq (fd1 x)) ?_ | refine N.obl (inteq (by rw [i64n _ (by omega) (by omega)]; omega)) ?_ |  fail_if_success skip)
theorem cmp_word {a b y : Nat} (h : a / bw (y + 1) = b / bw (y + 1)) : (lm a y < lm b y → a < b) ∧ (lm a y = lm b y → a / bw y = b / bw y) := by
  have h1 := up_word a y
  have h2 := up_word b y
  refine ⟨fun h3 => ?_, fun h3 => by omega⟩
  have h4 : a / bw y < b / bw y := by omega
  rcases Nat.lt_or_ge a b with h5 | h5
  · exact h5
  · have := Nat.div_le_div_right (c := bw y) h5; omega
theorem nl_lt {a b : Nat} (h : nl a < nl b) : a < b := by
  have h1 := nl_self a
  rcases Nat.lt_or_ge b (bw (nl a)) with h2 | h2
  · have := nl_le.2 h2; omega
  · omega
def cmpN (a b : Nat) : Int := if a < b then -1 else if a = b then 0 else 1
set_option maxRecDepth 100000 in
set_option maxHeartbeats 2000000 in
theorem cCmp (a b m q i j : Nat) (o o2 : Chunk) (h : List (Option Chunk)) (hi : h[i]? = some (some o)) (hin : IsNum o m a) (hj : h[j]? = some (some o2)) (hjn : IsNum o2 q b) (hl : nl a ≤ m) (hm : m ≤ 1000000) (hl2 : nl b ≤ q) (hq : q ≤ 1000000) :
    CallOK Try.prog 79 [.slice (some ⟨i, 0, some 0⟩) (nl a) m, .slice (some ⟨j, 0, some 0⟩) (nl b) q] h (.int .i64 (cmpN a b)) [] [i, j] := by
  refine call_sub (G := tys) [⟨i, _, numC false m a, ⟨false, 0, []⟩⟩, ⟨j, _, numC false q b, ⟨false, 0, []⟩⟩] [] [.slice (some ⟨0, 0, some 0⟩) (nl a) m, .slice (some ⟨1, 0, some 0⟩) (nl b) q] tysOK mixed Try.func79 (by rfl) (Try.call79) ⟨hi, hj, trivial⟩ ⟨⟨fun h => (by cases h), Nat.le_of_eq hin.1.symm, num_re hin⟩, ⟨fun h => (by cases h), Nat.le_of_eq hjn.1.symm, num_re hjn⟩, trivial⟩ (by simp [Apart]) trivial ⟨.slice rfl, .slice rfl, trivial⟩ ?_
  by_cases hne : nl a = nl b
  · repeat' (refine N.go ?_; first | with_reducible (first | refine N.obl (by decide) ?_ | refine N.eq ?_ | refine N.obl rfl ?_ | refine N.obl ⟨by kernel_rfl, by kernel_rfl⟩ ?_ | refine N.alt ?_ | refine N.forkT ?_ | refine N.forkF ?_) | refine N.forkNo (by rw [hne]; simp) ?_ | fail)
    refine N.go ?_
    refine N.loop (α := Nat) (fun c => c ≤ nl a ∧ a / bw c = b / bw c) (fun x => x) (fun x => [(5, .int .i64 ((x : Int) - 1))]) (fun _ => []) (nl a) ⟨Nat.le_refl _, by rw [Nat.div_eq_of_lt (nl_self a), hne, Nat.div_eq_of_lt (nl_self b)]⟩ ?_ ?_
    · repeat (refine N.go ?_; first | exact N.true | with_reducible (first | refine N.obl rfl ?_ | refine N.obl (ChunkLe.refl _) ?_) | refine N.obl (int_i64 (by rw [IntWalk.i64_in _ (by omega)]; rfl)) ?_ | refine N.obl (inteq (by rw [i64n _ (by omega) (by omega)])) ?_ |  fail_if_success skip)
    · intro c hc
      obtain ⟨c1, c2⟩ := hc
      rcases Nat.eq_zero_or_pos c with rfl | hp
      · have he : a = b := by rw [bw_zero, Nat.div_one, Nat.div_one] at c2; exact c2
        have hr : cmpN a b = 0 := by unfold cmpN; rw [if_neg (by omega), if_pos he]
        repeat' (refine N.go ?_; first | with_reducible (first | refine N.obl (by decide) ?_ | refine N.eq ?_ | refine N.obl rfl ?_ | refine N.obl ⟨by kernel_rfl, by kernel_rfl⟩ ?_ | refine N.alt ?_ | refine N.forkT ?_ | refine N.forkF ?_) | refine N.forkNo (by decide) ?_ | refine N.forkYes (by decide) ?_ | refine N.forkYes (by rw [decide_eq_true_eq]; omega) ?_ | refine N.forkNo (by rw [decide_eq_false_iff_not]; omega) ?_ | refine N.obl (re_eqn (inteq hr) rfl) ?_ | refine N.obl trivial ?_ | exact N.true | fail)
      · obtain ⟨y, rfl⟩ : ∃ y, c = y + 1 := ⟨c - 1, by omega⟩
        have e1 : (((y + 1 : Nat) : Int) - 1) = (y : Int) := by omega
        have cw := cmp_word c2
        have cw2 := (cmp_word c2.symm).1
        by_cases h1 : lm a y = lm b y
        · repeat' (refine N.go ?_; first | with_reducible (first | refine N.obl (by decide) ?_ | refine N.eq ?_ | refine N.obl rfl ?_ | refine N.obl ⟨by kernel_rfl, by kernel_rfl⟩ ?_ | refine N.alt ?_ | refine N.forkT ?_ | refine N.forkF ?_) | refine N.idx y 1 e1 (by omega) ?_ | refine N.load _ (reads_num (p := y) (by omega) (by omega)) ?_ | refine N.forkYes (by rw [decide_eq_true_eq]; omega) ?_ | refine N.forkNo (by rw [decide_eq_false_iff_not]; omega) ?_ | refine N.forkNo (by rw [h1]; simp) ?_ | fail)
          refine N.go ?_
          refine N.next y ⟨⟨by omega, cw.2 h1⟩, by omega⟩ ?_
          repeat (refine N.go ?_; first | exact N.true | with_reducible (first | refine N.obl rfl ?_ | refine N.obl (ChunkLe.refl _) ?_) | refine N.obl (int_i64 (by rw [IntWalk.i64_in _ (by omega)]; rfl)) ?_ | refine N.obl (inteq (by rw [i64n _ (by omega) (by omega)]; omega)) ?_ |  fail_if_success skip)
        · rcases Nat.lt_or_ge (lm a y) (lm b y) with h2 | h2
          · have hr : cmpN a b = -1 := by unfold cmpN; rw [if_pos (cw.1 h2)]
            repeat' (refine N.go ?_; first | with_reducible (first | refine N.obl (by decide) ?_ | refine N.eq ?_ | refine N.obl rfl ?_ | refine N.obl ⟨by kernel_rfl, by kernel_rfl⟩ ?_ | refine N.alt ?_ | refine N.forkT ?_ | refine N.forkF ?_) | refine N.idx y 1 e1 (by omega) ?_ | refine N.load _ (reads_num (p := y) (by omega) (by omega)) ?_ | refine N.forkYes (by rw [decide_eq_true_eq]; omega) ?_ | refine N.forkNo (by rw [decide_eq_false_iff_not]; omega) ?_ | refine N.forkYes (by simp; omega) ?_ | refine N.forkNo (by simp; omega) ?_ | refine N.obl (re_eqn (inteq hr) rfl) ?_ | refine N.obl trivial ?_ | exact N.true | fail)
          · have := cw2 (by omega)
            have hr : cmpN a b = 1 := by unfold cmpN; rw [if_neg (by omega), if_neg (by omega)]
            repeat' (refine N.go ?_; first | with_reducible (first | refine N.obl (by decide) ?_ | refine N.eq ?_ | refine N.obl rfl ?_ | refine N.obl ⟨by kernel_rfl, by kernel_rfl⟩ ?_ | refine N.alt ?_ | refine N.forkT ?_ | refine N.forkF ?_) | refine N.idx y 1 e1 (by omega) ?_ | refine N.load _ (reads_num (p := y) (by omega) (by omega)) ?_ | refine N.forkYes (by rw [decide_eq_true_eq]; omega) ?_ | refine N.forkNo (by rw [decide_eq_false_iff_not]; omega) ?_ | refine N.forkYes (by simp; omega) ?_ | refine N.forkNo (by simp; omega) ?_ | refine N.obl (re_eqn (inteq hr) rfl) ?_ | refine N.obl trivial ?_ | exact N.true | fail)
  · rcases Nat.lt_or_ge (nl a) (nl b) with h2 | h2
    · have := nl_lt h2
      have hr : cmpN a b = -1 := by unfold cmpN; rw [if_pos (by omega)]
      repeat' (refine N.go ?_; first | with_reducible (first | refine N.obl (by decide) ?_ | refine N.eq ?_ | refine N.obl rfl ?_ | refine N.obl ⟨by kernel_rfl, by kernel_rfl⟩ ?_ | refine N.alt ?_ | refine N.forkT ?_ | refine N.forkF ?_) | refine N.forkYes (by rw [decide_eq_true_eq]; omega) ?_ | refine N.forkNo (by rw [decide_eq_false_iff_not]; omega) ?_ | refine N.forkYes (by simp; omega) ?_ | refine N.forkNo (by simp; omega) ?_ | refine N.obl (re_eqn (inteq hr) rfl) ?_ | refine N.obl trivial ?_ | exact N.true | fail)
    · have := nl_lt (show nl b < nl a by omega)
      have hr : cmpN a b = 1 := by unfold cmpN; rw [if_neg (by omega), if_neg (by omega)]
      repeat' (refine N.go ?_; first | with_reducible (first | refine N.obl (by decide) ?_ | refine N.eq ?_ | refine N.obl rfl ?_ | refine N.obl ⟨by kernel_rfl, by kernel_rfl⟩ ?_ | refine N.alt ?_ | refine N.forkT ?_ | refine N.forkF ?_) | refine N.forkYes (by rw [decide_eq_true_eq]; omega) ?_ | refine N.forkNo (by rw [decide_eq_false_iff_not]; omega) ?_ | refine N.forkYes (by simp; omega) ?_ | refine N.forkNo (by simp; omega) ?_ | refine N.obl (re_eqn (inteq hr) rfl) ?_ | refine N.obl trivial ?_ | exact N.true | fail)
end Go.Proofs.Ytchfbblpflcniaa


/-
  The walks of the document's numbers: made, Of, times, plus, quo.
-/
set_option linter.unusedVariables false
set_option linter.unusedSimpArgs false
namespace Go.Proofs.Ytchfbblpflcniaa
open Go Go.RowKit Sx

theorem re_big {ix : List (Nat × Nat)} {i k l l' c : Nat} {r b : Bool} (h : ixK ix k = some i) (e : b = r) (e2 : l = l') : Re ix (.agg ⟨[.bool r, .bool false, .slice (some ⟨i, 0, some 0⟩) l c]⟩) (.agg ⟨[.bool b, .bool false, .slice (some ⟨k, 0, some 0⟩) l' c]⟩) := by
  subst e e2; exact .one (.agg ⟨.plain rfl, .plain rfl, .slice h, trivial⟩)
set_option maxRecDepth 100000 in
set_option maxHeartbeats 2000000 in
theorem cMade32 (v m l i : Nat) (s r : Bool) (hr : r = (s && decide (0 < v))) (o : Chunk) (h : List (Option Chunk)) (hi : h[i]? = some (some o)) (hin : IsNum o m v) (hl : l ≤ m) (hm : m ≤ 31) (hv : v < bw l) :
    CallOK Try.prog 80 [.bool s, .slice (some ⟨i, 0, some 0⟩) l m] h (.agg #[.bool r, .bool false, .slice (some ⟨i, 0, some 0⟩) (nl v) m]) [] [i] := by
  have hn : nl v ≤ l := nl_le.2 hv
  have hb := bitn_le v
  refine call_sub (G := tys) [⟨i, _, numC false m v, ⟨false, 0, []⟩⟩] [] [.bool s, .slice (some ⟨0, 0, some 0⟩) l m] tysOK mixed Try.func80 (by rfl) (Try.call80) ⟨hi, trivial⟩ ⟨⟨fun h => (by cases h), Nat.le_of_eq hin.1.symm, num_re hin⟩, trivial⟩ (by simp [Apart]) trivial ⟨.plain rfl, .slice rfl, trivial⟩ ?_
  cases s with
  | false =>
    rw [Bool.false_and] at hr; subst hr
    repeat' (refine N.go ?_; first | with_reducible (first | refine N.obl (by decide) ?_ | refine N.eq ?_ | refine N.obl rfl ?_ | refine N.obl ⟨by kernel_rfl, by kernel_rfl⟩ ?_ | refine N.alt ?_ | refine N.forkT ?_ | refine N.forkF ?_) | refine N.call (cTrim v m l _ _ _ (by rfl) (isNum _ _ _) hl (by omega) hv) ?_ | refine N.call (cBits32 v m _ _ _ (by rfl) (isNum _ _ _) (by omega) (by omega)) ?_ | refine N.forkNo (by decide) ?_ | refine N.forkYes (by decide) ?_ | refine N.forkYes (by rw [decide_eq_true_eq]; omega) ?_ | refine N.forkNo (by rw [decide_eq_false_iff_not]; omega) ?_ | refine N.obl (.one (.agg ⟨.plain (by rfl), .plain rfl, .slice (by rfl), trivial⟩)) ?_ | refine N.obl trivial ?_ | exact N.true | fail)
  | true =>
    rw [Bool.true_and] at hr
    rcases Nat.eq_zero_or_pos v with hz | hp
    · have hr : r = false := by rw [hr, hz]; rfl
      subst hr
      have h0 : nl v = 0 := nl_zero_iff.2 hz
      repeat' (refine N.go ?_; first | with_reducible (first | refine N.obl (by decide) ?_ | refine N.eq ?_ | refine N.obl rfl ?_ | refine N.obl ⟨by kernel_rfl, by kernel_rfl⟩ ?_ | refine N.alt ?_ | refine N.forkT ?_ | refine N.forkF ?_) | refine N.call (cTrim v m l _ _ _ (by rfl) (isNum _ _ _) hl (by omega) hv) ?_ | refine N.call (cBits32 v m _ _ _ (by rfl) (isNum _ _ _) (by omega) (by omega)) ?_ | refine N.forkNo (by decide) ?_ | refine N.forkYes (by decide) ?_ | refine N.forkYes (by rw [decide_eq_true_eq]; omega) ?_ | refine N.forkNo (by rw [decide_eq_false_iff_not]; omega) ?_ | refine N.obl (re_big (by rfl) (by rw [decide_eq_false_iff_not]; omega) rfl) ?_ | refine N.obl trivial ?_ | exact N.true | fail)
    · rw [decide_eq_true hp] at hr
      subst hr
      have h0 : nl v ≠ 0 := fun e => by have := nl_zero_iff.1 e; omega
      repeat' (refine N.go ?_; first | with_reducible (first | refine N.obl (by decide) ?_ | refine N.eq ?_ | refine N.obl rfl ?_ | refine N.obl ⟨by kernel_rfl, by kernel_rfl⟩ ?_ | refine N.alt ?_ | refine N.forkT ?_ | refine N.forkF ?_) | refine N.call (cTrim v m l _ _ _ (by rfl) (isNum _ _ _) hl (by omega) hv) ?_ | refine N.call (cBits32 v m _ _ _ (by rfl) (isNum _ _ _) (by omega) (by omega)) ?_ | refine N.forkNo (by decide) ?_ | refine N.forkYes (by decide) ?_ | refine N.forkYes (by rw [decide_eq_true_eq]; omega) ?_ | refine N.forkNo (by rw [decide_eq_false_iff_not]; omega) ?_ | refine N.obl (re_big (by rfl) (by rw [decide_eq_true_eq]; omega) rfl) ?_ | refine N.obl trivial ?_ | exact N.true | fail)
theorem two_words {n : Nat} (h : n < 18446744073709551616) : n < bw 2 ∧ nl n ≤ 2 := by
  have : bw 2 = 18446744073709551616 := by decide
  exact ⟨by omega, nl_le.2 (by omega)⟩
theorem isNum2 {o : Bool} {n : Nat} {x y : Int} (hx : x = ((n % 4294967296 : Nat) : Int)) (hy : y = ((n / 4294967296 % 4294967296 : Nat) : Int)) : IsNum ⟨o, 2, [(0, 2, .agg ⟨[.int .u32 x, .int .u32 y]⟩)]⟩ 2 n := ⟨rfl, fun j hj => by
  subst hx hy
  match j, hj with
  | 0, _ => unfold lm; rw [bw_zero, Nat.div_one]; rfl
  | 1, _ => rfl⟩
theorem isNum1 {o : Bool} {n : Nat} {x : Int} (hx : x = ((n % 4294967296 : Nat) : Int)) : IsNum ⟨o, 1, [(0, 1, .agg ⟨[.int .u32 x]⟩)]⟩ 1 n := ⟨rfl, fun j hj => by
  subst hx
  match j, hj with
  | 0, _ => unfold lm; rw [bw_zero, Nat.div_one]; rfl⟩
theorem post_num {ix : List (Nat × Nat)} {h : List (Option Chunk)} {k m v : Nat} {c : Chunk} (hh : h[k]? = some (some c)) (ho : c.own = true) (hc : IsNum c m v) : PostC ix h k (numC true m v) :=
  ⟨c, hh, fun _ => ho, Nat.le_of_eq hc.1.symm, fun j hj => by
    have hj : j < m := hj
    rw [seg_cell hj, hc.2 j hj]; exact .plain rfl⟩
theorem w32 (n : Nat) : IntKind.u32.wrap (n : Int) = ((n % 4294967296 : Nat) : Int) := by rw [IntKind.wrap_u32]; omega
theorem w64 {n : Nat} (h : n < 18446744073709551616) : IntKind.u64.wrap (n : Int) = (n : Int) := by rw [IntKind.wrap_u64]; omega
set_option maxRecDepth 100000 in
set_option maxHeartbeats 2000000 in
theorem cROf (n K : Nat) (h : List (Option Chunk)) (h0 : h[K]? = some none) (hn : n < 9223372036854775808) :
    CallOK Try.prog 52 [.int .i64 (n : Int)] h (.agg #[.bool false, .bool false, .slice (some ⟨K, 0, some 0⟩) (nl n) 2]) [(K, numC true 2 n)] [] := by
  have h2 := two_words (n := n) (by omega)
  refine call_sub (G := tys) [] [⟨K, 1, numC true 2 n⟩] [.int .i64 (n : Int)] tysOK mixed Try.func52 (by rfl) (Try.call52) trivial trivial trivial ⟨⟨h0, rfl, by show 0 < 2; decide, by simp⟩, trivial⟩ ⟨.plain rfl, trivial⟩ ?_
  repeat' (refine N.go ?_; first | with_reducible (first | refine N.obl (by decide) ?_ | refine N.eq ?_ | refine N.obl rfl ?_ | refine N.obl ⟨by kernel_rfl, by kernel_rfl⟩ ?_ | refine N.alt ?_ | refine N.forkT ?_ | refine N.forkF ?_) | refine N.call (cMade32 n 2 2 _ false false rfl _ _ (by rfl) (isNum2 (by rw [w64 (by omega), w32]) (by rw [w64 (by omega), fd32, w32])) (by omega) (by omega) h2.1) ?_ | refine N.forkNo (by decide) ?_ | refine N.forkYes (by decide) ?_ | refine N.forkYes (by rw [decide_eq_true_eq]; omega) ?_ | refine N.forkNo (by rw [decide_eq_false_iff_not]; omega) ?_ | refine N.obl (.one (.agg ⟨.plain (by rfl), .plain rfl, .slice (by rfl), trivial⟩)) ?_ | refine N.obl ⟨⟨Nat.zero_le _, post_num (by rfl) rfl (isNum2 (by rw [w64 (by omega), w32]) (by rw [w64 (by omega), fd32, w32]))⟩, trivial⟩ ?_ | refine N.obl trivial ?_ | exact N.true | fail)
theorem zeros_num {o : Bool} {m : Nat} : ChunkLe (numC o m 0) ⟨o, m, [(0, m, .agg ⟨segL m (repZ 1 (.int .u32 0))⟩)]⟩ := .mk id (Nat.le_refl _) fun j hj => by
  have hj : j < m := hj
  rw [seg_cell hj, seg_cell hj]
  unfold repZ lm
  rw [Nat.mod_one, Nat.zero_div]; rfl
end Go.Proofs.Ytchfbblpflcniaa


/-
  The walks of the document's numbers: plus, quo (by one word).
-/
set_option linter.unusedVariables false
set_option linter.unusedSimpArgs false
namespace Go.Proofs.Ytchfbblpflcniaa
open Go Go.RowKit Sx

theorem lm_up (v i j : Nat) (h : i ≤ j) : lm (v % bw i) j = 0 := lm_big (Nat.lt_of_lt_of_le (Nat.mod_lt _ (bw_pos i)) (bw_mono h))
theorem writes_next {m v i q : Nat} {x : Int} (e : q = i) (h : i < m) (hx : x = ((lm v i : Nat) : Int)) : Writes (numC true m (v % bw i)) q 1 (.int .u32 x) (numC true m (v % bw (i + 1))) := by
  subst e hx
  refine ⟨rfl, by show q + 1 ≤ m; omega, rfl, fun j hj => ?_⟩
  have hj : j < m := hj
  rw [seg_cell hj, seg_cell hj]
  rcases Nat.lt_trichotomy j q with h1 | h1 | h1
  · rw [if_neg (by omega), lm_mod h1, lm_mod (by omega)]
  · subst h1; rw [if_pos (by omega), Nat.sub_self, lm_mod (by omega)]; rfl
  · rw [if_neg (by omega), lm_up _ _ _ (by omega), lm_up _ _ _ (by omega)]
theorem lm_down (v i j : Nat) : lm (v / bw i * bw i) j = if i ≤ j then lm v j else 0 := by
  by_cases h : i ≤ j
  · rw [if_pos h]
    unfold lm
    obtain ⟨d, rfl⟩ : ∃ d, j = i + d := ⟨j - i, by omega⟩
    rw [bw_add, ← Nat.div_div_eq_div_mul, Nat.mul_div_cancel _ (bw_pos i), Nat.div_div_eq_div_mul]
  · rw [if_neg h]
    unfold lm
    obtain ⟨d, rfl⟩ : ∃ d, i = j + 1 + d := ⟨i - (j + 1), by omega⟩
    rw [bw_add, bw_succ]
    generalize v / (bw j * 4294967296 * bw d) = q
    rw [show q * (bw j * 4294967296 * bw d) = q * bw d * 4294967296 * bw j from by rw [Nat.mul_assoc (bw j), Nat.mul_comm (bw j), ← Nat.mul_assoc, Nat.mul_comm 4294967296, ← Nat.mul_assoc], Nat.mul_div_cancel _ (bw_pos j)]
    exact Nat.mul_mod_left _ _
theorem writes_down {m v i q : Nat} {x : Int} (e : q = i) (h : i < m) (hx : x = ((lm v i : Nat) : Int)) : Writes (numC true m (v / bw (i + 1) * bw (i + 1))) q 1 (.int .u32 x) (numC true m (v / bw i * bw i)) := by
  subst e hx
  refine ⟨rfl, by show q + 1 ≤ m; omega, rfl, fun j hj => ?_⟩
  have hj : j < m := hj
  rw [seg_cell hj, seg_cell hj, lm_down, lm_down]
  rcases Nat.lt_trichotomy j q with h1 | h1 | h1
  · rw [if_neg (by omega), if_neg (by omega), if_neg (by omega)]
  · subst h1; rw [if_pos (by omega), if_pos (by omega), Nat.sub_self]; rfl
  · rw [if_pos (by omega), if_neg (by omega), if_pos (by omega)]
set_option maxRecDepth 100000 in
set_option maxHeartbeats 2000000 in
theorem cPlus (a b m q i j K : Nat) (o o2 : Chunk) (h : List (Option Chunk)) (hi : h[i]? = some (some o)) (hin : IsNum o m a) (hj : h[j]? = some (some o2)) (hjn : IsNum o2 q b) (hl : nl a ≤ m) (hm : m ≤ 20) (hba : nl b ≤ nl a) (hq : nl b ≤ q ∧ q ≤ 20) (h0 : h[K]? = some none) :
    CallOK Try.prog 78 [.slice (some ⟨i, 0, some 0⟩) (nl a) m, .slice (some ⟨j, 0, some 0⟩) (nl b) q] h (.slice (some ⟨K, 0, some 0⟩) (nl (a + b)) (nl a + 1)) [(K, numC true (nl a + 1) (a + b))] [i, j] := by
  have hs : a + b < bw (nl a + 1) := by
    rw [bw_succ]
    have h1 := nl_self a
    have h2 := nl_le.1 hba
    omega
  refine call_sub (G := tys) [⟨i, _, numC false m a, ⟨false, 0, []⟩⟩, ⟨j, _, numC false q b, ⟨false, 0, []⟩⟩] [⟨K, 6, numC true (nl a + 1) (a + b)⟩] [.slice (some ⟨0, 0, some 0⟩) (nl a) m, .slice (some ⟨1, 0, some 0⟩) (nl b) q] tysOK mixed Try.func78 (by rfl) (Try.call78) ⟨hi, hj, trivial⟩ ⟨⟨fun h => (by cases h), Nat.le_of_eq hin.1.symm, num_re hin⟩, ⟨fun h => (by cases h), Nat.le_of_eq hjn.1.symm, num_re hjn⟩, trivial⟩ (by simp [Apart]) ⟨⟨h0, rfl, by show 0 < nl a + 1; omega, by simp⟩, trivial⟩ ⟨.slice rfl, .slice rfl, trivial⟩ ?_
  repeat' (refine N.go ?_; first | with_reducible (first | refine N.obl (by decide) ?_ | refine N.eq ?_ | refine N.obl rfl ?_ | refine N.obl ⟨by kernel_rfl, by kernel_rfl⟩ ?_ | refine N.alt ?_ | refine N.forkT ?_ | refine N.forkF ?_) | refine MakeN.mk1 (nl a + 1) (nl a + 1) (by rw [i64n _ (by omega) (by omega)]; rfl) (by rw [i64n _ (by omega) (by omega)]; rfl) (by show 4 * (nl a + 1) ≤ _; omega) (by omega) (Nat.mul_one _).symm ?_ | refine N.forkNo (by decide) ?_ | refine N.forkYes (by decide) ?_ | refine N.forkYes (by rw [decide_eq_true_eq]; omega) ?_ | refine N.forkNo (by rw [decide_eq_false_iff_not]; omega) ?_ | refine N.obl trivial ?_ | exact N.true | fail)
  refine N.go ?_
  refine N.loop (α := Nat) (fun i => i ≤ nl a) (fun i => nl a - i) (fun i => [(21, .int .i64 (i : Int)), (6, .int .u64 (((a % bw i + b % bw i) / bw i : Nat) : Int))]) (fun i => [(6, numC true (nl a + 1) ((a + b) % bw i))]) 0 (Nat.zero_le _) ?_ ?_
  · repeat (refine N.go ?_; first | exact N.true | with_reducible (first | refine N.obl rfl ?_ | refine N.obl (ChunkLe.refl _) ?_) | refine N.obl (int_i64 (by rw [IntWalk.i64_in _ (by omega)]; rfl)) ?_ | refine N.obl (by rw [bw_zero, Nat.mod_one]; exact zeros_num) ?_ | refine N.obl (inteq (by rw [bw_zero, Nat.mod_one, Nat.mod_one]; rfl)) ?_ |  fail_if_success skip)
  · intro i hi'
    have hi' : i ≤ nl a := hi'
    rcases Nat.lt_or_ge i (nl a) with hlt | hge
    · obtain ⟨m1, m2, m3⟩ := add_word a b i
      generalize hC : (a % bw i + b % bw i) / bw i = C at *
      have hx := lm_lt a i
      have hy := lm_lt b i
      have ev : IntKind.u64.wrap (IntKind.u64.wrap ((C : Int) + IntKind.u64.wrap ((lm a i : Nat) : Int)) + IntKind.u64.wrap ((lm b i : Nat) : Int)) = ((C + lm a i + lm b i : Nat) : Int) := by
        rw [w64 (n := lm a i) (by omega), w64 (n := lm b i) (by omega), ← Int.natCast_add, w64 (n := C + lm a i) (by omega), ← Int.natCast_add, w64 (by omega)]
      have ev0 : IntKind.u64.wrap ((C : Int) + IntKind.u64.wrap ((lm a i : Nat) : Int)) = ((C + lm a i : Nat) : Int) := by
        rw [w64 (n := lm a i) (by omega), ← Int.natCast_add, w64 (n := C + lm a i) (by omega)]
      rcases Nat.lt_or_ge i (nl b) with hib | hib
      · repeat' (refine N.go ?_; first | with_reducible (first | refine N.obl (by decide) ?_ | refine N.eq ?_ | refine N.obl rfl ?_ | refine N.obl ⟨by kernel_rfl, by kernel_rfl⟩ ?_ | refine N.alt ?_ | refine N.forkT ?_ | refine N.forkF ?_) | refine N.store _ (writes_next rfl (by omega) (by rw [ev, w32, m1])) ?_ | refine N.idx i 1 rfl (by omega) ?_ | refine N.load _ (reads_num (p := i) (by omega) (by omega)) ?_ | refine N.forkNo (by decide) ?_ | refine N.forkYes (by decide) ?_ | refine N.forkYes (by rw [decide_eq_true_eq]; omega) ?_ | refine N.forkNo (by rw [decide_eq_false_iff_not]; omega) ?_ | refine N.obl trivial ?_ | exact N.true | fail)
        refine N.go ?_
        refine N.next (i + 1) ⟨by show i + 1 ≤ nl a; omega, by omega⟩ ?_
        repeat (refine N.go ?_; first | exact N.true | with_reducible (first | refine N.obl rfl ?_ | refine N.obl (ChunkLe.refl _) ?_) | refine N.obl (int_i64 (by rw [IntWalk.i64_in _ (by omega)]; rfl)) ?_ | refine N.obl (inteq (by rw [i64n _ (by omega) (by omega)]; omega)) ?_ | refine N.obl (inteq (by rw [ev, fd32, m2])) ?_ |  fail_if_success skip)
      · have hz : lm b i = 0 := lm_big (Nat.lt_of_lt_of_le (nl_self b) (bw_mono hib))
        repeat' (refine N.go ?_; first | with_reducible (first | refine N.obl (by decide) ?_ | refine N.eq ?_ | refine N.obl rfl ?_ | refine N.obl ⟨by kernel_rfl, by kernel_rfl⟩ ?_ | refine N.alt ?_ | refine N.forkT ?_ | refine N.forkF ?_) | refine N.store _ (writes_next rfl (by omega) (by rw [ev0, w32, m1, hz]; rfl)) ?_ | refine N.idx i 1 rfl (by omega) ?_ | refine N.load _ (reads_num (p := i) (by omega) (by omega)) ?_ | refine N.forkNo (by decide) ?_ | refine N.forkYes (by decide) ?_ | refine N.forkYes (by rw [decide_eq_true_eq]; omega) ?_ | refine N.forkNo (by rw [decide_eq_false_iff_not]; omega) ?_ | refine N.obl trivial ?_ | exact N.true | fail)
        refine N.go ?_
        refine N.next (i + 1) ⟨by show i + 1 ≤ nl a; omega, by omega⟩ ?_
        repeat (refine N.go ?_; first | exact N.true | with_reducible (first | refine N.obl rfl ?_ | refine N.obl (ChunkLe.refl _) ?_) | refine N.obl (int_i64 (by rw [IntWalk.i64_in _ (by omega)]; rfl)) ?_ | refine N.obl (inteq (by rw [i64n _ (by omega) (by omega)]; omega)) ?_ | refine N.obl (inteq (by rw [ev0, fd32, m2, hz]; rfl)) ?_ |  fail_if_success skip)
    · obtain rfl : i = nl a := by omega
      have ha := nl_self a
      have hb := nl_le.1 hba
      have hc : ((a % bw (nl a) + b % bw (nl a)) / bw (nl a)) = lm (a + b) (nl a) := by
        rw [Nat.mod_eq_of_lt ha, Nat.mod_eq_of_lt hb]
        unfold lm
        rw [Nat.mod_eq_of_lt ((Nat.div_lt_iff_lt_mul (bw_pos _)).2 (by rw [Nat.mul_comm, ← bw_succ]; exact hs))]
      have hlt := lm_lt (a + b) (nl a)
      have he : (a + b) % bw (nl a + 1) = a + b := Nat.mod_eq_of_lt hs
      repeat' (refine N.go ?_; first | with_reducible (first | refine N.obl (by decide) ?_ | refine N.eq ?_ | refine N.obl rfl ?_ | refine N.obl ⟨by kernel_rfl, by kernel_rfl⟩ ?_ | refine N.alt ?_ | refine N.forkT ?_ | refine N.forkF ?_) | refine N.idx (nl a) 1 rfl (by omega) ?_ | refine N.store _ (writes_next rfl (by omega) (by rw [w32, hc]; omega)) ?_ | refine N.call (cTrim (a + b) (nl a + 1) (nl a + 1) _ _ _ (by rfl) (by rw [he]; exact isNum _ _ _) (by omega) (by omega) hs) ?_ | refine N.obl (re_sl (by rfl) rfl) ?_ | refine N.obl ⟨⟨by show 2 ≤ 6; decide, post_num (by rfl) rfl (by rw [he]; exact isNum _ _ _)⟩, trivial⟩ ?_ | refine N.forkNo (by decide) ?_ | refine N.forkYes (by decide) ?_ | refine N.forkYes (by rw [decide_eq_true_eq]; omega) ?_ | refine N.forkNo (by rw [decide_eq_false_iff_not]; omega) ?_ | refine N.obl trivial ?_ | exact N.true | fail)
theorem or_add (r x : Nat) (hr : r < 4294967296) (hx : x < 4294967296) : IntKind.u64.wrap ((BitVec.ofInt IntKind.u64.bits (((r * 4294967296 : Nat) : Int)) ||| BitVec.ofInt IntKind.u64.bits ((x : Nat) : Int)).toNat : Nat) = ((r * 4294967296 + x : Nat) : Int) := by
  have e : (BitVec.ofInt IntKind.u64.bits (((r * 4294967296 : Nat) : Int)) ||| BitVec.ofInt IntKind.u64.bits ((x : Nat) : Int)).toNat = r * 4294967296 + x := by
    rw [BitVec.toNat_or, BitVec.toNat_ofInt, BitVec.toNat_ofInt]
    have h1 : (((r * 4294967296 : Nat) : Int) % ((2 ^ IntKind.u64.bits : Nat) : Int)).toNat = r * 4294967296 := by
      show (((r * 4294967296 : Nat) : Int) % 18446744073709551616).toNat = _
      omega
    have h2 : (((x : Nat) : Int) % ((2 ^ IntKind.u64.bits : Nat) : Int)).toNat = x := by
      show (((x : Nat) : Int) % 18446744073709551616).toNat = _
      omega
    rw [h1, h2]
    have := Nat.shiftLeft_add_eq_or_of_lt (b := x) (i := 32) (by omega) r
    rw [Nat.shiftLeft_eq] at this
    exact this.symm
  rw [e, w64 (by omega)]
theorem shl_or (r x y : Nat) (hr : r < y) (hy : y < 4294967296) (hx : x < 4294967296) : IntKind.u64.wrap ((BitVec.ofInt IntKind.u64.bits (IntKind.u64.wrap ((r : Int) * 2 ^ sh 32 IntKind.u64)) ||| BitVec.ofInt IntKind.u64.bits (IntKind.u64.wrap ((x : Nat) : Int))).toNat : Nat) = ((r * 4294967296 + x : Nat) : Int) := by
  rw [show sh 32 IntKind.u64 = 32 from by decide, show ((r : Int) * 2 ^ 32) = ((r * 4294967296 : Nat) : Int) from by omega, w64 (n := r * 4294967296) (by omega), w64 (n := x) (by omega)]
  exact or_add r x (by omega) hx
set_option maxRecDepth 100000 in
set_option maxHeartbeats 2000000 in
theorem cQuo (a y m q i j K L : Nat) (o o2 : Chunk) (h : List (Option Chunk)) (hi : h[i]? = some (some o)) (hin : IsNum o m a) (hj : h[j]? = some (some o2)) (hjn : IsNum o2 q y) (hl : nl a ≤ m) (hm : m ≤ 20) (hy : nl y = 1) (hq : 1 ≤ q ∧ q ≤ 20) (hya : y ≤ a) (h0 : h[K]? = some none) (h1 : h[L]? = some none) (hKL : K ≠ L) :
    CallOK Try.prog 76 [.slice (some ⟨i, 0, some 0⟩) (nl a) m, .slice (some ⟨j, 0, some 0⟩) (nl y) q] h (.tuple #[.slice (some ⟨K, 0, some 0⟩) (nl (a / y)) (nl a), .slice (some ⟨L, 0, some 0⟩) (nl (a % y)) 1]) [(K, numC true (nl a) (a / y)), (L, numC true 1 (a % y))] [i, j] := by
  have hy1 : y < 4294967296 := by have := nl_self y; rw [hy, bw_one] at this; exact this
  have hyp : 0 < y := by rcases Nat.eq_zero_or_pos y with e | e; (rw [e, nl_zero] at hy; omega); exact e
  have hy0 : lm y 0 = y := by unfold lm; rw [bw_zero, Nat.div_one]; exact Nat.mod_eq_of_lt hy1
  have hna : nl a ≠ 0 := fun e => by have := nl_zero_iff.1 e; omega
  have hcm : (0 : Int) ≤ cmpN a y := by unfold cmpN; rw [if_neg (by omega)]; split <;> decide
  have hdv : a / y < bw (nl a) := Nat.lt_of_le_of_lt (Nat.div_le_self _ _) (nl_self a)
  have hmd : a % y < y := Nat.mod_lt _ hyp
  refine call_sub (G := tys) [⟨i, _, numC false m a, ⟨false, 0, []⟩⟩, ⟨j, _, numC false q y, ⟨false, 0, []⟩⟩] [⟨K, 6, numC true (nl a) (a / y)⟩, ⟨L, 11, numC true 1 (a % y)⟩] [.slice (some ⟨0, 0, some 0⟩) (nl a) m, .slice (some ⟨1, 0, some 0⟩) (nl y) q] tysOK mixed Try.func76 (by rfl) (Try.call76) ⟨hi, hj, trivial⟩ ⟨⟨fun h => (by cases h), Nat.le_of_eq hin.1.symm, num_re hin⟩, ⟨fun h => (by cases h), Nat.le_of_eq hjn.1.symm, num_re hjn⟩, trivial⟩ (by simp [Apart]) ⟨⟨h0, rfl, by show 0 < nl a; omega, by simp [hKL]⟩, ⟨h1, rfl, by show 0 < 1; decide, by simp⟩, trivial⟩ ⟨.slice rfl, .slice rfl, trivial⟩ ?_
  repeat' (refine N.go ?_; first | with_reducible (first | refine N.obl (by decide) ?_ | refine N.eq ?_ | refine N.obl rfl ?_ | refine N.obl ⟨by kernel_rfl, by kernel_rfl⟩ ?_ | refine N.alt ?_ | refine N.forkT ?_ | refine N.forkF ?_) | refine MakeN.mk1 (nl a) (nl a) rfl rfl (by show 4 * (nl a) ≤ _; omega) (by omega) (Nat.mul_one _).symm ?_ | refine N.call (cCmp a y m q _ _ _ _ _ (by rfl) (isNum _ _ _) (by rfl) (isNum _ _ _) hl (by omega) (by omega) (by omega)) ?_ | refine N.forkYes (by rw [hy]; rfl) ?_ | refine N.forkNo (by decide) ?_ | refine N.forkYes (by decide) ?_ | refine N.forkYes (by rw [decide_eq_true_eq]; omega) ?_ | refine N.forkNo (by rw [decide_eq_false_iff_not]; omega) ?_ | refine N.obl trivial ?_ | exact N.true | fail)
  refine N.go ?_
  refine N.loop (α := Nat) (fun c => c ≤ nl a) (fun c => c) (fun c => [(8, .int .i64 ((c : Int) - 1)), (7, .int .u64 ((a / bw c % y : Nat) : Int))]) (fun c => [(6, numC true (nl a) (a / y / bw c * bw c))]) (nl a) (Nat.le_refl _) ?_ ?_
  · repeat (refine N.go ?_; first | exact N.true | with_reducible (first | refine N.obl rfl ?_ | refine N.obl (ChunkLe.refl _) ?_) | refine N.obl (int_i64 (by rw [IntWalk.i64_in _ (by omega)]; rfl)) ?_ | refine N.obl (inteq (by rw [i64n _ (by omega) (by omega)])) ?_ | refine N.obl (inteq (by rw [Nat.div_eq_of_lt (nl_self a), Nat.zero_mod]; rfl)) ?_ | refine N.obl (by rw [Nat.div_eq_of_lt hdv, Nat.zero_mul]; exact zeros_num) ?_ |  fail_if_success skip)
  · intro c hc
    have hc : c ≤ nl a := hc
    rcases Nat.eq_zero_or_pos c with rfl | hp
    · have he : a / y / bw 0 * bw 0 = a / y := by rw [bw_zero, Nat.div_one, Nat.mul_one]
      have hr : a / bw 0 % y = a % y := by rw [bw_zero, Nat.div_one]
      repeat' (refine N.go ?_; first | with_reducible (first | refine N.obl (by decide) ?_ | refine N.eq ?_ | refine N.obl rfl ?_ | refine N.obl ⟨by kernel_rfl, by kernel_rfl⟩ ?_ | refine N.alt ?_ | refine N.forkT ?_ | refine N.forkF ?_) | refine N.call (cTrim (a / y) (nl a) (nl a) _ _ _ (by rfl) (by rw [he]; exact isNum _ _ _) (Nat.le_refl _) (by omega) hdv) ?_ | refine N.call (cTrim (a % y) 1 1 _ _ _ (by rfl) (isNum1 (by rw [hr, w32])) (Nat.le_refl _) (by omega) (by rw [bw_one]; omega)) ?_ | refine N.obl (.tuple ⟨.slice (by rfl), .slice (by rfl), trivial⟩) ?_ | refine N.obl ⟨⟨by show 2 ≤ 6; decide, post_num (by rfl) rfl (by rw [he]; exact isNum _ _ _)⟩, ⟨by show 2 ≤ 11; decide, post_num (by rfl) rfl (isNum1 (by rw [hr, w32]))⟩, trivial⟩ ?_ | refine N.forkNo (by decide) ?_ | refine N.forkYes (by decide) ?_ | refine N.forkYes (by rw [decide_eq_true_eq]; omega) ?_ | refine N.forkNo (by rw [decide_eq_false_iff_not]; omega) ?_ | refine N.obl trivial ?_ | exact N.true | fail)
    · obtain ⟨k, rfl⟩ : ∃ k, c = k + 1 := ⟨c - 1, by omega⟩
      obtain ⟨d1, d2, d3, d4⟩ := div_word a y k hyp hy1
      have e1 : (((k + 1 : Nat) : Int) - 1) = (k : Int) := by omega
      have hr : a / bw (k + 1) % y < y := Nat.mod_lt _ hyp
      generalize a / bw (k + 1) % y = r at *
      have hx := lm_lt a k
      have ev : IntKind.u64.wrap ((BitVec.ofInt IntKind.u64.bits (IntKind.u64.wrap ((r : Int) * 2 ^ sh 32 IntKind.u64)) ||| BitVec.ofInt IntKind.u64.bits (IntKind.u64.wrap ((lm a k : Nat) : Int))).toNat : Nat) = ((r * 4294967296 + lm a k : Nat) : Int) := shl_or r (lm a k) y hr hy1 hx
      generalize hT : r * 4294967296 + lm a k = T at *
      have ey : IntKind.u64.wrap ((lm y 0 : Nat) : Int) = (y : Int) := by rw [hy0, w64 (by omega)]
      have hyz : IntKind.u64.wrap ((lm y 0 : Nat) : Int) ≠ 0 := by rw [ey]; omega
      repeat' (refine N.go ?_; first | with_reducible (first | refine N.obl (by decide) ?_ | refine N.eq ?_ | refine N.obl rfl ?_ | refine N.obl ⟨by kernel_rfl, by kernel_rfl⟩ ?_ | refine N.alt ?_ | refine N.forkT ?_ | refine N.forkF ?_) | refine N.idx k 1 e1 (by omega) ?_ | refine N.load _ (reads_num (p := k) (by omega) (by omega)) ?_ | refine N.idx 0 1 rfl (by omega) ?_ | refine N.load _ (reads_num (p := 0) (by omega) (by omega)) ?_ | refine N.obl hyz ?_ | refine N.store _ (writes_down rfl (by omega) (by rw [ev, ey, ← Int.ofNat_tdiv]; (try rw [w64 (by omega)]); rw [w32, d1]; omega)) ?_ | refine N.forkNo (by decide) ?_ | refine N.forkYes (by decide) ?_ | refine N.forkYes (by rw [decide_eq_true_eq]; omega) ?_ | refine N.forkNo (by rw [decide_eq_false_iff_not]; omega) ?_ | refine N.obl trivial ?_ | exact N.true | fail)
      refine N.go ?_
      refine N.next k ⟨by show k ≤ nl a; omega, by omega⟩ ?_
      repeat (refine N.go ?_; first | exact N.true | with_reducible (first | refine N.obl rfl ?_ | refine N.obl (ChunkLe.refl _) ?_) | refine N.obl (int_i64 (by rw [IntWalk.i64_in _ (by omega)]; rfl)) ?_ | refine N.obl (inteq (by rw [e1]; exact i64n _ (by omega) (by omega))) ?_ | refine N.obl (inteq (by rw [ev, ey, ← Int.ofNat_tmod, d2])) ?_ |  fail_if_success skip)
end Go.Proofs.Ytchfbblpflcniaa


/-
  The walks of the document's numbers: Mul, Div, Neg, Int64.
-/
set_option linter.unusedVariables false
set_option linter.unusedSimpArgs false
namespace Go.Proofs.Ytchfbblpflcniaa
open Go Go.RowKit Sx

theorem lm01 {y : Nat} (h : y < 4294967296) : lm y 0 = y ∧ lm y 1 = 0 := ⟨by unfold lm; rw [bw_zero, Nat.div_one]; exact Nat.mod_eq_of_lt h, lm_big (by rw [bw_one]; exact h)⟩
theorem writes_z {y q : Nat} {x : Int} (e : q = 0) (hx : x = (y : Int)) (hy : y < 4294967296) : Writes ⟨true, 2, [(0, 2, .agg ⟨segL 2 (repZ 1 (.int .u32 0))⟩)]⟩ q 1 (.int .u32 x) (numC true 2 y) := by
  subst e hx
  refine ⟨rfl, by show 0 + 1 ≤ 2; decide, rfl, fun j hj => ?_⟩
  have hj : j < 2 := hj
  rw [seg_cell hj]
  match j, hj with
  | 0, _ => rw [(lm01 hy).1]; rfl
  | 1, _ => rw [(lm01 hy).2]; rfl
theorem writes_z1 {y q : Nat} {x : Int} (e : q = 1) (hx : x = 0) (hy : y < 4294967296) : Writes (numC true 2 y) q 1 (.int .u32 x) (numC true 2 y) := by
  subst e hx
  refine ⟨rfl, by show 1 + 1 ≤ 2; decide, rfl, fun j hj => ?_⟩
  have hj : j < 2 := hj
  rw [seg_cell hj]
  match j, hj with
  | 0, _ => rw [if_neg (by omega)]
  | 1, _ => rw [(lm01 hy).2]; rfl
set_option maxRecDepth 100000 in
set_option maxHeartbeats 2000000 in
theorem cQuoLt (a y m q i j : Nat) (o o2 : Chunk) (h : List (Option Chunk)) (hi : h[i]? = some (some o)) (hin : IsNum o m a) (hj : h[j]? = some (some o2)) (hjn : IsNum o2 q y) (hl : nl a ≤ m) (hm : m ≤ 20) (hl2 : nl y ≤ q) (hq : q ≤ 20) (hlt : a < y) :
    CallOK Try.prog 76 [.slice (some ⟨i, 0, some 0⟩) (nl a) m, .slice (some ⟨j, 0, some 0⟩) (nl y) q] h (.tuple #[.slice none 0 0, .slice (some ⟨i, 0, some 0⟩) (nl a) m]) [] [i, j] := by
  have hcm : cmpN a y = -1 := by unfold cmpN; rw [if_pos hlt]
  refine call_sub (G := tys) [⟨i, _, numC false m a, ⟨false, 0, []⟩⟩, ⟨j, _, numC false q y, ⟨false, 0, []⟩⟩] [] [.slice (some ⟨0, 0, some 0⟩) (nl a) m, .slice (some ⟨1, 0, some 0⟩) (nl y) q] tysOK mixed Try.func76 (by rfl) (Try.call76) ⟨hi, hj, trivial⟩ ⟨⟨fun h => (by cases h), Nat.le_of_eq hin.1.symm, num_re hin⟩, ⟨fun h => (by cases h), Nat.le_of_eq hjn.1.symm, num_re hjn⟩, trivial⟩ (by simp [Apart]) trivial ⟨.slice rfl, .slice rfl, trivial⟩ ?_
  repeat' (refine N.go ?_; first | with_reducible (first | refine N.obl (by decide) ?_ | refine N.obl (flat_wi _ _ _) ?_ | refine N.obl (flat_lim _ _) ?_ | refine N.eq ?_ | refine N.obl rfl ?_ | refine N.obl ⟨by kernel_rfl, by kernel_rfl⟩ ?_ | refine N.alt ?_ | refine N.forkT ?_ | refine N.forkF ?_) | refine N.call (cCmp a y m q _ _ _ _ _ (by rfl) (isNum _ _ _) (by rfl) (isNum _ _ _) hl (by omega) (by omega) (by omega)) ?_ | refine N.forkYes (by rw [hcm]; decide) ?_ | refine N.obl (.tuple ⟨.plain rfl, .slice (by rfl), trivial⟩) ?_ | refine N.forkNo (by decide) ?_ | refine N.forkYes (by decide) ?_ | refine N.forkYes (by rw [decide_eq_true_eq]; omega) ?_ | refine N.forkNo (by rw [decide_eq_false_iff_not]; omega) ?_ | refine N.obl trivial ?_ | exact N.true | fail)
theorem or_zero (x : Nat) (hx : x < 4294967296) : IntKind.u64.wrap ((BitVec.ofInt IntKind.u64.bits 0 ||| BitVec.ofInt IntKind.u64.bits ((x : Nat) : Int)).toNat : Nat) = ((x : Nat) : Int) := by
  have := or_add 0 x (by decide) hx
  rw [Nat.zero_mul, Nat.zero_add] at this
  exact this
theorem or_add' (r x : Nat) (hr : r < 4294967296) (hx : x < 4294967296) : IntKind.u64.wrap ((BitVec.ofInt IntKind.u64.bits ((x : Nat) : Int) ||| BitVec.ofInt IntKind.u64.bits (((r * 4294967296 : Nat) : Int))).toNat : Nat) = ((r * 4294967296 + x : Nat) : Int) := by
  rw [BitVec.or_comm]; exact or_add r x hr hx
theorem i64w0 (x v : Nat) (hx : x < 4294967296) (e : x = v) : IntKind.u64.wrap ((BitVec.ofInt IntKind.u64.bits 0 ||| BitVec.ofInt IntKind.u64.bits (IntKind.u64.wrap (IntKind.u64.wrap ((x : Nat) : Int) * 2 ^ sh (IntKind.u64.wrap (IntKind.i64.wrap (32 * 0))) IntKind.u64))).toNat : Nat) = (v : Int) := by
  subst e
  rw [show sh (IntKind.u64.wrap (IntKind.i64.wrap (32 * 0))) IntKind.u64 = 0 from by decide, Int.pow_zero, Int.mul_one, w64 (n := x) (by omega), w64 (n := x) (by omega)]
  exact or_zero x hx
theorem i64w1 (x z v : Nat) (hx : x < 4294967296) (hz : z < 4294967296) (e : z * 4294967296 + x = v) : IntKind.u64.wrap ((BitVec.ofInt IntKind.u64.bits (IntKind.u64.wrap ((BitVec.ofInt IntKind.u64.bits 0 ||| BitVec.ofInt IntKind.u64.bits (IntKind.u64.wrap (IntKind.u64.wrap ((x : Nat) : Int) * 2 ^ sh (IntKind.u64.wrap (IntKind.i64.wrap (32 * 0))) IntKind.u64))).toNat : Nat)) ||| BitVec.ofInt IntKind.u64.bits (IntKind.u64.wrap (IntKind.u64.wrap ((z : Nat) : Int) * 2 ^ sh (IntKind.u64.wrap (IntKind.i64.wrap (32 * IntKind.i64.wrap (0 + 1)))) IntKind.u64))).toNat : Nat) = (v : Int) := by
  subst e
  rw [i64w0 x x hx rfl, show sh (IntKind.u64.wrap (IntKind.i64.wrap (32 * IntKind.i64.wrap (0 + 1)))) IntKind.u64 = 32 from by decide, w64 (n := z) (by omega), show ((z : Int) * 2 ^ 32) = ((z * 4294967296 : Nat) : Int) from by omega, w64 (n := z * 4294967296) (by omega)]
  exact or_add' z x hz hx
set_option maxRecDepth 100000 in
set_option maxHeartbeats 2000000 in
theorem cRI64 (v m i : Nat) (o : Chunk) (h : List (Option Chunk)) (hi : h[i]? = some (some o)) (hin : IsNum o m v) (hl : nl v ≤ m) (hm : m ≤ 20) (hv : v < 9223372036854775808) :
    CallOK Try.prog 53 [.agg #[.bool false, .bool false, .slice (some ⟨i, 0, some 0⟩) (nl v) m]] h (.tuple #[.int .i64 (v : Int), .bool true]) [] [i] := by
  have h2 : nl v ≤ 2 := (two_words (by omega)).2
  refine call_sub (G := tys) [⟨i, _, numC false m v, ⟨false, 0, []⟩⟩] [] [.agg #[.bool false, .bool false, .slice (some ⟨0, 0, some 0⟩) (nl v) m]] tysOK mixed Try.func53 (by rfl) (Try.call53) ⟨hi, trivial⟩ ⟨⟨fun h => (by cases h), Nat.le_of_eq hin.1.symm, num_re hin⟩, trivial⟩ (by simp [Apart]) trivial ⟨.agg ⟨.plain rfl, .plain rfl, .slice rfl, trivial⟩, trivial⟩ ?_
  rcases (show nl v = 0 ∨ nl v = 1 ∨ nl v = 2 by omega) with e | e | e
  · obtain rfl := nl_zero_iff.1 e
    repeat' (refine N.go ?_; first | with_reducible (first | refine N.obl (by decide) ?_ | refine N.obl (flat_wi _ _ _) ?_ | refine N.obl (flat_lim _ _) ?_ | refine N.eq ?_ | refine N.obl rfl ?_ | refine N.obl ⟨by kernel_rfl, by kernel_rfl⟩ ?_ | refine N.alt ?_ | refine N.forkT ?_ | refine N.forkF ?_) | refine N.roll 1 ?_ | refine N.forkNo (by rw [nl_zero]; decide) ?_ | refine N.obl (re_eqn (by decide) rfl) ?_ | refine N.obl (.plain (by rfl)) ?_ | refine N.idx 0 1 rfl (by omega) ?_ | refine N.load _ (reads_num (p := 0) (by omega) (by omega)) ?_ | refine N.idx 1 1 rfl (by omega) ?_ | refine N.load _ (reads_num (p := 1) (by omega) (by omega)) ?_ | refine N.forkNo (by decide) ?_ | refine N.forkYes (by decide) ?_ | refine N.forkYes (by rw [decide_eq_true_eq]; omega) ?_ | refine N.forkNo (by rw [decide_eq_false_iff_not]; omega) ?_ | refine N.obl trivial ?_ | exact N.true | fail)
  · have hv1 : v < 4294967296 := by have := nl_self v; rw [e, bw_one] at this; exact this
    have hy0 := (lm01 hv1).1
    rw [e] at hl ⊢
    have ev := i64w0 (lm v 0) v (lm_lt v 0) hy0
    repeat' (refine N.go ?_; first | with_reducible (first | refine N.obl (by decide) ?_ | refine N.obl (flat_wi _ _ _) ?_ | refine N.obl (flat_lim _ _) ?_ | refine N.eq ?_ | refine N.obl rfl ?_ | refine N.obl ⟨by kernel_rfl, by kernel_rfl⟩ ?_ | refine N.alt ?_ | refine N.forkT ?_ | refine N.forkF ?_) | refine N.roll 2 ?_ | refine N.forkNo (by rw [decide_eq_false_iff_not, ev]; omega) ?_ | refine N.obl (re_eqn (by rw [ev, i64n _ (by omega) (by omega)]) rfl) ?_ | refine N.idx 0 1 rfl (by omega) ?_ | refine N.load _ (reads_num (p := 0) (by omega) (by omega)) ?_ | refine N.idx 1 1 rfl (by omega) ?_ | refine N.load _ (reads_num (p := 1) (by omega) (by omega)) ?_ | refine N.forkNo (by decide) ?_ | refine N.forkYes (by decide) ?_ | refine N.forkYes (by rw [decide_eq_true_eq]; omega) ?_ | refine N.forkNo (by rw [decide_eq_false_iff_not]; omega) ?_ | refine N.obl trivial ?_ | exact N.true | fail)
  · have h3 : v < bw 2 := by rw [← e]; exact nl_self v
    rw [e] at hl ⊢
    have ev := i64w1 (lm v 0) (lm v 1) v (lm_lt v 0) (lm_lt v 1) (by
      have h4 : v / bw 0 = v / bw 1 * 4294967296 + lm v 0 := up_word v 0
      have h5 : v / bw 1 = v / bw 2 * 4294967296 + lm v 1 := up_word v 1
      rw [Nat.div_eq_of_lt h3] at h5
      rw [bw_zero, Nat.div_one] at h4
      omega)
    repeat' (refine N.go ?_; first | with_reducible (first | refine N.obl (by decide) ?_ | refine N.obl (flat_wi _ _ _) ?_ | refine N.obl (flat_lim _ _) ?_ | refine N.eq ?_ | refine N.obl rfl ?_ | refine N.obl ⟨by kernel_rfl, by kernel_rfl⟩ ?_ | refine N.alt ?_ | refine N.forkT ?_ | refine N.forkF ?_) | refine N.roll 3 ?_ | refine N.forkNo (by rw [decide_eq_false_iff_not, ev]; omega) ?_ | refine N.obl (re_eqn (by rw [ev, i64n _ (by omega) (by omega)]) rfl) ?_ | refine N.idx 0 1 rfl (by omega) ?_ | refine N.load _ (reads_num (p := 0) (by omega) (by omega)) ?_ | refine N.idx 1 1 rfl (by omega) ?_ | refine N.load _ (reads_num (p := 1) (by omega) (by omega)) ?_ | refine N.forkNo (by decide) ?_ | refine N.forkYes (by decide) ?_ | refine N.forkYes (by rw [decide_eq_true_eq]; omega) ?_ | refine N.forkNo (by rw [decide_eq_false_iff_not]; omega) ?_ | refine N.obl trivial ?_ | exact N.true | fail)
end Go.Proofs.Ytchfbblpflcniaa


/-
  The walks of the document's numbers: left, right, plus of nothing.
-/
set_option linter.unusedVariables false
set_option linter.unusedSimpArgs false
namespace Go.Proofs.Ytchfbblpflcniaa
open Go Go.RowKit Sx

/-- One word of a half. -/
theorem half_word (v i : Nat) : lm (v / 2) i = (lm v i + lm v (i + 1) * 4294967296) / 2 % 4294967296 := by
  have h1 := up_word v i
  have h2 := up_word v (i + 1)
  have e : v / 2 / bw i = v / bw i / 2 := by rw [Nat.div_div_eq_div_mul, Nat.mul_comm, ← Nat.div_div_eq_div_mul]
  show v / 2 / bw i % 4294967296 = _
  rw [e, h1, h2]
  generalize v / bw (i + 1 + 1) = q
  have := lm_lt v i
  have := lm_lt v (i + 1)
  omega
theorem bw_two (j : Nat) : bw j = 2 ^ (32 * j) := by
  unfold bw
  rw [show (4294967296 : Nat) = 2 ^ 32 from by decide, ← Nat.pow_mul]
theorem bn_self : ∀ (n v : Nat), bn v = n → v < 2 ^ n
  | 0, v, h => by
    rcases Nat.eq_zero_or_pos v with rfl | hv
    · decide
    · rw [bn_pos hv] at h; omega
  | n + 1, v, h => by
    rcases Nat.eq_zero_or_pos v with rfl | hv
    · exact Nat.pow_pos (by decide)
    · rw [bn_pos hv] at h
      have := bn_self n (v / 2) (by omega)
      rw [Nat.pow_succ]; omega
theorem bitn_self (v : Nat) : v < 2 ^ bitn v := by
  unfold bitn
  split
  · rename_i h; subst h; decide
  · rename_i h
    have h0 : nl v ≠ 0 := fun e => h (nl_zero_iff.1 e)
    have hs := nl_self v
    obtain ⟨y, hy⟩ : ∃ y, nl v = y + 1 := ⟨nl v - 1, by omega⟩
    rw [hy] at hs ⊢
    rw [show y + 1 - 1 = y from by omega]
    have hu := up_word v y
    rw [Nat.div_eq_of_lt hs, Nat.zero_mul, Nat.zero_add] at hu
    have hb := bn_self _ _ (rfl : bn (lm v y) = bn (lm v y))
    rw [← hu] at hb
    have h2 := (Nat.div_lt_iff_lt_mul (bw_pos y)).1 hb
    rw [Nat.pow_add, ← bw_two, Nat.mul_comm, hu.symm]
    exact h2
theorem pow_word {n : Nat} (h : n < 32) : 2 ^ n < 4294967296 := Nat.pow_lt_pow_right (by decide) h
theorem shr_one (x : Nat) (hx : x < 4294967296) : (IntKind.u64.wrap ((x : Nat) : Int)).fdiv (2 ^ sh (IntKind.u64.wrap (Int.tmod 1 32)) IntKind.u64) = ((x / 2 : Nat) : Int) := by
  rw [show sh (IntKind.u64.wrap (Int.tmod 1 32)) IntKind.u64 = 1 from by decide, w64 (by omega), Int.fdiv_eq_ediv_of_nonneg _ (by decide)]; omega
theorem shr_or (x z : Nat) (hx : x < 4294967296) (hz : z < 4294967296) : (IntKind.u64.wrap ((BitVec.ofInt IntKind.u64.bits (IntKind.u64.wrap ((x : Nat) : Int)) ||| BitVec.ofInt IntKind.u64.bits (IntKind.u64.wrap (IntKind.u64.wrap ((z : Nat) : Int) * 2 ^ sh 32 IntKind.u64))).toNat : Nat)).fdiv (2 ^ sh (IntKind.u64.wrap (Int.tmod 1 32)) IntKind.u64) = (((x + z * 4294967296) / 2 : Nat) : Int) := by
  rw [show sh (IntKind.u64.wrap (Int.tmod 1 32)) IntKind.u64 = 1 from by decide, show sh 32 IntKind.u64 = 32 from by decide, w64 (n := x) (by omega), w64 (n := z) (by omega), show ((z : Int) * 2 ^ 32) = ((z * 4294967296 : Nat) : Int) from by omega, w64 (n := z * 4294967296) (by omega)]
  rw [or_add' z x hz hx, Int.fdiv_eq_ediv_of_nonneg _ (by decide)]; omega
/-- Whether an odd number is halved. -/
def lostB (v : Nat) : Bool := (IntKind.u32.wrap ((BitVec.ofInt IntKind.u32.bits ((lm v 0 : Nat) : Int) &&& BitVec.ofInt IntKind.u32.bits (IntKind.u32.wrap (IntKind.u32.wrap (1 * 2 ^ sh (IntKind.u64.wrap (Int.tmod 1 32)) IntKind.u32) - 1))).toNat : Nat) != 0)
set_option maxRecDepth 100000 in
set_option maxHeartbeats 2000000 in
theorem cRight (v m i K : Nat) (o : Chunk) (h : List (Option Chunk)) (hi : h[i]? = some (some o)) (hin : IsNum o m v) (hl : nl v ≤ m) (hm : m ≤ 20) (hp : 0 < nl v) (h0 : h[K]? = some none) :
    CallOK Try.prog 77 [.slice (some ⟨i, 0, some 0⟩) (nl v) m, .int .i64 1] h (.tuple #[.slice (some ⟨K, 0, some 0⟩) (nl (v / 2)) (nl v), .bool (lostB v)]) [(K, numC true (nl v) (v / 2))] [i] := by
  have e0 : (0 + if m = 0 then 0 else 0 * Try.t104.size) = 0 := by simp
  have hd : v / 2 < bw (nl v) := Nat.lt_of_le_of_lt (Nat.div_le_self _ _) (nl_self v)
  refine call_sub (G := tys) [⟨i, _, numC false m v, ⟨false, 0, []⟩⟩] [⟨K, 5, numC true (nl v) (v / 2)⟩] [.slice (some ⟨0, 0, some 0⟩) (nl v) m, .int .i64 1] tysOK mixed Try.func77 (by rfl) (Try.call77) ⟨hi, trivial⟩ ⟨⟨fun h => (by cases h), Nat.le_of_eq hin.1.symm, num_re hin⟩, trivial⟩ (by simp [Apart]) ⟨⟨h0, rfl, by show 0 < nl v; omega, by simp⟩, trivial⟩ ⟨.slice rfl, .plain rfl, trivial⟩ ?_
  repeat' (refine N.go ?_; first | with_reducible (first | refine N.obl (by decide) ?_ | refine N.eq ?_ | refine N.obl rfl ?_ | refine N.obl ⟨by kernel_rfl, by kernel_rfl⟩ ?_ | refine N.alt ?_ | refine N.forkT ?_ | refine N.forkF ?_) | refine MakeN.mk1 (nl v) (nl v) rfl rfl (by show 4 * (nl v) ≤ _; omega) (by omega) (Nat.mul_one _).symm ?_ | refine N.forkNo (by rw [decide_eq_false_iff_not, i64n _ (by omega) (by omega)]; omega) ?_ | refine N.bnd 0 0 0 ⟨by decide, by omega⟩ rfl ?_ | (refine N.bnd 0 (nl v) 0 rfl ⟨by decide, by omega⟩ ?_; rw [e0, show nl v - 0 = nl v from rfl, show m - 0 = m from rfl]) | refine N.idx 0 1 rfl (by omega) ?_ | refine N.load _ (reads_num (p := 0) (by omega) (by simp)) ?_ | refine N.forkNo (by decide) ?_ | refine N.forkYes (by decide) ?_ | refine N.forkYes (by rw [decide_eq_true_eq]; omega) ?_ | refine N.forkNo (by rw [decide_eq_false_iff_not]; omega) ?_ | refine N.obl trivial ?_ | exact N.true | fail)
  refine N.go ?_
  refine N.roll 1 ?_
  repeat' (refine N.go ?_; first | with_reducible (first | refine N.obl (by decide) ?_ | refine N.eq ?_ | refine N.obl rfl ?_ | refine N.obl ⟨by kernel_rfl, by kernel_rfl⟩ ?_ | refine N.alt ?_ | refine N.forkT ?_ | refine N.forkF ?_) | refine MakeN.mk1 (nl v) (nl v) rfl rfl (by show 4 * (nl v) ≤ _; omega) (by omega) (Nat.mul_one _).symm ?_ | refine N.forkNo (by rw [decide_eq_false_iff_not, i64n _ (by omega) (by omega)]; omega) ?_ | refine N.bnd 0 0 0 ⟨by decide, by omega⟩ rfl ?_ | (refine N.bnd 0 (nl v) 0 rfl ⟨by decide, by omega⟩ ?_; rw [e0, show nl v - 0 = nl v from rfl, show m - 0 = m from rfl]) | refine N.idx 0 1 rfl (by omega) ?_ | refine N.load _ (reads_num (p := 0) (by omega) (by simp)) ?_ | refine N.forkNo (by decide) ?_ | refine N.forkYes (by decide) ?_ | refine N.forkYes (by rw [decide_eq_true_eq]; omega) ?_ | refine N.forkNo (by rw [decide_eq_false_iff_not]; omega) ?_ | refine N.obl trivial ?_ | exact N.true | fail)
  refine N.go ?_
  refine N.loop (α := Nat) (fun i => i ≤ nl v) (fun i => nl v - i) (fun i => [(59, .int .i64 (i : Int))]) (fun i => [(5, numC true (nl v) (v / 2 % bw i))]) 0 (Nat.zero_le _) ?_ ?_
  · repeat (refine N.go ?_; first | exact N.true | with_reducible (first | refine N.obl rfl ?_ | refine N.obl (ChunkLe.refl _) ?_) | refine N.obl (int_i64 (by rw [IntWalk.i64_in _ (by omega)]; rfl)) ?_ | refine N.obl (by rw [bw_zero, Nat.mod_one]; exact zeros_num) ?_ |  fail_if_success skip)
  · intro i hi'
    have hi' : i ≤ nl v := hi'
    rcases Nat.lt_or_ge i (nl v) with hlt | hge
    · have hw := half_word v i
      have hx := lm_lt v i
      have hz := lm_lt v (i + 1)
      rcases Nat.lt_or_ge (i + 1) (nl v) with hib | hib
      · have ev := shr_or (lm v i) (lm v (i + 1)) hx hz
        repeat' (refine N.go ?_; first | with_reducible (first | refine N.obl (by decide) ?_ | refine N.eq ?_ | refine N.obl rfl ?_ | refine N.obl ⟨by kernel_rfl, by kernel_rfl⟩ ?_ | refine N.alt ?_ | refine N.forkT ?_ | refine N.forkF ?_) | refine N.store _ (writes_next rfl (by omega) (by rw [ev, w32, hw])) ?_ | refine N.idx i 1 rfl (by omega) ?_ | refine N.load _ (reads_num (p := i) (by omega) (by omega)) ?_ | refine N.idx (i + 1) 1 (by rw [i64n _ (by omega) (by omega)]; omega) (by omega) ?_ | refine N.load _ (reads_num (p := i + 1) (by omega) (by omega)) ?_ | refine N.forkYes (by rw [decide_eq_true_eq, i64n _ (by omega) (by omega)]; omega) ?_ | refine N.forkNo (by rw [decide_eq_false_iff_not, i64n _ (by omega) (by omega)]; omega) ?_ | refine N.forkNo (by decide) ?_ | refine N.forkYes (by decide) ?_ | refine N.forkYes (by rw [decide_eq_true_eq]; omega) ?_ | refine N.forkNo (by rw [decide_eq_false_iff_not]; omega) ?_ | refine N.obl trivial ?_ | exact N.true | fail)
        refine N.go ?_
        refine N.next (i + 1) ⟨by show i + 1 ≤ nl v; omega, by omega⟩ ?_
        repeat (refine N.go ?_; first | exact N.true | with_reducible (first | refine N.obl rfl ?_ | refine N.obl (ChunkLe.refl _) ?_) | refine N.obl (int_i64 (by rw [IntWalk.i64_in _ (by omega)]; rfl)) ?_ | refine N.obl (inteq (by rw [i64n _ (by omega) (by omega)]; omega)) ?_ |  fail_if_success skip)
      · have h0 : lm v (i + 1) = 0 := lm_big (Nat.lt_of_lt_of_le (nl_self v) (bw_mono hib))
        have ev := shr_one (lm v i) hx
        repeat' (refine N.go ?_; first | with_reducible (first | refine N.obl (by decide) ?_ | refine N.eq ?_ | refine N.obl rfl ?_ | refine N.obl ⟨by kernel_rfl, by kernel_rfl⟩ ?_ | refine N.alt ?_ | refine N.forkT ?_ | refine N.forkF ?_) | refine N.store _ (writes_next rfl (by omega) (by rw [ev, w32, hw, h0, Nat.zero_mul, Nat.add_zero])) ?_ | refine N.idx i 1 rfl (by omega) ?_ | refine N.load _ (reads_num (p := i) (by omega) (by omega)) ?_ | refine N.idx (i + 1) 1 (by rw [i64n _ (by omega) (by omega)]; omega) (by omega) ?_ | refine N.load _ (reads_num (p := i + 1) (by omega) (by omega)) ?_ | refine N.forkYes (by rw [decide_eq_true_eq, i64n _ (by omega) (by omega)]; omega) ?_ | refine N.forkNo (by rw [decide_eq_false_iff_not, i64n _ (by omega) (by omega)]; omega) ?_ | refine N.forkNo (by decide) ?_ | refine N.forkYes (by decide) ?_ | refine N.forkYes (by rw [decide_eq_true_eq]; omega) ?_ | refine N.forkNo (by rw [decide_eq_false_iff_not]; omega) ?_ | refine N.obl trivial ?_ | exact N.true | fail)
        refine N.go ?_
        refine N.next (i + 1) ⟨by show i + 1 ≤ nl v; omega, by omega⟩ ?_
        repeat (refine N.go ?_; first | exact N.true | with_reducible (first | refine N.obl rfl ?_ | refine N.obl (ChunkLe.refl _) ?_) | refine N.obl (int_i64 (by rw [IntWalk.i64_in _ (by omega)]; rfl)) ?_ | refine N.obl (inteq (by rw [i64n _ (by omega) (by omega)]; omega)) ?_ |  fail_if_success skip)
    · obtain rfl : i = nl v := by omega
      have he : v / 2 % bw (nl v) = v / 2 := Nat.mod_eq_of_lt hd
      repeat' (refine N.go ?_; first | with_reducible (first | refine N.obl (by decide) ?_ | refine N.eq ?_ | refine N.obl rfl ?_ | refine N.obl ⟨by kernel_rfl, by kernel_rfl⟩ ?_ | refine N.alt ?_ | refine N.forkT ?_ | refine N.forkF ?_) | refine N.call (cTrim (v / 2) (nl v) (nl v) _ _ _ (by rfl) (by rw [he]; exact isNum _ _ _) (Nat.le_refl _) (by omega) hd) ?_ | refine N.obl (.tuple ⟨.slice (by rfl), .plain (by rfl), trivial⟩) ?_ | refine N.obl ⟨⟨by show 1 ≤ 5; decide, post_num (by rfl) rfl (by rw [he]; exact isNum _ _ _)⟩, trivial⟩ ?_ | refine N.forkNo (by decide) ?_ | refine N.forkYes (by decide) ?_ | refine N.forkYes (by rw [decide_eq_true_eq]; omega) ?_ | refine N.forkNo (by rw [decide_eq_false_iff_not]; omega) ?_ | refine N.obl trivial ?_ | exact N.true | fail)
theorem or32 (x : Nat) (hx : x < 4294967296) : IntKind.u32.wrap ((BitVec.ofInt IntKind.u32.bits 0 ||| BitVec.ofInt IntKind.u32.bits ((x : Nat) : Int)).toNat : Nat) = ((x : Nat) : Int) := by
  have e : (BitVec.ofInt IntKind.u32.bits 0 ||| BitVec.ofInt IntKind.u32.bits ((x : Nat) : Int)).toNat = x := by
    rw [BitVec.toNat_or, BitVec.toNat_ofInt, BitVec.toNat_ofInt]
    have h1 : (((x : Nat) : Int) % ((2 ^ IntKind.u32.bits : Nat) : Int)).toNat = x := by
      show (((x : Nat) : Int) % 4294967296).toNat = _
      omega
    rw [h1]
    show (0 : Nat) ||| x = x
    exact Nat.zero_or x
  rw [e, w32]; omega
theorem two_pow (n : Nat) (h : n < 32) : IntKind.u64.wrap (IntKind.u64.wrap ((lm 1 0 : Nat) : Int) * 2 ^ sh (IntKind.u64.wrap ((n : Int).tmod 32)) IntKind.u64) = ((2 ^ n : Nat) : Int) := by
  have hp := pow_word h
  have e1 : (n : Int).tmod 32 = (n : Int) := by rw [Int.tmod_eq_emod_of_nonneg (by omega)]; omega
  have e2 : sh (n : Int) IntKind.u64 = n := by unfold sh; show min ((n : Int)).toNat 64 = n; omega
  rw [e1, w64 (n := n) (by omega), e2, (lm01 (y := 1) (by decide)).1, w64 (n := 1) (by decide)]
  rw [show ((1 : Nat) : Int) * 2 ^ n = ((2 ^ n : Nat) : Int) from by rw [Int.natCast_pow]; show (1 : Int) * 2 ^ n = 2 ^ n; exact Int.one_mul _, w64 (by omega)]
set_option maxRecDepth 100000 in
set_option maxHeartbeats 2000000 in
theorem cLeft (n i K : Nat) (o : Chunk) (h : List (Option Chunk)) (hi : h[i]? = some (some o)) (hin : IsNum o 1 1) (hn : n < 32) (h0 : h[K]? = some none) :
    CallOK Try.prog 74 [.slice (some ⟨i, 0, some 0⟩) 1 1, .int .i64 (n : Int)] h (.slice (some ⟨K, 0, some 0⟩) (nl (2 ^ n)) 2) [(K, numC true 2 (2 ^ n))] [i] := by
  have hp := pow_word hn
  have hb2 : 2 ^ n < bw 2 := by have : bw 2 = 18446744073709551616 := by decide
                                omega
  have ev := two_pow n hn
  have eq : IntKind.i64.wrap ((n : Int).tdiv 32) = 0 := by rw [Int.tdiv_eq_ediv_of_nonneg (by omega), i64n _ (by omega) (by omega)]; omega
  refine call_sub (G := tys) [⟨i, _, numC false 1 1, ⟨false, 0, []⟩⟩] [⟨K, 5, numC true 2 (2 ^ n)⟩] [.slice (some ⟨0, 0, some 0⟩) 1 1, .int .i64 (n : Int)] tysOK mixed Try.func74 (by rfl) (Try.call74) ⟨hi, trivial⟩ ⟨⟨fun h => (by cases h), Nat.le_of_eq hin.1.symm, num_re hin⟩, trivial⟩ (by simp [Apart]) ⟨⟨h0, rfl, by show 0 < 2; decide, by simp⟩, trivial⟩ ⟨.slice rfl, .plain rfl, trivial⟩ ?_
  have hnn : 0 ≤ IntKind.u64.wrap ((n : Int).tmod 32) := by rw [IntKind.wrap_u64]; omega
  generalize hX : 2 ^ n = X at *
  repeat' (refine N.go ?_; first | with_reducible (first | refine N.obl (by decide) ?_ | refine N.eq ?_ | refine N.obl rfl ?_ | refine N.obl ⟨by kernel_rfl, by kernel_rfl⟩ ?_ | refine N.alt ?_ | refine N.forkT ?_ | refine N.forkF ?_) | refine MakeN.mk1 2 2 (by rw [eq]; decide) (by rw [eq]; decide) (by decide) (by decide) rfl ?_ | refine N.roll 2 ?_ | refine N.obl hnn ?_ | refine N.idx 0 1 (by first | rfl | (rw [eq]; decide)) (by omega) ?_ | refine N.idx 1 1 (by rw [eq]; decide) (by omega) ?_ | refine N.load _ (reads_num (p := 0) (by omega) (by omega)) ?_ | refine N.load (.int .u32 0) (reads_seg1 (by decide) rfl rfl) ?_ | refine N.load _ (reads_num (p := 1) (by omega) (by omega)) ?_ | refine N.store _ (writes_z rfl (by rw [ev, w32 X, show ((X % 4294967296 : Nat) : Int) = (X : Int) from by omega]; exact or32 X hp) hp) ?_ | refine N.store _ (writes_z1 rfl (by rw [ev, fd32, w32 (X / 4294967296), (lm01 hp).2, show ((X / 4294967296 % 4294967296 : Nat) : Int) = ((0 : Nat) : Int) from by omega]; exact or32 0 (by decide)) hp) ?_ | refine N.call (cTrim X 2 2 _ _ _ (by rfl) (isNum _ _ _) (Nat.le_refl _) (by decide) hb2) ?_ | refine N.obl (re_sl (by rfl) rfl) ?_ | refine N.obl ⟨⟨by show 1 ≤ 5; decide, post_num (by rfl) rfl (isNum _ _ _)⟩, trivial⟩ ?_ | refine N.forkNo (by decide) ?_ | refine N.forkYes (by decide) ?_ | refine N.forkYes (by rw [decide_eq_true_eq]; omega) ?_ | refine N.forkNo (by rw [decide_eq_false_iff_not]; omega) ?_ | refine N.obl trivial ?_ | exact N.true | fail)
set_option maxRecDepth 100000 in
set_option maxHeartbeats 2000000 in
theorem cPlusX (a m i K : Nat) (o : Chunk) (h : List (Option Chunk)) (hi : h[i]? = some (some o)) (hin : IsNum o m a) (hl : nl a ≤ m) (hm : m ≤ 20) (h0 : h[K]? = some none) :
    CallOK Try.prog 78 [.slice (some ⟨i, 0, some 0⟩) (nl a) m, .slice none 0 0] h (.slice (some ⟨K, 0, some 0⟩) (nl a) (nl a + 1)) [(K, numC true (nl a + 1) a)] [i] := by
  have hs : a < bw (nl a + 1) := Nat.lt_of_lt_of_le (nl_self a) (bw_mono (Nat.le_succ _))
  refine call_sub (G := tys) [⟨i, _, numC false m a, ⟨false, 0, []⟩⟩] [⟨K, 5, numC true (nl a + 1) a⟩] [.slice (some ⟨0, 0, some 0⟩) (nl a) m, .slice none 0 0] tysOK mixed Try.func78 (by rfl) (Try.call78) ⟨hi, trivial⟩ ⟨⟨fun h => (by cases h), Nat.le_of_eq hin.1.symm, num_re hin⟩, trivial⟩ (by simp [Apart]) ⟨⟨h0, rfl, by show 0 < nl a + 1; omega, by simp⟩, trivial⟩ ⟨.slice rfl, .plain rfl, trivial⟩ ?_
  repeat' (refine N.go ?_; first | with_reducible (first | refine N.obl (by decide) ?_ | refine N.eq ?_ | refine N.obl rfl ?_ | refine N.obl ⟨by kernel_rfl, by kernel_rfl⟩ ?_ | refine N.alt ?_ | refine N.forkT ?_ | refine N.forkF ?_) | refine MakeN.mk1 (nl a + 1) (nl a + 1) (by rw [i64n _ (by omega) (by omega)]; rfl) (by rw [i64n _ (by omega) (by omega)]; rfl) (by show 4 * (nl a + 1) ≤ _; omega) (by omega) (Nat.mul_one _).symm ?_ | refine N.forkNo (by decide) ?_ | refine N.forkYes (by decide) ?_ | refine N.forkYes (by rw [decide_eq_true_eq]; omega) ?_ | refine N.forkNo (by rw [decide_eq_false_iff_not]; omega) ?_ | refine N.obl trivial ?_ | exact N.true | fail)
  refine N.go ?_
  refine N.loop (α := Nat) (fun i => i ≤ nl a) (fun i => nl a - i) (fun i => [(21, .int .i64 (i : Int)), (6, .int .u64 0)]) (fun i => [(5, numC true (nl a + 1) (a % bw i))]) 0 (Nat.zero_le _) ?_ ?_
  · repeat (refine N.go ?_; first | exact N.true | with_reducible (first | refine N.obl rfl ?_ | refine N.obl (ChunkLe.refl _) ?_) | refine N.obl (int_i64 (by rw [IntWalk.i64_in _ (by omega)]; rfl)) ?_ | refine N.obl (by rw [bw_zero, Nat.mod_one]; exact zeros_num) ?_ |  fail_if_success skip)
  · intro i hi'
    have hi' : i ≤ nl a := hi'
    rcases Nat.lt_or_ge i (nl a) with hlt | hge
    · have hx := lm_lt a i
      have ev : IntKind.u64.wrap (0 + IntKind.u64.wrap ((lm a i : Nat) : Int)) = ((lm a i : Nat) : Int) := by rw [w64 (n := lm a i) (by omega), Int.zero_add, w64 (by omega)]
      repeat' (refine N.go ?_; first | with_reducible (first | refine N.obl (by decide) ?_ | refine N.eq ?_ | refine N.obl rfl ?_ | refine N.obl ⟨by kernel_rfl, by kernel_rfl⟩ ?_ | refine N.alt ?_ | refine N.forkT ?_ | refine N.forkF ?_) | refine N.store _ (writes_next rfl (by omega) (by rw [ev, w32]; omega)) ?_ | refine N.idx i 1 rfl (by omega) ?_ | refine N.load _ (reads_num (p := i) (by omega) (by omega)) ?_ | refine N.forkNo (by decide) ?_ | refine N.forkYes (by decide) ?_ | refine N.forkYes (by rw [decide_eq_true_eq]; omega) ?_ | refine N.forkNo (by rw [decide_eq_false_iff_not]; omega) ?_ | refine N.obl trivial ?_ | exact N.true | fail)
      refine N.go ?_
      refine N.next (i + 1) ⟨by show i + 1 ≤ nl a; omega, by omega⟩ ?_
      repeat (refine N.go ?_; first | exact N.true | with_reducible (first | refine N.obl rfl ?_ | refine N.obl (ChunkLe.refl _) ?_) | refine N.obl (int_i64 (by rw [IntWalk.i64_in _ (by omega)]; rfl)) ?_ | refine N.obl (inteq (by rw [i64n _ (by omega) (by omega)]; omega)) ?_ | refine N.obl (inteq (by rw [ev, fd32]; omega)) ?_ |  fail_if_success skip)
    · obtain rfl : i = nl a := by omega
      have hc : lm a (nl a) = 0 := lm_big (nl_self a)
      have he : a % bw (nl a + 1) = a := Nat.mod_eq_of_lt hs
      repeat' (refine N.go ?_; first | with_reducible (first | refine N.obl (by decide) ?_ | refine N.eq ?_ | refine N.obl rfl ?_ | refine N.obl ⟨by kernel_rfl, by kernel_rfl⟩ ?_ | refine N.alt ?_ | refine N.forkT ?_ | refine N.forkF ?_) | refine N.idx (nl a) 1 rfl (by omega) ?_ | refine N.store _ (writes_next rfl (by omega) (by rw [hc]; decide)) ?_ | refine N.call (cTrim a (nl a + 1) (nl a + 1) _ _ _ (by rfl) (by rw [he]; exact isNum _ _ _) (by omega) (by omega) hs) ?_ | refine N.obl (re_sl (by rfl) rfl) ?_ | refine N.obl ⟨⟨by show 1 ≤ 5; decide, post_num (by rfl) rfl (by rw [he]; exact isNum _ _ _)⟩, trivial⟩ ?_ | refine N.forkNo (by decide) ?_ | refine N.forkYes (by decide) ?_ | refine N.forkYes (by rw [decide_eq_true_eq]; omega) ?_ | refine N.forkNo (by rw [decide_eq_false_iff_not]; omega) ?_ | refine N.obl trivial ?_ | exact N.true | fail)
end Go.Proofs.Ytchfbblpflcniaa


/-
  The walks of the document's numbers: left and right, of any numbers.
-/
set_option linter.unusedVariables false
set_option linter.unusedSimpArgs false
namespace Go.Proofs.Ytchfbblpflcniaa
open Go Go.RowKit Sx

/-- One word of a number shifted to the right. -/
theorem shr_word (v s i : Nat) (hs : s < 32) : lm (v / 2 ^ s) i = (lm v i + lm v (i + 1) * 4294967296) / 2 ^ s % 4294967296 := by
  have h1 := up_word v i
  have h2 := up_word v (i + 1)
  have e : v / 2 ^ s / bw i = v / bw i / 2 ^ s := by rw [Nat.div_div_eq_div_mul, Nat.mul_comm, ← Nat.div_div_eq_div_mul]
  show v / 2 ^ s / bw i % 4294967296 = _
  rw [e, h1, h2]
  generalize v / bw (i + 1 + 1) = q
  generalize lm v i = x
  generalize lm v (i + 1) = y
  obtain ⟨d, hd⟩ : ∃ d, 64 = s + (32 + d) := ⟨32 - s, by omega⟩
  have e1 : (q * 4294967296 + y) * 4294967296 + x = (x + y * 4294967296) + 2 ^ s * (q * 2 ^ (32 + d)) := by
    have : (2 : Nat) ^ s * 2 ^ (32 + d) = 18446744073709551616 := by rw [← Nat.pow_add, ← hd]
    have e3 : 2 ^ s * (q * 2 ^ (32 + d)) = q * 18446744073709551616 := by rw [← this, Nat.mul_left_comm]
    rw [e3]; omega
  rw [e1, Nat.add_mul_div_left _ _ (Nat.pow_pos (by decide))]
  have e2 : q * 2 ^ (32 + d) = 4294967296 * (q * 2 ^ d) := by
    rw [Nat.pow_add, show (2 : Nat) ^ 32 = 4294967296 from by decide, Nat.mul_left_comm]
  rw [e2, Nat.add_mul_mod_self_left]
theorem sh_s (s : Nat) (hs : s < 32) : sh (IntKind.u64.wrap ((s : Int).tmod 32)) IntKind.u64 = s := by
  have e1 : (s : Int).tmod 32 = (s : Int) := by rw [Int.tmod_eq_emod_of_nonneg (by omega)]; omega
  rw [e1, w64 (n := s) (by omega)]
  unfold sh; show min ((s : Int)).toNat 64 = s; omega
theorem shrs_one (x s : Nat) (hs : s < 32) (hx : x < 4294967296) : (IntKind.u64.wrap ((x : Nat) : Int)).fdiv (2 ^ sh (IntKind.u64.wrap ((s : Int).tmod 32)) IntKind.u64) = ((x / 2 ^ s : Nat) : Int) := by
  rw [sh_s s hs, w64 (by omega), Int.fdiv_eq_ediv_of_nonneg _ (Int.le_of_lt (Int.pow_pos (by decide))), Int.natCast_ediv, Int.natCast_pow]; rfl
theorem shrs_or (x z s : Nat) (hs : s < 32) (hx : x < 4294967296) (hz : z < 4294967296) : (IntKind.u64.wrap ((BitVec.ofInt IntKind.u64.bits (IntKind.u64.wrap ((x : Nat) : Int)) ||| BitVec.ofInt IntKind.u64.bits (IntKind.u64.wrap (IntKind.u64.wrap ((z : Nat) : Int) * 2 ^ sh 32 IntKind.u64))).toNat : Nat)).fdiv (2 ^ sh (IntKind.u64.wrap ((s : Int).tmod 32)) IntKind.u64) = (((x + z * 4294967296) / 2 ^ s : Nat) : Int) := by
  rw [sh_s s hs, show sh 32 IntKind.u64 = 32 from by decide, w64 (n := x) (by omega), w64 (n := z) (by omega), show ((z : Int) * 2 ^ 32) = ((z * 4294967296 : Nat) : Int) from by omega, w64 (n := z * 4294967296) (by omega)]
  rw [or_add' z x hz hx, Int.fdiv_eq_ediv_of_nonneg _ (Int.le_of_lt (Int.pow_pos (by decide))), Int.natCast_ediv, Int.natCast_pow, Nat.add_comm]; rfl
/-- A word is replaced. -/
theorem writes_num {m v v' q p : Nat} {x : Int} (e : q = p) (hp : p < m) (hx : x = ((lm v' p : Nat) : Int)) (ho : ∀ j, j < m → j ≠ p → lm v' j = lm v j) : Writes (numC true m v) q 1 (.int .u32 x) (numC true m v') := by
  subst e hx
  refine ⟨rfl, by show q + 1 ≤ m; omega, rfl, fun j hj => ?_⟩
  have hj : j < m := hj
  rw [seg_cell hj, seg_cell hj]
  by_cases hc : q ≤ j ∧ j < q + 1
  · obtain rfl : j = q := by omega
    rw [if_pos hc, Nat.sub_self]; rfl
  · rw [if_neg hc, ho j hj (by omega)]
/-- The two words that a round of left lays. -/
theorem left_words (a i k s V y p : Nat) (hs : s < 32) (hp : p = i + k) (hV : V = a % bw i * (bw k * 2 ^ s)) (hy : y = lm a i * 2 ^ s) :
    y < 18446744073709551616 ∧ lm V p < 2 ^ s ∧ (∀ j, j < p → lm (V + y % 4294967296 * bw p) j = lm V j) ∧ lm (V + y % 4294967296 * bw p) p = lm V p + y % 4294967296 ∧ lm V p + y % 4294967296 < 4294967296 ∧ (∀ j, p < j → lm (V + y % 4294967296 * bw p) j = 0 ∧ lm V j = 0) ∧
    (∀ j, j ≠ p + 1 → lm (V + y * bw p) j = lm (V + y % 4294967296 * bw p) j) ∧ lm (V + y * bw p) (p + 1) = y / 4294967296 ∧ V + y * bw p = a % bw (i + 1) * (bw k * 2 ^ s) := by
  have hx := lm_lt a i
  have hps : (2 : Nat) ^ s ≤ 2 ^ 31 := Nat.pow_le_pow_right (by decide) (by omega)
  have hpp : 0 < (2 : Nat) ^ s := Nat.pow_pos (by decide)
  have hpb := bw_pos p
  obtain ⟨d, hd⟩ : ∃ d, 32 = s + d := ⟨32 - s, by omega⟩
  have e32 : (4294967296 : Nat) = 2 ^ s * 2 ^ d := by rw [← Nat.pow_add, ← hd]
  have hVlt : V < 2 ^ s * bw p := by
    rw [hV, hp, bw_add]
    have h1 : a % bw i < bw i := Nat.mod_lt _ (bw_pos i)
    have h2 : a % bw i * (bw k * 2 ^ s) < bw i * (bw k * 2 ^ s) := Nat.mul_lt_mul_of_pos_right h1 (Nat.mul_pos (bw_pos k) hpp)
    rw [show 2 ^ s * (bw i * bw k) = bw i * (bw k * 2 ^ s) from by rw [Nat.mul_comm (2 ^ s), Nat.mul_assoc]]
    exact h2
  have hh : V / bw p < 2 ^ s := (Nat.div_lt_iff_lt_mul hpb).2 hVlt
  have hl : lm V p = V / bw p := by unfold lm; exact Nat.mod_eq_of_lt (by omega)
  have hy64 : y < 18446744073709551616 := by
    rw [hy]
    have : lm a i * 2 ^ s ≤ 4294967295 * 2 ^ 31 := Nat.mul_le_mul (by omega) hps
    omega
  have hym : y % 4294967296 = 2 ^ s * (lm a i % 2 ^ d) := by rw [hy, Nat.mul_comm (lm a i), e32, Nat.mul_mod_mul_left]
  have hyl : y % 4294967296 + 2 ^ s ≤ 4294967296 := by
    rw [hym, e32]
    have : lm a i % 2 ^ d < 2 ^ d := Nat.mod_lt _ (Nat.pow_pos (by decide))
    have := Nat.mul_le_mul_left (2 ^ s) (show lm a i % 2 ^ d + 1 ≤ 2 ^ d from this)
    rw [Nat.mul_add] at this; omega
  have hq1 : (V + y % 4294967296 * bw p) / bw p = V / bw p + y % 4294967296 := Nat.add_mul_div_right _ _ hpb
  have hq2 : (V + y * bw p) / bw p = V / bw p + y := Nat.add_mul_div_right _ _ hpb
  have hl1 : lm (V + y % 4294967296 * bw p) p = lm V p + y % 4294967296 := by
    rw [hl]; unfold lm; rw [hq1]; exact Nat.mod_eq_of_lt (by omega)
  have up : ∀ (v j : Nat), p ≤ j → v / bw j = v / bw p / bw (j - p) := fun v j hj => by
    rw [Nat.div_div_eq_div_mul, ← bw_add]; congr 2; omega
  have hbig : ∀ j, p < j → 4294967296 ≤ bw (j - p) := fun j hj => by
    have := bw_mono (show 1 ≤ j - p by omega); rwa [bw_one] at this
  refine ⟨hy64, by rw [hl]; exact hh, fun j hj => lm_add _ hj, hl1, by rw [hl]; omega, fun j hj => ?_, fun j hj => ?_, ?_, ?_⟩
  · have hb := hbig j hj
    unfold lm
    rw [up _ j (by omega), up V j (by omega), hq1, Nat.div_eq_of_lt (by omega), Nat.div_eq_of_lt (by omega)]
    exact ⟨rfl, rfl⟩
  · rcases Nat.lt_trichotomy j p with h | h | h
    · rw [lm_add _ h, lm_add _ h]
    · subst h
      unfold lm; rw [hq1, hq2]; omega
    · have hb := bw_mono (show 2 ≤ j - p by omega)
      have h2 : bw 2 = 18446744073709551616 := by decide
      unfold lm
      rw [up _ j (by omega), up _ j (by omega), hq1, hq2]
      have hlt : V / bw p + y < 18446744073709551616 := by
        have : y + 2 ^ s ≤ 18446744073709551616 := by
          have h3 := Nat.div_add_mod y 4294967296
          omega
        omega
      rw [Nat.div_eq_of_lt (by omega), Nat.div_eq_of_lt (by omega)]
  · unfold lm
    rw [up _ (p + 1) (by omega), hq2, show p + 1 - p = 1 from by omega, bw_one]
    have h3 := Nat.div_add_mod y 4294967296
    have : (V / bw p + y) / 4294967296 = y / 4294967296 := by omega
    rw [this]; exact Nat.mod_eq_of_lt (by omega)
  · rw [low_word a i, hV, hy, hp, bw_add, Nat.add_mul]
    congr 1
    rw [Nat.mul_assoc, Nat.mul_assoc]
    congr 1
    rw [Nat.mul_left_comm, Nat.mul_comm (2 ^ s)]
/-- Whether bits are lost. -/
def lostS (v s : Nat) : Bool := (IntKind.u32.wrap ((BitVec.ofInt IntKind.u32.bits ((lm v 0 : Nat) : Int) &&& BitVec.ofInt IntKind.u32.bits (IntKind.u32.wrap (IntKind.u32.wrap (1 * 2 ^ sh (IntKind.u64.wrap ((s : Int).tmod 32)) IntKind.u32) - 1))).toNat : Nat) != 0)
set_option maxRecDepth 100000 in
set_option maxHeartbeats 2000000 in
theorem cRightS (v s m i K : Nat) (o : Chunk) (h : List (Option Chunk)) (hi : h[i]? = some (some o)) (hin : IsNum o m v) (hl : nl v ≤ m) (hm : nl v ≤ 20) (hp : 0 < nl v) (hs : s < 32) (h0 : h[K]? = some none) :
    CallOK Try.prog 77 [.slice (some ⟨i, 0, some 0⟩) (nl v) m, .int .i64 (s : Int)] h (.tuple #[.slice (some ⟨K, 0, some 0⟩) (nl (v / 2 ^ s)) (nl v), .bool (lostS v s)]) [(K, numC true (nl v) (v / 2 ^ s))] [i] := by
  have e0 : (0 + if m = 0 then 0 else 0 * Try.t104.size) = 0 := by simp
  have hd : v / 2 ^ s < bw (nl v) := Nat.lt_of_le_of_lt (Nat.div_le_self _ _) (nl_self v)
  have eq : IntKind.i64.wrap ((s : Int).tdiv 32) = 0 := by rw [Int.tdiv_eq_ediv_of_nonneg (by omega), i64n _ (by omega) (by omega)]; omega
  have hnn : 0 ≤ IntKind.u64.wrap ((s : Int).tmod 32) := by rw [IntKind.wrap_u64]; omega
  refine call_sub (G := tys) [⟨i, _, numC false m v, ⟨false, 0, []⟩⟩] [⟨K, 5, numC true (nl v) (v / 2 ^ s)⟩] [.slice (some ⟨0, 0, some 0⟩) (nl v) m, .int .i64 (s : Int)] tysOK mixed Try.func77 (by rfl) (Try.call77) ⟨hi, trivial⟩ ⟨⟨fun h => (by cases h), Nat.le_of_eq hin.1.symm, num_re hin⟩, trivial⟩ (by simp [Apart]) ⟨⟨h0, rfl, by show 0 < nl v; omega, by simp⟩, trivial⟩ ⟨.slice rfl, .plain rfl, trivial⟩ ?_
  repeat' (refine N.go ?_; first | with_reducible (first | refine N.obl (by decide) ?_ | refine N.obl (flat_wi _ _ _) ?_ | refine N.obl (flat_lim _ _) ?_ | refine N.eq ?_ | refine N.obl rfl ?_ | refine N.obl ⟨by kernel_rfl, by kernel_rfl⟩ ?_ | refine N.alt ?_ | refine N.forkT ?_ | refine N.forkF ?_) | refine MakeN.mk1 (nl v) (nl v) rfl rfl (by show 4 * (nl v) ≤ _; omega) (by omega) (Nat.mul_one _).symm ?_ | refine N.forkNo (by rw [decide_eq_false_iff_not, i64n _ (by omega) (by omega)]; omega) ?_ | refine N.obl hnn ?_ | refine N.bnd 0 0 0 ⟨by first | decide | (rw [eq]; rfl), by omega⟩ rfl ?_ | (refine N.bnd 0 (nl v) 0 rfl ⟨by first | decide | (rw [eq]; rfl), by omega⟩ ?_; rw [e0, show nl v - 0 = nl v from rfl, show m - 0 = m from rfl]) | refine N.idx 0 1 rfl (by omega) ?_ | refine N.load _ (reads_num (p := 0) (by omega) (by simp)) ?_ | refine N.forkNo (by decide) ?_ | refine N.forkYes (by decide) ?_ | refine N.forkYes (by rw [decide_eq_true_eq]; omega) ?_ | refine N.forkNo (by rw [decide_eq_false_iff_not]; omega) ?_ | refine N.obl trivial ?_ | exact N.true | fail)
  refine N.go ?_
  refine N.roll 1 ?_
  repeat' (refine N.go ?_; first | with_reducible (first | refine N.obl (by decide) ?_ | refine N.obl (flat_wi _ _ _) ?_ | refine N.obl (flat_lim _ _) ?_ | refine N.eq ?_ | refine N.obl rfl ?_ | refine N.obl ⟨by kernel_rfl, by kernel_rfl⟩ ?_ | refine N.alt ?_ | refine N.forkT ?_ | refine N.forkF ?_) | refine MakeN.mk1 (nl v) (nl v) rfl rfl (by show 4 * (nl v) ≤ _; omega) (by omega) (Nat.mul_one _).symm ?_ | refine N.forkNo (by rw [decide_eq_false_iff_not, i64n _ (by omega) (by omega)]; omega) ?_ | refine N.obl hnn ?_ | refine N.bnd 0 0 0 ⟨by first | decide | (rw [eq]; rfl), by omega⟩ rfl ?_ | (refine N.bnd 0 (nl v) 0 rfl ⟨by first | decide | (rw [eq]; rfl), by omega⟩ ?_; rw [e0, show nl v - 0 = nl v from rfl, show m - 0 = m from rfl]) | refine N.idx 0 1 rfl (by omega) ?_ | refine N.load _ (reads_num (p := 0) (by omega) (by simp)) ?_ | refine N.forkNo (by decide) ?_ | refine N.forkYes (by decide) ?_ | refine N.forkYes (by rw [decide_eq_true_eq]; omega) ?_ | refine N.forkNo (by rw [decide_eq_false_iff_not]; omega) ?_ | refine N.obl trivial ?_ | exact N.true | fail)
  refine N.go ?_
  refine N.loop (α := Nat) (fun i => i ≤ nl v) (fun i => nl v - i) (fun i => [(59, .int .i64 (i : Int))]) (fun i => [(5, numC true (nl v) (v / 2 ^ s % bw i))]) 0 (Nat.zero_le _) ?_ ?_
  · repeat (refine N.go ?_; first | exact N.true | with_reducible (first | refine N.obl rfl ?_ | refine N.obl (ChunkLe.refl _) ?_) | refine N.obl (int_i64 (by rw [IntWalk.i64_in _ (by omega)]; rfl)) ?_ | refine N.obl (by rw [bw_zero, Nat.mod_one]; exact zeros_num) ?_ |  fail_if_success skip)
  · intro i hi'
    have hi' : i ≤ nl v := hi'
    rcases Nat.lt_or_ge i (nl v) with hlt | hge
    · have hw := shr_word v s i hs
      have hx := lm_lt v i
      have hz := lm_lt v (i + 1)
      rcases Nat.lt_or_ge (i + 1) (nl v) with hib | hib
      · have ev := shrs_or (lm v i) (lm v (i + 1)) s hs hx hz
        repeat' (refine N.go ?_; first | with_reducible (first | refine N.obl (by decide) ?_ | refine N.obl (flat_wi _ _ _) ?_ | refine N.obl (flat_lim _ _) ?_ | refine N.eq ?_ | refine N.obl rfl ?_ | refine N.obl ⟨by kernel_rfl, by kernel_rfl⟩ ?_ | refine N.alt ?_ | refine N.forkT ?_ | refine N.forkF ?_) | refine N.store _ (writes_next rfl (by omega) (by rw [ev, w32, hw])) ?_ | refine N.idx i 1 rfl (by omega) ?_ | refine N.load _ (reads_num (p := i) (by omega) (by omega)) ?_ | refine N.idx (i + 1) 1 (by rw [i64n _ (by omega) (by omega)]; omega) (by omega) ?_ | refine N.load _ (reads_num (p := i + 1) (by omega) (by omega)) ?_ | refine N.forkYes (by rw [decide_eq_true_eq, i64n _ (by omega) (by omega)]; omega) ?_ | refine N.forkNo (by rw [decide_eq_false_iff_not, i64n _ (by omega) (by omega)]; omega) ?_ | refine N.obl hnn ?_ | refine N.forkNo (by decide) ?_ | refine N.forkYes (by decide) ?_ | refine N.forkYes (by rw [decide_eq_true_eq]; omega) ?_ | refine N.forkNo (by rw [decide_eq_false_iff_not]; omega) ?_ | refine N.obl trivial ?_ | exact N.true | fail)
        refine N.go ?_
        refine N.next (i + 1) ⟨by show i + 1 ≤ nl v; omega, by omega⟩ ?_
        repeat (refine N.go ?_; first | exact N.true | with_reducible (first | refine N.obl rfl ?_ | refine N.obl (ChunkLe.refl _) ?_) | refine N.obl (int_i64 (by rw [IntWalk.i64_in _ (by omega)]; rfl)) ?_ | refine N.obl (inteq (by rw [i64n _ (by omega) (by omega)]; omega)) ?_ |  fail_if_success skip)
      · have h0 : lm v (i + 1) = 0 := lm_big (Nat.lt_of_lt_of_le (nl_self v) (bw_mono hib))
        have ev := shrs_one (lm v i) s hs hx
        repeat' (refine N.go ?_; first | with_reducible (first | refine N.obl (by decide) ?_ | refine N.obl (flat_wi _ _ _) ?_ | refine N.obl (flat_lim _ _) ?_ | refine N.eq ?_ | refine N.obl rfl ?_ | refine N.obl ⟨by kernel_rfl, by kernel_rfl⟩ ?_ | refine N.alt ?_ | refine N.forkT ?_ | refine N.forkF ?_) | refine N.store _ (writes_next rfl (by omega) (by rw [ev, w32, hw, h0, Nat.zero_mul, Nat.add_zero])) ?_ | refine N.idx i 1 rfl (by omega) ?_ | refine N.load _ (reads_num (p := i) (by omega) (by omega)) ?_ | refine N.idx (i + 1) 1 (by rw [i64n _ (by omega) (by omega)]; omega) (by omega) ?_ | refine N.load _ (reads_num (p := i + 1) (by omega) (by omega)) ?_ | refine N.forkYes (by rw [decide_eq_true_eq, i64n _ (by omega) (by omega)]; omega) ?_ | refine N.forkNo (by rw [decide_eq_false_iff_not, i64n _ (by omega) (by omega)]; omega) ?_ | refine N.obl hnn ?_ | refine N.forkNo (by decide) ?_ | refine N.forkYes (by decide) ?_ | refine N.forkYes (by rw [decide_eq_true_eq]; omega) ?_ | refine N.forkNo (by rw [decide_eq_false_iff_not]; omega) ?_ | refine N.obl trivial ?_ | exact N.true | fail)
        refine N.go ?_
        refine N.next (i + 1) ⟨by show i + 1 ≤ nl v; omega, by omega⟩ ?_
        repeat (refine N.go ?_; first | exact N.true | with_reducible (first | refine N.obl rfl ?_ | refine N.obl (ChunkLe.refl _) ?_) | refine N.obl (int_i64 (by rw [IntWalk.i64_in _ (by omega)]; rfl)) ?_ | refine N.obl (inteq (by rw [i64n _ (by omega) (by omega)]; omega)) ?_ |  fail_if_success skip)
    · obtain rfl : i = nl v := by omega
      have he : v / 2 ^ s % bw (nl v) = v / 2 ^ s := Nat.mod_eq_of_lt hd
      repeat' (refine N.go ?_; first | with_reducible (first | refine N.obl (by decide) ?_ | refine N.obl (flat_wi _ _ _) ?_ | refine N.obl (flat_lim _ _) ?_ | refine N.eq ?_ | refine N.obl rfl ?_ | refine N.obl ⟨by kernel_rfl, by kernel_rfl⟩ ?_ | refine N.alt ?_ | refine N.forkT ?_ | refine N.forkF ?_) | refine N.call (cTrim (v / 2 ^ s) (nl v) (nl v) _ _ _ (by rfl) (by rw [he]; exact isNum _ _ _) (Nat.le_refl _) (by omega) hd) ?_ | refine N.obl (.tuple ⟨.slice (by rfl), .plain (by rfl), trivial⟩) ?_ | refine N.obl ⟨⟨by show 1 ≤ 5; decide, post_num (by rfl) rfl (by rw [he]; exact isNum _ _ _)⟩, trivial⟩ ?_ | refine N.forkNo (by decide) ?_ | refine N.forkYes (by decide) ?_ | refine N.forkYes (by rw [decide_eq_true_eq]; omega) ?_ | refine N.forkNo (by rw [decide_eq_false_iff_not]; omega) ?_ | refine N.obl trivial ?_ | exact N.true | fail)
theorem shl_ev (x n : Nat) (hx : x < 4294967296) (hn : n ≤ 1000000) (hy : x * 2 ^ (n % 32) < 18446744073709551616) : IntKind.u64.wrap (IntKind.u64.wrap ((x : Nat) : Int) * 2 ^ sh (IntKind.u64.wrap ((n : Int).tmod 32)) IntKind.u64) = ((x * 2 ^ (n % 32) : Nat) : Int) := by
  have e1 : (n : Int).tmod 32 = ((n % 32 : Nat) : Int) := by rw [Int.tmod_eq_emod_of_nonneg (by omega)]; omega
  have e2 : sh ((n % 32 : Nat) : Int) IntKind.u64 = n % 32 := by unfold sh; show min (((n % 32 : Nat) : Int)).toNat 64 = n % 32; omega
  rw [e1, w64 (n := n % 32) (by omega), e2, w64 (n := x) (by omega), show ((x : Nat) : Int) * 2 ^ (n % 32) = ((x * 2 ^ (n % 32) : Nat) : Int) from by rw [Int.natCast_mul, Int.natCast_pow]; rfl, w64 hy]
theorem or_u32 (g z s : Nat) (hg : g < 2 ^ s) (hz : z % 2 ^ s = 0) (hs : g + z < 4294967296) : IntKind.u32.wrap ((BitVec.ofInt IntKind.u32.bits ((g : Nat) : Int) ||| BitVec.ofInt IntKind.u32.bits ((z : Nat) : Int)).toNat : Nat) = ((g + z : Nat) : Int) := by
  have e : (BitVec.ofInt IntKind.u32.bits ((g : Nat) : Int) ||| BitVec.ofInt IntKind.u32.bits ((z : Nat) : Int)).toNat = g + z := by
    rw [BitVec.toNat_or, BitVec.toNat_ofInt, BitVec.toNat_ofInt]
    have h1 : (((g : Nat) : Int) % ((2 ^ IntKind.u32.bits : Nat) : Int)).toNat = g := by
      show (((g : Nat) : Int) % 4294967296).toNat = _
      omega
    have h2 : (((z : Nat) : Int) % ((2 ^ IntKind.u32.bits : Nat) : Int)).toNat = z := by
      show (((z : Nat) : Int) % 4294967296).toNat = _
      omega
    rw [h1, h2]
    obtain ⟨c, rfl⟩ : ∃ c, z = 2 ^ s * c := ⟨z / 2 ^ s, by have := Nat.div_add_mod z (2 ^ s); omega⟩
    rw [Nat.or_comm, ← Nat.two_pow_add_eq_or_of_lt hg, Nat.add_comm]
  rw [e, w32]; omega
set_option maxRecDepth 100000 in
set_option maxHeartbeats 2000000 in
theorem cLeftG (a n m i K : Nat) (z : Int) (hz : z = (n : Int)) (o : Chunk) (h : List (Option Chunk)) (hi : h[i]? = some (some o)) (hin : IsNum o m a) (hl : nl a ≤ m) (hm : m ≤ 31) (hp : 0 < nl a) (hn : n ≤ 320) (h0 : h[K]? = some none) :
    CallOK Try.prog 74 [.slice (some ⟨i, 0, some 0⟩) (nl a) m, .int .i64 z] h (.slice (some ⟨K, 0, some 0⟩) (nl (a * 2 ^ n)) (nl a + n / 32 + 1)) [(K, numC true (nl a + n / 32 + 1) (a * 2 ^ n))] [i] := by
  subst hz
  obtain ⟨k, hk⟩ : ∃ k, k = n / 32 := ⟨_, rfl⟩
  have ek : IntKind.i64.wrap ((n : Int).tdiv 32) = ((k : Nat) : Int) := by rw [Int.tdiv_eq_ediv_of_nonneg (by omega), i64n _ (by omega) (by omega)]; omega
  have elen : IntKind.i64.wrap (IntKind.i64.wrap (((nl a : Nat) : Int) + IntKind.i64.wrap ((n : Int).tdiv 32)) + 1) = ((nl a + k + 1 : Nat) : Int) := by
    rw [ek, i64n (((nl a : Nat) : Int) + _) (by omega) (by omega), i64n _ (by omega) (by omega)]; omega
  have hnn : 0 ≤ IntKind.u64.wrap ((n : Int).tmod 32) := by rw [IntKind.wrap_u64]; omega
  have e2n : 2 ^ n = bw k * 2 ^ (n % 32) := by rw [bw_two, ← Nat.pow_add]; congr 1; omega
  have hs32 : n % 32 < 32 := Nat.mod_lt _ (by decide)
  have hlen : a * 2 ^ n < bw (nl a + k + 1) := by
    rw [e2n, bw_add, bw_add, bw_one, Nat.mul_assoc]
    have h1 := nl_self a
    have h2 : 2 ^ (n % 32) < 4294967296 := pow_word hs32
    have h3 : bw k * 2 ^ (n % 32) ≤ bw k * 4294967296 := Nat.mul_le_mul_left _ (by omega)
    have h4 : 0 < bw k * 4294967296 := Nat.mul_pos (bw_pos k) (by decide)
    exact Nat.lt_of_le_of_lt (Nat.mul_le_mul_left _ h3) (Nat.mul_lt_mul_of_pos_right h1 h4)
  rw [← hk]
  refine call_sub (G := tys) [⟨i, _, numC false m a, ⟨false, 0, []⟩⟩] [⟨K, 5, numC true (nl a + k + 1) (a * 2 ^ n)⟩] [.slice (some ⟨0, 0, some 0⟩) (nl a) m, .int .i64 (n : Int)] tysOK mixed Try.func74 (by rfl) (Try.call74) ⟨hi, trivial⟩ ⟨⟨fun h => (by cases h), Nat.le_of_eq hin.1.symm, num_re hin⟩, trivial⟩ (by simp [Apart]) ⟨⟨h0, rfl, by show 0 < nl a + k + 1; omega, by simp⟩, trivial⟩ ⟨.slice rfl, .plain rfl, trivial⟩ ?_
  repeat' (refine N.go ?_; first | with_reducible (first | refine N.obl (by decide) ?_ | refine N.obl (flat_wi _ _ _) ?_ | refine N.obl (flat_lim _ _) ?_ | refine N.eq ?_ | refine N.obl rfl ?_ | refine N.obl ⟨by kernel_rfl, by kernel_rfl⟩ ?_ | refine N.alt ?_ | refine N.forkT ?_ | refine N.forkF ?_) | refine MakeN.mk1 (nl a + k + 1) (nl a + k + 1) elen elen (by show 4 * (nl a + k + 1) ≤ _; omega) (by omega) (Nat.mul_one _).symm ?_ | refine N.forkNo (by rw [beq_eq_false_iff_ne]; omega) ?_ | refine N.forkNo (by decide) ?_ | refine N.forkYes (by decide) ?_ | refine N.forkYes (by rw [decide_eq_true_eq]; omega) ?_ | refine N.forkNo (by rw [decide_eq_false_iff_not]; omega) ?_ | refine N.obl trivial ?_ | exact N.true | fail)
  refine N.go ?_
  refine N.loop (α := Nat) (fun i => i ≤ nl a) (fun i => nl a - i) (fun i => [(21, .int .i64 (i : Int))]) (fun i => [(5, numC true (nl a + k + 1) (a % bw i * (bw k * 2 ^ (n % 32))))]) 0 (Nat.zero_le _) ?_ ?_
  · repeat (refine N.go ?_; first | exact N.true | with_reducible (first | refine N.obl rfl ?_ | refine N.obl (ChunkLe.refl _) ?_) | refine N.obl (int_i64 (by rw [IntWalk.i64_in _ (by omega)]; rfl)) ?_ | refine N.obl (by rw [bw_zero, Nat.mod_one, Nat.zero_mul]; exact zeros_num) ?_ |  fail_if_success skip)
  · intro i hi'
    have hi' : i ≤ nl a := hi'
    rcases Nat.lt_or_ge i (nl a) with hlt | hge
    · have hx := lm_lt a i
      obtain ⟨p, hpk⟩ : ∃ p, p = i + k := ⟨_, rfl⟩
      obtain ⟨V, hV⟩ : ∃ V, V = a % bw i * (bw k * 2 ^ (n % 32)) := ⟨_, rfl⟩
      obtain ⟨y, hy⟩ : ∃ y, y = lm a i * 2 ^ (n % 32) := ⟨_, rfl⟩
      obtain ⟨f1, f2, f3, f4, f5, f6, f7, f8, f9⟩ := left_words a i k (n % 32) V y p hs32 hpk hV hy
      have ev := shl_ev (lm a i) n hx (by omega) (by rw [← hy]; exact f1)
      rw [← hy] at ev
      have hy0 : y % 4294967296 % 2 ^ (n % 32) = 0 := by
        obtain ⟨d, hd⟩ : ∃ d, 32 = n % 32 + d := ⟨32 - n % 32, by omega⟩
        have e32 : (4294967296 : Nat) = 2 ^ (n % 32) * 2 ^ d := by rw [← Nat.pow_add, ← hd]
        rw [hy, Nat.mul_comm (lm a i), e32, Nat.mul_mod_mul_left, Nat.mul_mod_right]
      have eo := or_u32 (lm V p) (y % 4294967296) (n % 32) f2 hy0 f5
      have hq : y / 4294967296 < 4294967296 := by omega
      have hz1 : lm (V + y % 4294967296 * bw p) (p + 1) = 0 := (f6 _ (by omega)).1
      have e1 : (i : Int) + ((k : Nat) : Int) = ((p : Nat) : Int) := by omega
      rw [← hV]
      repeat' (refine N.go ?_; first | with_reducible (first | refine N.obl (by decide) ?_ | refine N.obl (flat_wi _ _ _) ?_ | refine N.obl (flat_lim _ _) ?_ | refine N.eq ?_ | refine N.obl rfl ?_ | refine N.obl ⟨by kernel_rfl, by kernel_rfl⟩ ?_ | refine N.alt ?_ | refine N.forkT ?_ | refine N.forkF ?_) | refine N.store _ (writes_num (p := p) (v' := V + y % 4294967296 * bw p) (by omega) (by omega) (by rw [ev, w32 y, eo, f4]) (fun j hj hne => by rcases Nat.lt_or_gt_of_ne hne with h | h; exact f3 j h; rw [(f6 j h).1, (f6 j h).2])) ?_ | refine N.store _ (writes_num (p := p + 1) (v' := V + y * bw p) (by omega) (by omega) (by rw [ev, fd32, w32 (y / 4294967296), hz1, Nat.mod_eq_of_lt hq, or_u32 0 (y / 4294967296) 0 (by decide) (Nat.mod_one _) (by omega), f8, Nat.zero_add]) (fun j hj hne => f7 j hne)) ?_ | refine N.idx i 1 rfl (by omega) ?_ | refine N.load _ (reads_num (p := i) (by omega) (by omega)) ?_ | refine N.idx p 1 (by rw [ek, i64n _ (by omega) (by omega)]; omega) (by omega) ?_ | refine N.idx (p + 1) 1 (by rw [ek, i64n (i + k : Int) (by omega) (by omega), i64n _ (by omega) (by omega)]; omega) (by omega) ?_ | refine N.load _ (reads_num (p := p) (by omega) (by omega)) ?_ | refine N.load _ (reads_num (p := p + 1) (by omega) (by omega)) ?_ | refine N.obl hnn ?_ | refine N.forkNo (by decide) ?_ | refine N.forkYes (by decide) ?_ | refine N.forkYes (by rw [decide_eq_true_eq]; omega) ?_ | refine N.forkNo (by rw [decide_eq_false_iff_not]; omega) ?_ | refine N.obl trivial ?_ | exact N.true | fail)
      refine N.go ?_
      refine N.next (i + 1) ⟨by show i + 1 ≤ nl a; omega, by omega⟩ ?_
      rw [← f9]
      repeat (refine N.go ?_; first | exact N.true | with_reducible (first | refine N.obl rfl ?_ | refine N.obl (ChunkLe.refl _) ?_) | refine N.obl (int_i64 (by rw [IntWalk.i64_in _ (by omega)]; rfl)) ?_ | refine N.obl (inteq (by rw [i64n _ (by omega) (by omega)]; omega)) ?_ |  fail_if_success skip)
    · obtain rfl : i = nl a := by omega
      have he : a % bw (nl a) * (bw k * 2 ^ (n % 32)) = a * 2 ^ n := by rw [Nat.mod_eq_of_lt (nl_self a), e2n]
      rw [he]
      repeat' (refine N.go ?_; first | with_reducible (first | refine N.obl (by decide) ?_ | refine N.obl (flat_wi _ _ _) ?_ | refine N.obl (flat_lim _ _) ?_ | refine N.eq ?_ | refine N.obl rfl ?_ | refine N.obl ⟨by kernel_rfl, by kernel_rfl⟩ ?_ | refine N.alt ?_ | refine N.forkT ?_ | refine N.forkF ?_) | refine N.call (cTrim (a * 2 ^ n) (nl a + k + 1) (nl a + k + 1) _ _ _ (by rfl) (isNum _ _ _) (Nat.le_refl _) (by omega) hlen) ?_ | refine N.obl (re_sl (by rfl) rfl) ?_ | refine N.obl ⟨⟨by show 1 ≤ 5; decide, post_num (by rfl) rfl (isNum _ _ _)⟩, trivial⟩ ?_ | refine N.forkNo (by decide) ?_ | refine N.forkYes (by decide) ?_ | refine N.forkYes (by rw [decide_eq_true_eq]; omega) ?_ | refine N.forkNo (by rw [decide_eq_false_iff_not]; omega) ?_ | refine N.obl trivial ?_ | exact N.true | fail)
end Go.Proofs.Ytchfbblpflcniaa


/-
  A digit of a quotient of two by one (to the base 2^32), as bits.Div64 reckons it.
-/
set_option linter.unusedVariables false
namespace Go.Proofs.Ytchfbblpflcniaa.Knuth

/-- The half base. -/
abbrev h : Nat := 4294967296

variable {y1 y0 u d q r : Nat}

/-- What holds while a guessed digit is brought down: it is not below the digit. -/
structure Guess (y1 y0 u d q r : Nat) : Prop where
  sum : q * y1 + r = u
  ge : (u * h + d) / (y1 * h + y0) ≤ q
  le : q ≤ h + 1

theorem digit_lt (hd : d < h) (hu : u < y1 * h + y0) : (u * h + d) / (y1 * h + y0) < h := by
  rw [Nat.div_lt_iff_lt_mul (by omega)]
  have : (u + 1) * h ≤ (y1 * h + y0) * h := Nat.mul_le_mul_right _ hu
  rw [Nat.add_mul] at this
  rw [Nat.mul_comm h]
  simp only [h] at *
  omega

theorem first (hy1 : 2147483648 ≤ y1) (hy1' : y1 < h) (hy0 : y0 < h) (hd : d < h) (hu : u < y1 * h + y0) : Guess y1 y0 u d (u / y1) (u % y1) := by
  have hp : 0 < y1 := by omega
  refine ⟨by rw [Nat.mul_comm]; exact Nat.div_add_mod u y1, ?_, ?_⟩
  · -- the digit is at most u / y1
    have e1 : (u * h + d) / (y1 * h + y0) ≤ (u * h + d) / (y1 * h) := Nat.div_le_div_left (by omega) (by simp only [h]; omega)
    have e2 : (u * h + d) / (y1 * h) = u / y1 := by
      rw [Nat.mul_comm y1, ← Nat.div_div_eq_div_mul, Nat.mul_comm u, Nat.mul_add_div (by decide), Nat.div_eq_of_lt hd, Nat.add_zero]
    omega
  · have : u / y1 < h + 2 := by
      rw [Nat.div_lt_iff_lt_mul hp, Nat.add_mul]
      simp only [h] at *
      omega
    omega

theorem too_great (hp : 0 < y1 * h + y0) (hs : q * y1 + r = u) (hg : h * r + d < q * y0) : (u * h + d) / (y1 * h + y0) < q := by
  rw [Nat.div_lt_iff_lt_mul hp]
  have e : q * (y1 * h + y0) = q * y1 * h + q * y0 := by rw [Nat.mul_add, Nat.mul_assoc]
  rw [e, ← hs, Nat.add_mul, Nat.mul_comm r h]
  omega
theorem fits (hp : 0 < y1 * h + y0) (hs : q * y1 + r = u) (hg : q * y0 ≤ h * r + d) : q ≤ (u * h + d) / (y1 * h + y0) := by
  rw [Nat.le_div_iff_mul_le hp]
  have e : q * (y1 * h + y0) = q * y1 * h + q * y0 := by rw [Nat.mul_add, Nat.mul_assoc]
  rw [e, ← hs, Nat.add_mul, Nat.mul_comm r h]
  omega

/-- One down. -/
theorem down (hd : d < h) (hu : u < y1 * h + y0) (g : Guess y1 y0 u d q r) (ht : h ≤ q ∨ h * r + d < q * y0) : 0 < q ∧ Guess y1 y0 u d (q - 1) (r + y1) := by
  have hp : 0 < y1 * h + y0 := by omega
  have hlt := digit_lt hd hu
  have hq : (u * h + d) / (y1 * h + y0) < q := by
    rcases ht with h1 | h1
    · exact Nat.lt_of_lt_of_le hlt h1
    · exact too_great hp g.sum h1
  have h0 : 0 < q := Nat.lt_of_le_of_lt (Nat.zero_le _) hq
  obtain ⟨k, rfl⟩ : ∃ k, q = k + 1 := ⟨q - 1, by omega⟩
  refine ⟨h0, ⟨?_, by simp only [Nat.add_sub_cancel]; omega, by have := g.le; simp only [Nat.add_sub_cancel]; omega⟩⟩
  have := g.sum
  rw [Nat.add_mul, Nat.one_mul] at this
  simp only [Nat.add_sub_cancel]
  omega
/-- It is the digit: where it fits. -/
theorem stop (hd : d < h) (hu : u < y1 * h + y0) (g : Guess y1 y0 u d q r) (hq : q < h) (ht : q * y0 ≤ h * r + d) : q = (u * h + d) / (y1 * h + y0) := by
  have := fits (by omega) g.sum ht
  have := g.ge
  omega
/-- It is the digit: where the rest is a whole base. -/
theorem stop' (hy0 : y0 < h) (hd : d < h) (hu : u < y1 * h + y0) (g : Guess y1 y0 u d q r) (hq : q ≤ h) (hr : h ≤ r) : q = (u * h + d) / (y1 * h + y0) := by
  have e1 : q * y0 ≤ h * y0 := Nat.mul_le_mul_right _ hq
  have e2 : h * h ≤ h * r := Nat.mul_le_mul_left _ hr
  have e3 : h * y0 ≤ h * h := Nat.mul_le_mul_left _ (Nat.le_of_lt hy0)
  have := fits (by omega) g.sum (show q * y0 ≤ h * r + d by omega)
  have := g.ge
  omega

/-- Two digits, one behind the other. -/
theorem two (u d1 d0 Y : Nat) (hY : 0 < Y) : (u * h * h + d1 * h + d0) / Y = (u * h + d1) / Y * h + ((u * h + d1) % Y * h + d0) / Y ∧ (u * h * h + d1 * h + d0) % Y = ((u * h + d1) % Y * h + d0) % Y := by
  have e0 := Nat.div_add_mod (u * h + d1) Y
  have e : u * h * h + d1 * h + d0 = Y * ((u * h + d1) / Y * h) + ((u * h + d1) % Y * h + d0) := by
    rw [← Nat.add_mul]
    conv => lhs; rw [← e0]
    rw [Nat.add_mul, Nat.mul_assoc, Nat.add_assoc]
  rw [e, Nat.mul_add_div hY, Nat.mul_add_mod]
  exact ⟨rfl, rfl⟩

/-- Shifted up by less than 64: the upper and the lower word. -/
theorem words (hi lo s : Nat) (hs : s < 64) : (hi * 18446744073709551616 + lo) * 2 ^ s = (hi * 2 ^ s + lo / 2 ^ (64 - s)) * 18446744073709551616 + lo * 2 ^ s % 18446744073709551616 := by
  have e : (18446744073709551616 : Nat) = 2 ^ (64 - s) * 2 ^ s := by rw [← Nat.pow_add, show 64 - s + s = 64 from by omega]
  have hp : 0 < 2 ^ s := Nat.pow_pos (by decide)
  have e1 : lo * 2 ^ s / 18446744073709551616 = lo / 2 ^ (64 - s) := by
    rw [e, Nat.mul_div_mul_right _ _ hp]
  have e2 := Nat.div_add_mod (lo * 2 ^ s) 18446744073709551616
  rw [e1] at e2
  rw [Nat.add_mul, Nat.add_mul, Nat.mul_right_comm hi]
  omega

/-- What is left, shifted back. -/
theorem back (n y s : Nat) : n * 2 ^ s / (y * 2 ^ s) = n / y ∧ n * 2 ^ s % (y * 2 ^ s) / 2 ^ s = n % y := by
  have hp : 0 < 2 ^ s := Nat.pow_pos (by decide)
  refine ⟨Nat.mul_div_mul_right _ _ hp, ?_⟩
  rw [Nat.mul_mod_mul_right, Nat.mul_div_cancel _ hp]
theorem join (u l d1 d0 : Nat) (el : l = d1 * 4294967296 + d0) : u * 18446744073709551616 + l = u * h * h + d1 * h + d0 := by
  subst el
  show u * 18446744073709551616 + (d1 * 4294967296 + d0) = u * 4294967296 * 4294967296 + d1 * 4294967296 + d0
  omega
end Go.Proofs.Ytchfbblpflcniaa.Knuth


/-
  Loops in whose rounds a stretch of memory gives way to a new one: at the head the new one has the old one's number.
-/
set_option linter.unusedVariables false
set_option linter.unusedSimpArgs false
namespace Go.Proofs.Ytchfbblpflcniaa.Sx
open Go Go.RowKit

/-- The number with the callee of a number at the head. -/
def ixI : List (Nat × Nat) → Nat → Option Nat
  | [], _ => none
  | (k, i) :: r, n => match Nat.beq i n with
    | true => some k
    | false => ixI r n
def ixFree : List (Nat × Nat) → Nat → Nat → Bool
  | [], _, _ => true
  | (k, i) :: r, a, b => (!Nat.beq k a && !Nat.beq i b) && ixFree r a b
def ixNo : List (Nat × Nat) → Bool
  | [] => true
  | (k, i) :: r => ixFree r k i && ixNo r
def ixBase (ix : List (Nat × Nat)) : Nat → Bool
  | 0 => true
  | n + 1 => (match ixI ix n with
    | some k => Nat.beq k n
    | none => false) && ixBase ix n
def ixFil (h : List (Option Chunk)) : List (Nat × Nat) → Bool
  | [] => true
  | (_, i) :: r => filB h i && ixFil h r
theorem ixFree_out : ∀ {ix : List (Nat × Nat)} {a b : Nat}, ixFree ix a b = true → ∀ k i, (k, i) ∈ ix → k ≠ a ∧ i ≠ b
  | [], _, _, _, k, i, h => by simp at h
  | (x, y) :: r, a, b, h, k, i, hm => by
    simp only [ixFree, Bool.and_eq_true, Bool.not_eq_true'] at h
    rcases List.mem_cons.1 hm with e | hm
    · simp only [Prod.mk.injEq] at e
      obtain ⟨rfl, rfl⟩ := e
      exact ⟨fun e => by subst e; simp at h, fun e => by subst e; simp at h⟩
    · exact ixFree_out h.2 k i hm
theorem ixNo_out : ∀ {ix : List (Nat × Nat)}, ixNo ix = true → ∀ k i k' i', (k, i) ∈ ix → (k', i') ∈ ix → ((k = k' ∨ i = i') → k = k' ∧ i = i')
  | [], _, k, i, k', i', h, _, _ => by simp at h
  | (x, y) :: r, hn, k, i, k', i', h, h', he => by
    simp only [ixNo, Bool.and_eq_true] at hn
    rcases List.mem_cons.1 h with e | hm <;> rcases List.mem_cons.1 h' with e' | hm'
    · simp only [Prod.mk.injEq] at e e'; omega
    · simp only [Prod.mk.injEq] at e
      have := ixFree_out hn.1 k' i' hm'
      omega
    · simp only [Prod.mk.injEq] at e'
      have := ixFree_out hn.1 k i hm
      omega
    · exact ixNo_out hn.2 k i k' i' hm hm' he
theorem ixI_mem : ∀ {ix : List (Nat × Nat)} {i k : Nat}, ixI ix i = some k → (k, i) ∈ ix
  | [], _, _, h => by cases h
  | (a, b) :: r, i, k, h => by
    simp only [ixI] at h
    cases e : Nat.beq b i with
    | true =>
      rw [e] at h
      have := Nat.eq_of_beq_eq_true e
      simp only [Option.some.injEq] at h
      subst this h; simp
    | false => rw [e] at h; exact List.mem_cons_of_mem _ (ixI_mem h)
theorem ixI_of : ∀ {ix : List (Nat × Nat)} {i k : Nat}, ixNo ix = true → (k, i) ∈ ix → ixI ix i = some k
  | [], _, _, _, h => by simp at h
  | (a, b) :: r, i, k, hn, h => by
    simp only [ixI]
    cases e : Nat.beq b i with
    | true =>
      have e := Nat.eq_of_beq_eq_true e
      subst e
      have := (ixNo_out hn a b k b (by simp) h (.inr rfl)).1
      rw [this]
    | false =>
      simp only [ixNo, Bool.and_eq_true] at hn
      rcases List.mem_cons.1 h with e' | hm
      · simp only [Prod.mk.injEq] at e'
        obtain ⟨rfl, rfl⟩ := e'
        rw [Nat.beq_refl] at e; cases e
      · exact ixI_of hn.2 hm
theorem ixBase_out {ix : List (Nat × Nat)} : ∀ {n : Nat}, ixBase ix n = true → ∀ i, i < n → ixI ix i = some i
  | 0, _, i, h => absurd h (by omega)
  | n + 1, hb, i, h => by
    simp only [ixBase, Bool.and_eq_true] at hb
    rcases Nat.lt_or_ge i n with h1 | h1
    · exact ixBase_out hb.2 i h1
    · obtain rfl : i = n := by omega
      cases e : ixI ix i with
      | none => rw [e] at hb; simp at hb
      | some k => rw [e] at hb; simp only at hb; rw [Nat.eq_of_beq_eq_true hb.1]
theorem ixFil_out {h : List (Option Chunk)} : ∀ {ix : List (Nat × Nat)}, ixFil h ix = true → ∀ k i, (k, i) ∈ ix → Fil h i
  | [], _, k, i, hm => by simp at hm
  | (a, b) :: r, hb, k, i, hm => by
    simp only [ixFil, Bool.and_eq_true] at hb
    rcases List.mem_cons.1 hm with e | hm
    · simp only [Prod.mk.injEq] at e
      obtain ⟨rfl, rfl⟩ := e
      exact filB_iff.1 hb.1
    · exact ixFil_out hb.2 k i hm

/-- A stretch at the head, out of one at the round's end. -/
class XLe (c' c : Chunk) : Prop where
  le : c'.x = Ext.none ∨ c'.x = c.x
instance XLe.none {o : Bool} {n : Nat} {ps : List (Nat × Nat × Value)} {c : Chunk} : XLe (@Chunk.mk Ext.none o n ps) c := ⟨.inl rfl⟩
instance XLe.refl (c : Chunk) : XLe c c := ⟨.inr rfl⟩
structure ChunkReLe (ix : List (Nat × Nat)) (c' c : Chunk) : Prop where
  [x : XLe c' c]
  own : c'.own = true → c.own = true
  le : c'.n ≤ c.n
  re : ∀ j, j < c'.n → Re1 ix (c'.f j) (c.f j)
theorem ChunkReLe.same {ix : List (Nat × Nat)} {o : Bool} {n : Nat} {ps : List (Nat × Nat × Value)} (hp : ∀ j, j < n → plain1 (cellOf ps j) = true) : ChunkReLe ix ⟨o, n, ps⟩ ⟨o, n, ps⟩ := ⟨id, Nat.le_refl _, fun j hj => .plain (hp j hj)⟩
def renT (ix : List (Nat × Nat)) : List (Option Value) → List (Option Value) → Prop → Prop
  | [], [], A => A
  | _ :: a, none :: b, A => renT ix a b A
  | some u :: a, some v :: b, A => N (Obl (Re ix v u) (renT ix a b A))
  | _, _, _ => False
def renH (ix : List (Nat × Nat)) (h : List (Option Chunk)) : List (Option Chunk) → Nat → Prop → Prop
  | [], _, A => A
  | none :: b, i, A => renH ix h b (i + 1) A
  | some c' :: b, i, A => match ixI ix i with
    | some k => getH h k fun c => N (Obl (ChunkReLe ix c' c) (renH ix h b (i + 1) A))
    | none => False
def renK (n0 : Nat) (ix : List (Nat × Nat)) (st s : St) (A : Prop) : Prop :=
  match st, s with
  | ⟨t, h⟩, ⟨t', h'⟩ => match ixNo ix && ixBase ix n0 && ixFil h' ix with
    | true => renT ix t t' (renH ix h h' 0 A)
    | false => False
theorem renT_out {ix : List (Nat × Nat)} : ∀ {t t' : List (Option Value)} {A : Prop}, renT ix t t' A → t'.length = t.length ∧ (∀ (i : Nat) (v : Value), t'[i]? = some (some v) → ∃ u, t[i]? = some (some u) ∧ Re ix v u) ∧ A
  | [], [], A, h => ⟨rfl, fun i v hi => by simp at hi, h⟩
  | x :: a, none :: b, A, h => by
    have h : renT ix a b A := by cases x <;> exact h
    obtain ⟨h1, h2, h3⟩ := renT_out h
    refine ⟨by simp [h1], fun i v hi => ?_, h3⟩
    cases i with
    | zero => simp at hi
    | succ i => simpa using h2 i v (by simpa using hi)
  | some u :: a, some v :: b, A, h => by
    obtain ⟨e, h⟩ := N.out h
    obtain ⟨h1, h2, h3⟩ := renT_out h
    refine ⟨by simp [h1], fun i w hi => ?_, h3⟩
    cases i with
    | zero => simp at hi; subst hi; exact ⟨u, rfl, e⟩
    | succ i => simpa using h2 i w (by simpa using hi)
  | none :: a, some v :: b, A, h => h.elim
  | [], _ :: _, A, h => h.elim
  | _ :: _, [], A, h => by cases ‹Option Value› <;> exact h.elim
theorem renH_out {ix : List (Nat × Nat)} {h : List (Option Chunk)} : ∀ {b : List (Option Chunk)} {i0 : Nat} {A : Prop}, renH ix h b i0 A → (∀ (i : Nat) (c' : Chunk), b[i]? = some (some c') → ∃ k c, ixI ix (i0 + i) = some k ∧ h[k]? = some (some c) ∧ ChunkReLe ix c' c) ∧ A
  | [], i0, A, hh => ⟨fun i c' hi => by simp at hi, hh⟩
  | none :: b, i0, A, hh => by
    obtain ⟨h1, h2⟩ := renH_out (b := b) hh
    refine ⟨fun i c' hi => ?_, h2⟩
    cases i with
    | zero => simp at hi
    | succ i => have := h1 i c' (by simpa using hi); rwa [show i0 + 1 + i = i0 + (i + 1) from by omega] at this
  | some c0 :: b, i0, A, hh => by
    simp only [renH] at hh
    split at hh
    · rename_i k hk
      obtain ⟨c, hc, hh⟩ := getH_out hh
      obtain ⟨e, hh⟩ := N.out hh
      obtain ⟨h1, h2⟩ := renH_out (b := b) hh
      refine ⟨fun i c' hi => ?_, h2⟩
      cases i with
      | zero => simp at hi; subst hi; exact ⟨k, c, hk, hc, e⟩
      | succ i => have := h1 i c' (by simpa using hi); rwa [show i0 + 1 + i = i0 + (i + 1) from by omega] at this
    · exact hh.elim
theorem ren_out {n0 : Nat} {ix : List (Nat × Nat)} {st s : St} {A : Prop} (hh : renK n0 ix st s A) : Wkg n0 st s ∧ A := by
  obtain ⟨t, h⟩ := st
  obtain ⟨t', h'⟩ := s
  simp only [renK] at hh
  cases hb : ixNo ix && ixBase ix n0 && ixFil h' ix with
  | false => rw [hb] at hh; exact hh.elim
  | true =>
    rw [hb] at hh
    simp only [Bool.and_eq_true] at hb
    obtain ⟨a1, a2, hh⟩ := renT_out hh
    obtain ⟨b1, hA⟩ := renH_out hh
    refine ⟨fun X ρ a w hn R => ?_, hA⟩
    subst hn
    let ρ' : Nat → Nat × Nat := fun i => match ixI ix i with
      | some k => ρ k
      | none => ρ i
    have hρ : ∀ k i, (k, i) ∈ ix → ρ' i = ρ k := fun k i hm => by
      show (match ixI ix i with | some k => ρ k | none => ρ i) = ρ k
      rw [ixI_of hb.1.1 hm]
    have hr : ∀ r, AgreeOn (Fil h') ρ' r → ∀ k i, (k, i) ∈ ix → r i = ρ k := fun r hrr k i hm => (hrr i (ixFil_out hb.2 k i hm)).trans (hρ k i hm)
    have hat : ∀ i c', h'[i]? = some (some c') → ∃ k c, (k, i) ∈ ix ∧ h[k]? = some (some c) ∧ ChunkReLe ix c' c := fun i c' hi => by
      obtain ⟨k, c, h1, h2, h3⟩ := b1 i c' hi
      rw [Nat.zero_add] at h1
      exact ⟨k, c, ixI_mem h1, h2, h3⟩
    refine ⟨ρ', R.defers, R.size.trans a1.symm, fun i v hi => ?_, R.heap.evo, fun i hi => ?_, fun i c' hi => ?_, fun i c' hi j hj => ?_, fun i c' hi ho j hj => ?_, fun i c' j d' hi ho hj hne => ?_, ?_⟩
    · obtain ⟨u, hu, hre⟩ := a2 i v hi
      obtain ⟨x, hx, hd⟩ := R.slot i u hu
      exact ⟨x, hx, fun r hrr => (hre.den (hr r hrr)).trans hd.self⟩
    · have hm := ixI_mem (ixBase_out hb.1.2 i hi)
      exact ⟨ixFil_out hb.2 i i hm, (hρ i i hm).trans (R.heap.base i hi).2⟩
    · obtain ⟨k, c, hm, hc, _⟩ := hat i c' hi
      rw [hρ k i hm]; exact R.heap.lt k c hc
    · obtain ⟨k, c, hm, hc, L⟩ := hat i c' hi
      obtain ⟨x, hx, hd⟩ := R.heap.cell k c hc j (Nat.lt_of_lt_of_le hj L.le)
      rw [hρ k i hm]
      exact ⟨x, hx, fun r hrr => ((L.re j hj).den (hr r hrr)).trans hd.self⟩
    · obtain ⟨k, c, hm, hc, L⟩ := hat i c' hi
      rw [hρ k i hm]
      exact R.heap.own k c hc (L.own ho) j (Nat.lt_of_lt_of_le hj L.le)
    · obtain ⟨k, c, hm, hc, L⟩ := hat i c' hi
      obtain ⟨l, d, hm', hd, _⟩ := hat j d' hj
      rw [hρ k i hm, hρ l j hm']
      exact R.heap.sep k c l d hc (L.own ho) hd fun e => hne (ixNo_out hb.1.1 k i l j hm hm' (.inl e)).2
    · obtain ⟨S, E⟩ := R.heap.ext
      refine ⟨fun i b => ∃ k c', (k, i) ∈ ix ∧ h'[i]? = some (some c') ∧ c'.x ≠ Ext.none ∧ S k b, fun i c' hi => ?_, fun i c' b hi hS => ?_, fun i c' b j d' hi hS hj hne => ?_⟩
      · obtain ⟨k, c, hm, hc, L⟩ := hat i c' hi
        by_cases en : c'.x = Ext.none
        · rw [en]
          rintro b ⟨_, c'', _, hi', h1, _⟩
          rw [hi] at hi'
          obtain rfl : c' = c'' := by simpa using hi'
          exact h1 en
        · have : (fun b => ∃ k c', (k, i) ∈ ix ∧ h'[i]? = some (some c') ∧ c'.x ≠ Ext.none ∧ S k b) = S k := by
            funext b
            refine propext ⟨?_, fun hb => ⟨k, c', hm, hi, en, hb⟩⟩
            rintro ⟨k', _, hm', _, _, hb'⟩
            rw [(ixNo_out hb.1.1 k i k' i hm hm' (.inr rfl)).1]; exact hb'
          rw [this, hρ k i hm]
          rcases L.x.le with e | e
          · exact absurd e en
          · rw [e]; exact E.inv k c hc
      · obtain ⟨k, c, hm, hc, L⟩ := hat i c' hi
        obtain ⟨k', _, hm', _, _, hb'⟩ := hS
        rw [← (ixNo_out hb.1.1 k i k' i hm hm' (.inr rfl)).1] at hb'
        obtain ⟨h1, h2, h3⟩ := E.mine k c b hc hb'
        have := L.le
        exact ⟨by rw [hρ k i hm]; omega, h2, h3⟩
      · obtain ⟨k, c, hm, hc, L⟩ := hat i c' hi
        obtain ⟨k', _, hm', _, _, hb'⟩ := hS
        rw [← (ixNo_out hb.1.1 k i k' i hm hm' (.inr rfl)).1] at hb'
        obtain ⟨l, d, hml, hd, _⟩ := hat j d' hj
        obtain ⟨a1, a2⟩ := E.apart k c b l d hc hb' hd fun e => hne (ixNo_out hb.1.1 l j k i hml hm (.inl e)).2
        refine ⟨by rw [hρ l j hml]; exact a1, ?_⟩
        rintro ⟨l', _, hml', _, _, hbl⟩
        rw [← (ixNo_out hb.1.1 l j l' j hml hml' (.inr rfl)).1] at hbl
        exact a2 hbl

def NextR {α : Type} (p : α → Prop) (K : List (Nat × Nat) → α → Prop) : Prop := ∃ y ix, p y ∧ K ix y
theorem N.nextR {α : Type} {p : α → Prop} {K : List (Nat × Nat) → α → Prop} (y : α) (ix : List (Nat × Nat)) (hp : p y) (k : K ix y) : N (NextR p K) := N.mk ⟨y, ix, hp, k⟩
section
variable {P : Program} {G : Tys}
theorem nonesK_iff : ∀ {n : Nat} {K : List (Option Chunk) → Prop}, nonesK n K ↔ K (List.replicate n none)
  | 0, K => Iff.rfl
  | n + 1, K => nonesK_iff (n := n) (K := fun r => K (none :: r))
theorem appK_iff : ∀ {h : List (Option Chunk)} {n : Nat} {K : List (Option Chunk) → Prop}, appK h n K ↔ K (h ++ List.replicate n none)
  | [], n, K => nonesK_iff
  | x :: r, n, K => appK_iff (h := r) (n := n) (K := fun r' => K (x :: r'))
/-- As N.loop; what the head is told of may have other numbers at a round's end. Three more numbers are free at the head. -/
theorem N.loopR {n0 : Nat} {c : Code} {A : (Exit → St → Prop) → St → Prop} {Q : Exit → St → Prop} {t : List (Option Value)} {h : List (Option Chunk)} {α : Type} (inv : α → Prop) (μ : α → Nat) (sets : α → List (Nat × Value)) (hs : α → List (Nat × Chunk)) (x0 : α) (ix0 : List (Nat × Nat)) (h0 : inv x0)
    (hw : updK (maskC c) (sets x0) t 0 fun t' => appK h 3 fun hp => setM hp (hs x0) fun h' => renK n0 ix0 ⟨t, h⟩ ⟨t', h'⟩ (N True))
    (hr : ∀ x, inv x → updK (maskC c) (sets x) t 0 fun t' => appK h 3 fun hp => setM hp (hs x) fun h' => A (thenQ (fun s => N (NextR (fun y => inv y ∧ μ y < μ x) fun ix y => updK (maskC c) (sets y) t 0 fun t'' => appK h 3 fun hp => setM hp (hs y) fun h'' => renK n0 ix s ⟨t'', h''⟩ (N True))) Q) ⟨t', h'⟩) : N (LoopN P G n0 c A Q ⟨t, h⟩) := by
  refine N.mk ⟨α, fun x => ⟨updT (maskC c) (sets x) t 0, modH (h ++ List.replicate 3 none) (hs x)⟩, inv, μ, fun x s => N (NextR (fun y => inv y ∧ μ y < μ x) fun ix y => updK (maskC c) (sets y) t 0 fun t'' => appK h 3 fun hp => setM hp (hs y) fun h'' => renK n0 ix s ⟨t'', h''⟩ (N True)), fun x s hq => ?_, ⟨x0, h0, (ren_out (setM_iff.1 (appK_iff.1 (updK_iff.1 hw)))).1⟩, fun x hx => setM_iff.1 (appK_iff.1 (updK_iff.1 (hr x hx)))⟩
  obtain ⟨y, ix, ⟨hy, hlt⟩, hk⟩ := N.out hq
  exact ⟨y, hy, (ren_out (setM_iff.1 (appK_iff.1 (updK_iff.1 hk)))).1, hlt⟩
end
end Go.Proofs.Ytchfbblpflcniaa.Sx


/-
  The document's quotients by two words: the plain part.
-/
set_option linter.unusedVariables false
set_option linter.unusedSimpArgs false
namespace Go.Proofs.Ytchfbblpflcniaa
open Go Go.RowKit Sx

/-- Words of a number over the low words of another one. -/
theorem lm_join (X a j p : Nat) : lm (X * bw j + a % bw j) p = if p < j then lm a p else lm X (p - j) := by
  have hb := bw_pos j
  have hl : a % bw j < bw j := Nat.mod_lt _ hb
  by_cases h : p < j
  · rw [if_pos h, Nat.add_comm, lm_add X h, lm_mod h]
  · rw [if_neg h]
    unfold lm
    have e : bw p = bw j * bw (p - j) := by rw [← bw_add]; congr 1; omega
    rw [e, ← Nat.div_div_eq_div_mul, Nat.mul_comm X, Nat.mul_add_div hb, Nat.div_eq_of_lt hl, Nat.add_zero]
theorem lm_three (x2 x1 x0 : Nat) (h2 : x2 < 4294967296) (h1 : x1 < 4294967296) (h0 : x0 < 4294967296) : lm ((x2 * 4294967296 + x1) * 4294967296 + x0) 0 = x0 ∧ lm ((x2 * 4294967296 + x1) * 4294967296 + x0) 1 = x1 ∧ lm ((x2 * 4294967296 + x1) * 4294967296 + x0) 2 = x2 ∧ ∀ k, 3 ≤ k → lm ((x2 * 4294967296 + x1) * 4294967296 + x0) k = 0 := by
  refine ⟨?_, ?_, ?_, fun k hk => ?_⟩
  · unfold lm; rw [bw_zero, Nat.div_one]; omega
  · unfold lm; rw [bw_one]; omega
  · unfold lm; rw [show bw 2 = 18446744073709551616 from by decide]; omega
  · have h3 := bw_mono hk
    rw [show bw 3 = 79228162514264337593543950336 from by decide] at h3
    exact lm_big (by omega)
/-- What holds of a round of the long division: R the rest so far, d the next word. -/
structure QRound (A V j R d T : Nat) : Prop where
  eR : R = A / bw (j + 1) % V
  ed : d = lm A j
  eT : T = R * 4294967296 + d
  lt : R < V
  dlt : d < 4294967296
  rest : T % V = A / bw j % V
  quo : T / V = lm (A / V) j
  head : R * bw (j + 1) + A % bw (j + 1) = T * bw j + A % bw j
set_option maxRecDepth 100000 in
theorem q_lt (r x V : Nat) (hl : r < V) (hd : x < 4294967296) : r * 4294967296 + x < 4294967296 * V := by omega
theorem q_key (a b r x g : Nat) (hu : b = a * 4294967296 + x) (e0 : g + r = a) : b = g * 4294967296 + (r * 4294967296 + x) := by subst e0; rw [hu, Nat.add_mul, Nat.add_assoc]
theorem q_round (A V j : Nat) (hV : 0 < V) : QRound A V j (A / bw (j + 1) % V) (lm A j) (A / bw (j + 1) % V * 4294967296 + lm A j) := by
  have hl : A / bw (j + 1) % V < V := Nat.mod_lt _ hV
  have hd := lm_lt A j
  have hT := q_lt _ _ _ hl hd
  have key := q_key _ _ _ _ _ (up_word A j) (Nat.div_add_mod (A / bw (j + 1)) V)
  rw [Nat.mul_assoc] at key
  refine ⟨rfl, rfl, rfl, hl, hd, ?_, ?_, ?_⟩
  · rw [key, Nat.mul_add_mod]
  · have e : A / V / bw j = A / bw (j + 1) / V * 4294967296 + (A / bw (j + 1) % V * 4294967296 + lm A j) / V := by
      rw [Nat.div_div_eq_div_mul, Nat.mul_comm V, ← Nat.div_div_eq_div_mul, key, Nat.mul_add_div hV]
    have hq : (A / bw (j + 1) % V * 4294967296 + lm A j) / V < 4294967296 := (Nat.div_lt_iff_lt_mul hV).2 hT
    generalize (A / bw (j + 1) % V * 4294967296 + lm A j) / V = x at *
    show x = A / V / bw j % 4294967296
    rw [e, Nat.mul_comm (A / bw (j + 1) / V), Nat.mul_add_mod, Nat.mod_eq_of_lt hq]
  · have e1 : bw (j + 1) = 4294967296 * bw j := by rw [bw_succ, Nat.mul_comm]
    rw [low_word A j]
    generalize A / bw (j + 1) % V = r
    generalize lm A j = x
    generalize A % bw j = l
    rw [e1, Nat.add_mul, ← Nat.mul_assoc]
    generalize r * 4294967296 * bw j = g
    generalize x * bw j = y
    omega
theorem digit (P Q d e : Nat) (hd : d < 4294967296) (he : e < 8589934592) (E : P * 4294967296 + d = Q * 4294967296 + e) : (d = e ∧ P = Q) ∨ (d + 4294967296 = e ∧ P = Q + 1) := by
  rw [Nat.mul_comm P, Nat.mul_comm Q] at E
  have hm := congrArg (fun x => x % 4294967296) E
  have hq := congrArg (fun x => x / 4294967296) E
  simp only [Nat.mul_add_mod, Nat.mul_add_div (show 0 < 4294967296 by decide)] at hm hq
  clear E
  rw [Nat.mod_eq_of_lt hd] at hm
  rw [Nat.div_eq_of_lt hd] at hq
  rcases Nat.lt_or_ge e 4294967296 with h | h
  · rw [Nat.mod_eq_of_lt h] at hm
    rw [Nat.div_eq_of_lt h] at hq
    exact .inl ⟨hm, hq⟩
  · have e1 : e / 4294967296 = 1 := by omega
    have e2 : e % 4294967296 + 4294967296 = e := by omega
    rw [e1] at hq
    exact .inr ⟨by rw [hm]; exact e2, hq⟩
theorem core (u2 u1 d g1 l1 l0 w1 w0 : Nat) (h1 : u1 < 4294967296) (h0 : d < 4294967296) (hl1 : l1 < 4294967296) (hl0 : l0 < 4294967296) (hw1 : w1 < 4294967296) (hw0 : w0 < 4294967296) (E : (u2 * 4294967296 + u1) * 4294967296 + d = (g1 * 4294967296 + (l1 + w1)) * 4294967296 + (l0 + w0)) :
    ∃ b0 b1 : Int, (b0 = 0 ∨ b0 = -1) ∧ (b1 = 0 ∨ b1 = -1) ∧ (d : Int) - l0 = w0 + b0 * 4294967296 ∧ b0 + ((u1 : Int) - l1) = w1 + b1 * 4294967296 ∧ b1 + ((u2 : Int) - g1) = 0 := by
  rcases digit _ _ _ _ h0 (by omega) E with ⟨a, b⟩ | ⟨a, b⟩
  · rcases digit _ _ _ _ h1 (by omega) b with ⟨c, e⟩ | ⟨c, e⟩
    · exact ⟨0, 0, .inl rfl, .inl rfl, by omega, by omega, by omega⟩
    · exact ⟨0, -1, .inl rfl, .inr rfl, by omega, by omega, by omega⟩
  · rw [Nat.add_assoc] at b
    rcases digit _ _ _ (l1 + w1 + 1) h1 (by omega) b with ⟨c, e⟩ | ⟨c, e⟩
    · exact ⟨-1, 0, .inr rfl, .inl rfl, by omega, by omega, by omega⟩
    · exact ⟨-1, -1, .inr rfl, .inr rfl, by omega, by omega, by omega⟩
theorem asm (k p1 q0 l0 w1 w0 : Nat) : p1 * k + (q0 * k + l0) + (w1 * k + w0) = (q0 + p1 + w1) * k + (l0 + w0) := by
  rw [Nat.add_mul, Nat.add_mul]
  generalize p1 * k = a
  generalize q0 * k = b
  generalize w1 * k = c
  omega
theorem q_sub0 (u2 u1 d c0 p1 R : Nat) (h2 : u2 < 4294967296) (h1 : u1 < 4294967296) (h0 : d < 4294967296) (hc : c0 ≤ 18446744065119617025) (hp : p1 ≤ 18446744065119617025) (hR : R < 18446744073709551616) (hT : (u2 * 4294967296 + u1) * 4294967296 + d = p1 * 4294967296 + c0 + R) :
    ∃ c1 : Nat, c1 = c0 / 4294967296 + p1 ∧ c1 < 18446744073709551616 ∧ ∃ b0 b1 : Int, (b0 = 0 ∨ b0 = -1) ∧ (b1 = 0 ∨ b1 = -1) ∧ ∃ w0 w1 : Nat, w0 < 4294967296 ∧ w1 < 4294967296 ∧
      (d : Int) - (c0 % 4294967296 : Nat) = w0 + b0 * 4294967296 ∧ b0 + ((u1 : Int) - (c1 % 4294967296 : Nat)) = w1 + b1 * 4294967296 ∧ b1 + ((u2 : Int) - (c1 / 4294967296 % 4294967296 : Nat)) = 0 ∧ w1 * 4294967296 + w0 = R := by
  have hc1 : c0 / 4294967296 + p1 < 18446744073709551616 := by omega
  have hg : (c0 / 4294967296 + p1) / 4294967296 % 4294967296 = (c0 / 4294967296 + p1) / 4294967296 := Nat.mod_eq_of_lt (by omega)
  have e0 := Nat.div_add_mod c0 4294967296
  have e1 := Nat.div_add_mod (c0 / 4294967296 + p1) 4294967296
  have eR := Nat.div_add_mod R 4294967296
  have hw1 : R / 4294967296 < 4294967296 := by omega
  have hw0 : R % 4294967296 < 4294967296 := Nat.mod_lt _ (by decide)
  have hl0 : c0 % 4294967296 < 4294967296 := Nat.mod_lt _ (by decide)
  have hl1 : (c0 / 4294967296 + p1) % 4294967296 < 4294967296 := Nat.mod_lt _ (by decide)
  refine ⟨_, rfl, hc1, ?_⟩
  rw [hg]
  obtain ⟨b0, b1, q1, q2, q3, q4, q5⟩ := core u2 u1 d ((c0 / 4294967296 + p1) / 4294967296) ((c0 / 4294967296 + p1) % 4294967296) (c0 % 4294967296) (R / 4294967296) (R % 4294967296) h1 h0 hl1 hl0 hw1 hw0 (by
    have h3 : (c0 / 4294967296 + p1) / 4294967296 * 4294967296 + ((c0 / 4294967296 + p1) % 4294967296 + R / 4294967296) = c0 / 4294967296 + p1 + R / 4294967296 := by rw [← Nat.add_assoc, Nat.mul_comm, e1]
    rw [h3, ← asm, hT, Nat.mul_comm (c0 / _), e0, Nat.mul_comm (R / _), eR])
  exact ⟨b0, b1, q1, q2, _, _, hw0, hw1, q3, q4, q5, by rw [Nat.mul_comm]; exact eR⟩
theorem q_sub (u2 u1 d q y1 y0 V T : Nat) (h2 : u2 < 4294967296) (h1 : u1 < 4294967296) (h0 : d < 4294967296) (hy1 : y1 < 4294967296) (hy0 : y0 < 4294967296) (hq : q < 4294967296) (hV : V = y1 * 4294967296 + y0) (hT : T = (u2 * 4294967296 + u1) * 4294967296 + d) (hqT : q = T / V) (hVb : V < 18446744073709551616) (hV0 : 0 < V) :
    q * y0 ≤ 18446744065119617025 ∧ q * y1 ≤ 18446744065119617025 ∧ ∃ c1 : Nat, c1 = q * y0 / 4294967296 + q * y1 ∧ c1 < 18446744073709551616 ∧ ∃ b0 b1 : Int, (b0 = 0 ∨ b0 = -1) ∧ (b1 = 0 ∨ b1 = -1) ∧ ∃ w0 w1 : Nat, w0 < 4294967296 ∧ w1 < 4294967296 ∧
      (d : Int) - (q * y0 % 4294967296 : Nat) = w0 + b0 * 4294967296 ∧ b0 + ((u1 : Int) - (c1 % 4294967296 : Nat)) = w1 + b1 * 4294967296 ∧ b1 + ((u2 : Int) - (c1 / 4294967296 % 4294967296 : Nat)) = 0 ∧ w1 * 4294967296 + w0 = T % V := by
  have hm0 : q * y0 ≤ 4294967295 * 4294967295 := Nat.mul_le_mul (Nat.le_of_lt_succ hq) (Nat.le_of_lt_succ hy0)
  have hm1 : q * y1 ≤ 4294967295 * 4294967295 := Nat.mul_le_mul (Nat.le_of_lt_succ hq) (Nat.le_of_lt_succ hy1)
  refine ⟨hm0, hm1, q_sub0 u2 u1 d (q * y0) (q * y1) (T % V) h2 h1 h0 hm0 hm1 (Nat.lt_trans (Nat.mod_lt _ hV0) hVb) ?_⟩
  have hdm := Nat.div_add_mod T V
  rw [← hT, Nat.mul_assoc, ← Nat.mul_add, ← hV, hqT, Nat.mul_comm]
  exact hdm.symm
theorem num_grown {ix : List (Nat × Nat)} {ci : Chunk} {l m cap A : Nat} {v : Value} (hlm : l + m ≤ cap) (hA : A < bw (l + m)) (hc : ∀ j, j < l → ci.f j = .int .u32 ((lm A j : Nat) : Int)) (hv : ∀ j, j < m → cellIn v j = .int .u32 ((lm A (l + j) : Nat) : Int)) :
    ChunkReLe ix (numC true cap A) (grown ci l m 1 v (.int .u32 0) cap) := ⟨fun _ => rfl, by show cap ≤ cap * 1; omega, fun j hj => by
  have hj : j < cap := hj
  have e : (grown ci l m 1 v (.int .u32 0) cap).f j = .int .u32 ((lm A j : Nat) : Int) := by
    rcases Nat.lt_or_ge j l with h | h
    · rw [grown_old (by omega), hc j h]
    · rcases Nat.lt_or_ge j (l + m) with h2 | h2
      · have := grown_new (ci := ci) (l := l) (m := m) (size := 1) (cap := cap) (v := v) (z := .int .u32 0) (j := j - l) (by omega)
        rw [show l * 1 + (j - l) = j from by omega] at this
        rw [this, hv _ (by omega), show l + (j - l) = j from by omega]
      · have h0 : lm A j = 0 := lm_big (Nat.lt_of_lt_of_le hA (bw_mono h2))
        rw [h0]
        show cellOf [(l * 1, m * 1, v), (0, l * 1, .agg ⟨segL (l * 1) ci.f⟩), (0, cap * 1, .agg ⟨segL (cap * 1) (repZ 1 (.int .u32 0))⟩)] j = _
        rw [cellOf_cons, if_neg (by omega), cellOf_cons, if_neg (by omega), cellOf_cons, if_pos (by omega), Nat.sub_zero]
        show ((segL (cap * 1) (repZ 1 (.int .u32 0))).getD j undef) = _
        rw [segL_get (by omega)]
        unfold repZ; rw [Nat.mod_one]; rfl
  rw [e, seg_cell hj]; exact .plain rfl⟩
end Go.Proofs.Ytchfbblpflcniaa


/-
  Numbers by their digits to the base 2^64: what addition, comparison, shifts, division by one digit do to the digits.
-/
set_option linter.unusedVariables false
namespace Go.Proofs.Ytchfbblpflcniaa

/-- The base. -/
abbrev Bs : Nat := 18446744073709551616
theorem bs_pos : 0 < Bs := by decide
theorem bsp_pos (n : Nat) : 0 < Bs ^ n := Nat.pow_pos bs_pos

/-- The j-th digit. -/
def dg (v j : Nat) : Nat := v / Bs ^ j % Bs
theorem dg_lt (v j : Nat) : dg v j < 18446744073709551616 := Nat.mod_lt _ bs_pos
theorem dg_zero (j : Nat) : dg 0 j = 0 := by simp [dg]
theorem dg_step (v j : Nat) : v / Bs ^ j = v / Bs ^ (j + 1) * Bs + dg v j := by
  unfold dg
  rw [Nat.pow_succ, ← Nat.div_div_eq_div_mul]
  have := Nat.div_add_mod (v / Bs ^ j) Bs
  rw [Nat.mul_comm]; exact this.symm
theorem mod_step (v j : Nat) : v % Bs ^ (j + 1) = v % Bs ^ j + Bs ^ j * dg v j := by
  unfold dg
  rw [Nat.pow_succ, Nat.mod_mul]
theorem dg_big (v j : Nat) (h : v < Bs ^ j) : dg v j = 0 := by
  unfold dg; rw [Nat.div_eq_of_lt h]; rfl
theorem dg_mod (v n j : Nat) (h : j < n) : dg (v % Bs ^ n) j = dg v j := by
  unfold dg
  obtain ⟨k, rfl⟩ : ∃ k, n = j + (k + 1) := ⟨n - j - 1, by omega⟩
  rw [Nat.pow_add, Nat.mod_mul_right_div_self, Nat.pow_succ, Nat.mul_comm (Bs ^ k), Nat.mod_mul_right_mod]
theorem eq_of_dg (n a b : Nat) (ha : a < Bs ^ n) (hb : b < Bs ^ n) (h : ∀ j, j < n → dg a j = dg b j) : a = b := by
  have key : ∀ m, m ≤ n → a % Bs ^ m = b % Bs ^ m := by
    intro m
    induction m with
    | zero => intro _; simp [Nat.mod_one]
    | succ m ih => intro hm; rw [mod_step, mod_step, ih (by omega), h m (by omega)]
  have := key n (Nat.le_refl _)
  rwa [Nat.mod_eq_of_lt ha, Nat.mod_eq_of_lt hb] at this

/-- The carry into the i-th digit. -/
def cry (a b i : Nat) : Nat := (a % Bs ^ i + b % Bs ^ i) / Bs ^ i
theorem cry_zero (a b : Nat) : cry a b 0 = 0 := by simp [cry, Nat.mod_one]
theorem cry_le (a b i : Nat) : cry a b i ≤ 1 := by
  unfold cry
  have h1 := Nat.mod_lt a (bsp_pos i)
  have h2 := Nat.mod_lt b (bsp_pos i)
  have : (a % Bs ^ i + b % Bs ^ i) / Bs ^ i < 2 := (Nat.div_lt_iff_lt_mul (bsp_pos i)).2 (by omega)
  omega
theorem cry_step (a b i : Nat) : dg a i + dg b i + cry a b i = dg (a + b) i + Bs * cry a b (i + 1) := by
  have e1 : ∀ m, a + b = (a / Bs ^ m + b / Bs ^ m + cry a b m) * Bs ^ m + (a % Bs ^ m + b % Bs ^ m) % Bs ^ m := by
    intro m
    have ha := Nat.div_add_mod a (Bs ^ m)
    have hb := Nat.div_add_mod b (Bs ^ m)
    have hc := Nat.div_add_mod (a % Bs ^ m + b % Bs ^ m) (Bs ^ m)
    unfold cry
    generalize Bs ^ m = q at *
    rw [Nat.add_mul, Nat.add_mul, Nat.mul_comm (a / q), Nat.mul_comm (b / q), Nat.mul_comm _ q]
    omega
  have e2 : ∀ m, (a + b) / Bs ^ m = a / Bs ^ m + b / Bs ^ m + cry a b m := by
    intro m
    have h := e1 m
    have hr := Nat.mod_lt (a % Bs ^ m + b % Bs ^ m) (bsp_pos m)
    rw [h, Nat.mul_comm, Nat.mul_add_div (bsp_pos m), Nat.div_eq_of_lt hr, Nat.add_zero]
  have s0 := dg_step a i
  have s1 := dg_step b i
  have s2 := dg_step (a + b) i
  have q0 := e2 i
  have q1 := e2 (i + 1)
  rw [q0, q1] at s2
  generalize a / Bs ^ (i + 1) = x at *
  generalize b / Bs ^ (i + 1) = y at *
  generalize cry a b (i + 1) = z at *
  generalize cry a b i = u at *
  simp only [Bs] at *
  omega
theorem cry_dig (a b i : Nat) : (dg a i + dg b i + cry a b i) % 18446744073709551616 = dg (a + b) i := by
  have := cry_step a b i
  have h := dg_lt (a + b) i
  simp only [Bs] at this
  omega
theorem cry_next (a b i : Nat) : (dg a i + dg b i + cry a b i) / 18446744073709551616 = cry a b (i + 1) := by
  have := cry_step a b i
  have h := dg_lt (a + b) i
  simp only [Bs] at this
  omega

theorem div_gen (x d b B : Nat) (hd : d < B) (hb : 0 < b) : (x % b * B + d) / b = (x * B + d) / b % B ∧ (x % b * B + d) % b = (x * B + d) % b := by
  have hq := Nat.div_add_mod x b
  have hr := Nat.mod_lt x hb
  have e : x * B + d = b * (x / b * B) + (x % b * B + d) := by
    have h : x * B = b * (x / b) * B + x % b * B := by rw [← Nat.add_mul, hq]
    rw [h, Nat.mul_assoc, Nat.add_assoc]
  have hlt : (x % b * B + d) / b < B := by
    rw [Nat.div_lt_iff_lt_mul hb]
    have : (x % b + 1) * B ≤ b * B := Nat.mul_le_mul_right _ hr
    rw [Nat.add_mul] at this
    rw [Nat.mul_comm B b]
    omega
  constructor
  · rw [e, Nat.mul_add_div hb, Nat.mul_comm (x / b) B, Nat.mul_add_mod, Nat.mod_eq_of_lt hlt]
  · rw [e, Nat.mul_add_mod]

/-- The digits of what remains of a division by one digit, from the top. -/
theorem div_step (a b i : Nat) (hb : 0 < b) : (a / Bs ^ (i + 1) % b * 18446744073709551616 + dg a i) / b = dg (a / b) i ∧ (a / Bs ^ (i + 1) % b * 18446744073709551616 + dg a i) % b = a / Bs ^ i % b := by
  have h := div_gen (a / Bs ^ (i + 1)) (dg a i) b Bs (dg_lt a i) hb
  rw [← dg_step] at h
  refine ⟨?_, h.2⟩
  have h1 := h.1
  unfold dg at *
  rw [h1, Nat.div_div_eq_div_mul, Nat.div_div_eq_div_mul, Nat.mul_comm]

/-- The shift by less than a digit, down: what the i-th digit of the result is. -/
theorem shr_step (a i k : Nat) (hk : k < 64) : dg (a / 2 ^ k) i = dg a i / 2 ^ k + dg a (i + 1) * 2 ^ (64 - k) % 18446744073709551616 := by
  have e : Bs = 2 ^ k * 2 ^ (64 - k) := by rw [← Nat.pow_add, show k + (64 - k) = 64 from by omega]
  have s := dg_step a i
  have s1 := dg_step a (i + 1)
  have hd := dg_lt a i
  unfold dg at s1 s hd ⊢
  rw [Nat.div_div_eq_div_mul, Nat.mul_comm (2 ^ k), ← Nat.div_div_eq_div_mul]
  generalize a / Bs ^ i % Bs = d0 at *
  generalize a / Bs ^ (i + 1) % Bs = d1 at *
  generalize a / Bs ^ (i + 1) = x at *
  generalize a / Bs ^ (i + 1 + 1) = y at *
  rw [s, s1]
  have hp : 0 < 2 ^ k := Nat.pow_pos (by decide)
  have hp2 : 0 < 2 ^ (64 - k) := Nat.pow_pos (by decide)
  generalize 2 ^ k = p at *
  generalize 2 ^ (64 - k) = q at *
  show _ = d0 / p + d1 * q % Bs
  have hd' : d0 < Bs := hd
  clear s s1 hd hk
  generalize Bs = B at *
  subst e
  rw [show (y * (p * q) + d1) * (p * q) + d0 = p * ((y * (p * q) + d1) * q) + d0 from by rw [Nat.mul_left_comm], Nat.mul_add_div hp]
  have hq : d0 / p < q := by rw [Nat.div_lt_iff_lt_mul hp, Nat.mul_comm]; exact hd'
  have h2 : (y * (p * q) + d1) * q + d0 / p = (p * q) * (y * q) + (d1 * q + d0 / p) := by
    rw [Nat.add_mul, Nat.mul_comm y (p * q), Nat.mul_assoc (p * q), Nat.add_assoc]
  rw [h2, Nat.mul_add_mod]
  have h3 := Nat.div_add_mod (d1 * q) (p * q)
  have h4 : d1 * q % (p * q) = d1 % p * q := by rw [Nat.mul_mod_mul_right]
  have h5 : d1 % p * q + d0 / p < p * q := by
    have := Nat.mod_lt d1 hp
    have : (d1 % p + 1) * q ≤ p * q := Nat.mul_le_mul_right _ this
    rw [Nat.add_mul] at this
    omega
  rw [show d1 * q + d0 / p = p * q * (d1 * q / (p * q)) + (d1 * q % (p * q) + d0 / p) from by omega, Nat.mul_add_mod, h4, Nat.mod_eq_of_lt h5]
  omega
end Go.Proofs.Ytchfbblpflcniaa


/-
  Arrays of sixteen digits in memory: a row of cells, what it reads as, what a store makes of it.
-/
set_option linter.unusedVariables false
set_option linter.unusedSimpArgs false
namespace Go.Proofs.Ytchfbblpflcniaa
open Go.RowKit

/-- The cells of an array of digits. -/
def lim (n : Nat) (f : Nat → Nat) : Array Value := ((List.range n).map fun j => Value.int .u64 ((f j : Nat) : Int)).toArray
@[simp] theorem lim_size (n : Nat) (f : Nat → Nat) : (lim n f).size = n := by simp [lim]
theorem lim_get (n : Nat) (f : Nat → Nat) (j : Nat) (h : j < n) : (lim n f)[j]? = some (.int .u64 ((f j : Nat) : Int)) := by
  simp [lim, h]
theorem lim_one (n : Nat) (f : Nat → Nat) : (lim n f).all (·.oneCell') = true := by
  rw [Array.all_eq_true_iff_forall_mem]
  intro x hx
  simp only [lim, List.mem_toArray, List.mem_map] at hx
  obtain ⟨j, _, rfl⟩ := hx
  rfl
theorem lim_set (n : Nat) (f g : Nat → Nat) (i : Nat) (v : Int) (hi : i < n) (hv : v = ((g i : Nat) : Int)) (h : ∀ j, j < n → j ≠ i → f j = g j) : (lim n f).setIfInBounds i (.int .u64 v) = lim n g := by
  apply Array.ext_getElem?
  intro j
  rw [Array.getElem?_setIfInBounds]
  by_cases hj : j < n
  · rw [lim_get n g j hj]
    split
    · rename_i e; subst e; rw [if_pos (by simpa using hj), hv]
    · rename_i e; rw [lim_get n f j hj, h j hj (Ne.symm e)]
  · rw [Array.getElem?_eq_none (by simp; omega), Array.getElem?_eq_none (by simp; omega), if_neg (by omega)]
theorem lim_same (n : Nat) (f g : Nat → Nat) (h : ∀ j, j < n → f j = g j) : lim n f = lim n g := by
  unfold lim
  congr 1
  apply List.map_congr_left
  intro j hj
  rw [h j (by simpa using hj)]

/-- A number of sixteen digits as its cells. -/
def sz (v : Nat) : Array Value := lim 16 (dg v)
@[simp] theorem sz_size (v : Nat) : (sz v).size = 16 := lim_size _ _
theorem sz_get (v j : Nat) (h : j < 16) : (sz v)[j]? = some (.int .u64 ((dg v j : Nat) : Int)) := lim_get _ _ _ h
theorem sz_one (v : Nat) : (sz v).all (·.oneCell') = true := lim_one _ _
theorem sz_zero : sz 0 = #[.int .u64 0, .int .u64 0, .int .u64 0, .int .u64 0, .int .u64 0, .int .u64 0, .int .u64 0, .int .u64 0, .int .u64 0, .int .u64 0, .int .u64 0, .int .u64 0, .int .u64 0, .int .u64 0, .int .u64 0, .int .u64 0] := by
  unfold sz
  rw [lim_same 16 (dg 0) (fun _ => 0) (fun j _ => dg_zero j)]
  rfl
theorem dg_small (v : Nat) (h : v < 18446744073709551616) (j : Nat) : dg v j = if j = 0 then v else 0 := by
  split
  · subst j; simp [dg]; exact h
  · apply dg_big
    exact Nat.lt_of_lt_of_le h (Nat.le_self_pow (by omega) Bs)
theorem sz_small (v : Nat) (h : v < 18446744073709551616) : sz v = #[.int .u64 v, .int .u64 0, .int .u64 0, .int .u64 0, .int .u64 0, .int .u64 0, .int .u64 0, .int .u64 0, .int .u64 0, .int .u64 0, .int .u64 0, .int .u64 0, .int .u64 0, .int .u64 0, .int .u64 0, .int .u64 0] := by
  unfold sz
  rw [lim_same 16 (dg v) (fun j => if j = 0 then v else 0) (fun j _ => dg_small v h j)]
  rfl

/-- A number with its sign, or over, as its cells. -/
def wi (neg over : Bool) (v : Nat) : Array Value := #[.bool neg, .bool over] ++ sz v
@[simp] theorem wi_size (neg over : Bool) (v : Nat) : (wi neg over v).size = 18 := by simp [wi]
theorem wi_neg (neg over : Bool) (v : Nat) : (wi neg over v)[0]? = some (.bool neg) := by simp [wi, Array.getElem?_append]
theorem wi_one (neg over : Bool) (v : Nat) : (wi neg over v).all (·.oneCell') = true := by
  unfold wi
  rw [Array.all_append, sz_one]; simp [Value.oneCell']

/-- The block g is a row of the cells cs. -/
def IsRow (w : World) (g : Nat) (t : TypeId) (cs : Array Value) : Prop := w.heap[g]? = some (.cells cs t (0, 0))

section
variable {w : World} {g : Nat} {t : TypeId} {cs : Array Value}
theorem IsRow.lt (h : IsRow w g t cs) : g < w.heap.size := (Array.getElem?_eq_some_iff.1 h).1
theorem IsRow.cell (h : IsRow w g t cs) {j : Nat} {v : Value} (hv : cs[j]? = some v) : w.cell? ⟨g, j, none⟩ = some v := by
  rw [cell_of_row w g j cs t _ h]; exact hv
theorem IsRow.frozen (h : IsRow w g t cs) (j : Nat) : w.frozen? ⟨g, j, none⟩ = false := by
  simp [World.frozen?, show w.heap[g]? = some (.cells cs t (0, 0)) from h]
theorem IsRow.alloc (h : IsRow w g t cs) (o : Obj) : IsRow (w.alloc o) g t cs := by
  have := h.lt
  unfold IsRow World.alloc at *
  simp only [Array.getElem?_push]
  rw [if_neg (by omega)]; exact h
theorem IsRow.drew (h : IsRow w g t cs) : IsRow w.drew g t cs := h
theorem IsRow.drewN (h : IsRow w g t cs) (n : Nat) : IsRow (w.drewN n) g t cs := h
theorem IsRow.new (w : World) (cs : Array Value) (t : TypeId) : IsRow (w.alloc (.cells cs t)) w.heap.size t cs := by
  unfold IsRow World.alloc; simp
theorem IsRow.set (h : IsRow w g t cs) (i : Nat) (v : Value) : IsRow (w.setCell ⟨g, i, none⟩ v) g t (cs.setIfInBounds i v) := by
  unfold IsRow
  rw [setCell_eq_setRow w g i cs t _ v h]
  exact setRow_heap w g cs _ t _ h
theorem IsRow.setOther (h : IsRow w g t cs) (a : Addr) (v : Value) (hne : a.block ≠ g) : IsRow (w.setCell a v) g t cs := by
  unfold IsRow World.setCell at *
  simp only [Array.getElem?_modify]
  rw [if_neg hne]; exact h
theorem IsRow.row (h : IsRow w g t cs) (ds : Array Value) : IsRow (w.setRow g ds) g t ds := setRow_heap w g cs ds t _ h
theorem IsRow.rowOther (h : IsRow w g t cs) (k : Nat) (ds : Array Value) (hne : g ≠ k) : IsRow (w.setRow k ds) g t cs := (setRow_other w k g ds hne).trans h
theorem IsRow.below {w' : World} {B : Nat} (h : IsRow w g t cs) (hb : Below B w w') (hg : g < B) : IsRow w' g t cs := (hb.block g hg).trans h
end

/-- Sixteen digits of v lie at offset o of the block g. -/
def Digs (w : World) (g o v : Nat) : Prop := ∀ j, j < 16 → w.cell? ⟨g, o + j, none⟩ = some (.int .u64 ((dg v j : Nat) : Int))
theorem Digs.of_sz {w : World} {g : Nat} {t : TypeId} {v : Nat} (h : IsRow w g t (sz v)) : Digs w g 0 v := fun j hj => by
  rw [Nat.zero_add]; exact h.cell (sz_get v j hj)
theorem Digs.lt {w : World} {g o v : Nat} (h : Digs w g o v) : g < w.heap.size := World.block_lt_of_cell? _ _ (h 0 (by omega))
theorem Digs.below {w w' : World} {g o v B : Nat} (h : Digs w g o v) (hb : Below B w w') (hg : g < B) : Digs w' g o v := fun j hj => (hb.cell (p := ⟨g, o + j, none⟩) hg).trans (h j hj)

/-- A value that is built, told as its cells. -/
theorem wpList_build1 {P : Program} {ops : Array Oper} {rest : List Oper} {o : Oper} {a : Act} {w : World} {Q : Exit → Act → World → Prop} (hg : o.guard = none) (t : TypeId) (i : Nat) (x : Operand) (ho : o.op = .build t #[(i, x)])
    (v : Value) (hv : a.eval x = v) (cs : Array Value) (hb : P.built t [(i, v)] = some cs)
    (h : wpList P ops Q rest (a.put o.dst (.agg cs)) w) : wpList P ops Q (o :: rest) a w := by
  subst hv
  have e : ((#[(i, x)] : Array (Nat × Operand)).map fun (i, x) => (i, a.eval x)).toList = [(i, a.eval x)] := by simp
  refine wpList_build hg t _ ho ?_ ?_
  · rw [e, hb]; rfl
  · rw [e, hb]; exact h
theorem wpList_build2 {P : Program} {ops : Array Oper} {rest : List Oper} {o : Oper} {a : Act} {w : World} {Q : Exit → Act → World → Prop} (hg : o.guard = none) (t : TypeId) (i j : Nat) (x y : Operand) (ho : o.op = .build t #[(i, x), (j, y)])
    (u v : Value) (hu : a.eval x = u) (hv : a.eval y = v) (cs : Array Value) (hb : P.built t [(i, u), (j, v)] = some cs)
    (h : wpList P ops Q rest (a.put o.dst (.agg cs)) w) : wpList P ops Q (o :: rest) a w := by
  subst hu hv
  have e : ((#[(i, x), (j, y)] : Array (Nat × Operand)).map fun (i, x) => (i, a.eval x)).toList = [(i, a.eval x), (j, a.eval y)] := by simp
  refine wpList_build hg t _ ho ?_ ?_
  · rw [e, hb]; rfl
  · rw [e, hb]; exact h
theorem Digs.cells {w : World} {g o v : Nat} (h : Digs w g o v) : ∀ j u, (sz v)[j]? = some u → w.cell? ⟨g, o + j, none⟩ = some u := fun j u hu => by
  have hj : j < 16 := by
    rcases Nat.lt_or_ge j 16 with h | h
    · exact h
    · rw [Array.getElem?_eq_none (by simpa using h)] at hu; cases hu
  rw [sz_get v j hj] at hu
  rw [h j hj]; exact hu

/-! The same steps in a region that only reads -/
section
variable {P : Program} {ops : Array Oper} {rest : List Oper} {o : Oper} {a : Act} {w : World} {Q : Act → Prop}
theorem wpStill_load_row (hw : Region.wanted o (yielded ops a.tmps) = true) (ty : TypeId) (x : Operand) (ho : o.op = .load ty x)
    (g : Nat) (hx : a.eval x = .pointer (some ⟨g, 0, none⟩)) (t : TypeId) (cs : Array Value) (fr : Nat × Nat) (d : TypeDesc) (hg : w.heap[g]? = some (.cells cs t fr))
    (hu : P.underlying ty = some d) (hd : (match d with | .struct _ | .array _ _ => true | _ => false) = true) (hi : (P.info? ty).map (·.size) = some cs.size)
    (h : wpStill P ops w Q rest (a.put o.dst (.agg cs))) : wpStill P ops w Q (o :: rest) a := by
  unfold wpStill
  rw [if_pos hw]
  unfold Oper.still execOp
  simp only [ho, hx, Instr.loadAt, Instr.sureAddr, Sem.run_bind, Sem.run_pure, Result.andThen_ok, run_loadVar_row w g t ty cs fr d hg hu hd hi]
  exact ⟨rfl, h⟩
theorem wpStill_build0 (hw : Region.wanted o (yielded ops a.tmps) = true) (t : TypeId) (ho : o.op = .build t #[])
    (cs : Array Value) (hb : P.built t [] = some cs)
    (h : wpStill P ops w Q rest (a.put o.dst (.agg cs))) : wpStill P ops w Q (o :: rest) a := by
  have e : ((#[] : Array (Nat × Operand)).map fun (i, x) => (i, a.eval x)).toList = [] := by simp
  unfold wpStill
  rw [if_pos hw]
  unfold Oper.still execOp
  simp only [ho, Sem.run_bind, run_build w t _ cs (e ▸ hb), Result.andThen_ok]
  exact ⟨rfl, h⟩
theorem wpStill_build2 (hw : Region.wanted o (yielded ops a.tmps) = true) (t : TypeId) (i j : Nat) (x y : Operand) (ho : o.op = .build t #[(i, x), (j, y)])
    (u v : Value) (hu : a.eval x = u) (hv : a.eval y = v) (cs : Array Value) (hb : P.built t [(i, u), (j, v)] = some cs)
    (h : wpStill P ops w Q rest (a.put o.dst (.agg cs))) : wpStill P ops w Q (o :: rest) a := by
  subst hu hv
  have e : ((#[(i, x), (j, y)] : Array (Nat × Operand)).map fun (i, x) => (i, a.eval x)).toList = [(i, a.eval x), (j, a.eval y)] := by simp
  unfold wpStill
  rw [if_pos hw]
  unfold Oper.still execOp
  simp only [ho, Sem.run_bind, run_build w t _ cs (e ▸ hb), Result.andThen_ok]
  exact ⟨rfl, h⟩
end

/-! Which operation stands next (tried ahead of the laws above) -/
section
variable {P : Program} {ops : Array Oper} {rest : List Oper} {o : Oper} {a : Act} {w : World}
theorem isLoadS {Q : Act → Prop} {ty : TypeId} {x : Operand} (ho : o.op = .load ty x) (h : wpStill P ops w Q (o :: rest) a) : wpStill P ops w Q (o :: rest) a := h
theorem isBuildS {Q : Act → Prop} {ty : TypeId} {ps : Array (Nat × Operand)} (ho : o.op = .build ty ps) (h : wpStill P ops w Q (o :: rest) a) : wpStill P ops w Q (o :: rest) a := h
theorem isLoadL {Q : Exit → Act → World → Prop} {ty : TypeId} {x : Operand} (ho : o.op = .load ty x) (h : wpList P ops Q (o :: rest) a w) : wpList P ops Q (o :: rest) a w := h
theorem isBuildL {Q : Exit → Act → World → Prop} {ty : TypeId} {ps : Array (Nat × Operand)} (ho : o.op = .build ty ps) (h : wpList P ops Q (o :: rest) a w) : wpList P ops Q (o :: rest) a w := h
theorem isStoreL {Q : Exit → Act → World → Prop} {ty : TypeId} {x y : Operand} (ho : o.op = .store ty x y) (h : wpList P ops Q (o :: rest) a w) : wpList P ops Q (o :: rest) a w := h
end

/-! The same as steps of a region that draws its order -/
section
variable {P : Program} {ops : Array Oper} {o : Oper} {a : Act} {w : World} {K : Act → World → Prop} {Q : Exit → Act → World → Prop} {E : Prop}
theorem step_load_row (hg : o.guard = none) (ty : TypeId) (x : Operand) (ho : o.op = .load ty x)
    (g : Nat) (hx : a.eval x = .pointer (some ⟨g, 0, none⟩)) (t : TypeId) (cs : Array Value) (fr : Nat × Nat) (d : TypeDesc) (hr : w.heap[g]? = some (.cells cs t fr))
    (hu : P.underlying ty = some d) (hd : (match d with | .struct _ | .array _ _ => true | _ => false) = true) (hi : (P.info? ty).map (·.size) = some cs.size)
    (hK : K (a.put o.dst (.agg cs)) w) : if Region.wanted o (yielded ops a.tmps) = true then Oper.wp P o a w K Q else E := by
  have hw : Region.wanted o (yielded ops a.tmps) = true := by simp [Region.wanted, hg]
  rw [if_pos hw]
  exact wp_load_row ty x ho g hx t cs fr d hr hu hd hi hK
theorem step_store_row (hg : o.guard = none) (ty : TypeId) (x y : Operand) (ho : o.op = .store ty x y)
    (g : Nat) (cells : Array Value) (hx : a.eval x = .pointer (some ⟨g, 0, none⟩)) (hy : a.eval y = .agg cells)
    (t : TypeId) (old : Array Value) (hr : w.heap[g]? = some (.cells old t (0, 0))) (hi : (P.info? ty).map (·.size) = some cells.size)
    (hold : old.size = cells.size) (h1 : cells.all (·.oneCell') = true)
    (hK : K (a.put o.dst undef) (w.setRow g cells)) : if Region.wanted o (yielded ops a.tmps) = true then Oper.wp P o a w K Q else E := by
  have hw : Region.wanted o (yielded ops a.tmps) = true := by simp [Region.wanted, hg]
  rw [if_pos hw]
  exact wp_store_row ty x y ho g cells hx hy t old hr hi hold h1 hK
end

/-- Two results, each in a variable. -/
theorem results_cell2 {P : Program} {fn : Func} {p q : Tmp} {t1 t2 : TypeId} (h : fn.results = #[.cell p t1, .cell q t2]) (tmps : Array Value) (w : World) (A1 A2 : Addr) (v1 v2 : Value)
    (hp : tmps.getD p undef = .pointer (some A1)) (hq : tmps.getD q undef = .pointer (some A2)) (h1 : (loadVar t1 A1).run P w = .ok v1 w) (h2 : (loadVar t2 A2).run P w = .ok v2 w) :
    (results fn tmps).run P w = .ok (.tuple #[v1, v2]) w := by
  have hp' : tmps[p]?.getD undef = .pointer (some A1) := by simpa using hp
  have hq' : tmps[q]?.getD undef = .pointer (some A2) := by simpa using hq
  simp [results, h, hp', hq', asAddr, h1, h2]
end Go.Proofs.Ytchfbblpflcniaa


/-
  The library's contracts of math/bits that the walks of this claim use, laid at this program.
-/
namespace Go.Proofs
open Go.Shelf
def Try.lays134_ren : Go.Shelf.Ren := ⟨fun | 134 => 88 | 129 => 86 | n => n, fun | 53 => 48 | 3 => 3 | 4 => 4 | 46 => 113 | 5 => 5 | 9 => 9 | n => n, fun | n => n⟩
theorem Try.lays134 : Go.Proofs.Lays.n134 Try.prog Try.lays134_ren := {
  mixed := by kernel_rfl
  f129 := Try.func86.trans (congrArg some (by kernel_rfl))
  f134 := Try.func88.trans (congrArg some (by kernel_rfl))
  t3 := Try.underlying3
  a3 := Try.isAgg3
  z3 := Try.sizeOf3
  v3 := Try.zeroValue3
  t4 := Try.underlying4
  a4 := Try.isAgg4
  z4 := Try.sizeOf4
  v4 := Try.zeroValue4
  t5 := Try.underlying5
  a5 := Try.isAgg5
  z5 := Try.sizeOf5
  v5 := Try.zeroValue5
  t9 := Try.underlying9
  a9 := Try.isAgg9
  z9 := Try.sizeOf9
  v9 := Try.zeroValue9
  t46 := Try.underlying113
  a46 := Try.isAgg113
  z46 := Try.sizeOf113
  v46 := Try.zeroValue113
  t53 := Try.underlying48
  a53 := Try.isAgg48
  z53 := Try.sizeOf48
  v53 := Try.zeroValue48 }
theorem Try.bits_LeadingZeros64 (x : Int) (w : World) (h0 : 0 ≤ x) (h1 : x ≤ 18446744073709551615) :
    Calls Try.prog 88 #[.int .u64 x] w fun e w' => e = .returned (.int .i64 (64 - (Lib.bitLen x.toNat : Int))) ∧ w' = w := Any.bits_LeadingZeros64 Try.lays134 x w h0 h1
def Try.lays129_ren : Go.Shelf.Ren := ⟨fun | 129 => 86 | n => n, fun | 53 => 48 | 3 => 3 | 4 => 4 | 46 => 113 | 5 => 5 | 9 => 9 | n => n, fun | n => n⟩
theorem Try.lays129 : Go.Proofs.Lays.n129 Try.prog Try.lays129_ren := {
  mixed := by kernel_rfl
  f129 := Try.func86.trans (congrArg some (by kernel_rfl))
  t3 := Try.underlying3
  a3 := Try.isAgg3
  z3 := Try.sizeOf3
  v3 := Try.zeroValue3
  t4 := Try.underlying4
  a4 := Try.isAgg4
  z4 := Try.sizeOf4
  v4 := Try.zeroValue4
  t5 := Try.underlying5
  a5 := Try.isAgg5
  z5 := Try.sizeOf5
  v5 := Try.zeroValue5
  t9 := Try.underlying9
  a9 := Try.isAgg9
  z9 := Try.sizeOf9
  v9 := Try.zeroValue9
  t46 := Try.underlying113
  a46 := Try.isAgg113
  z46 := Try.sizeOf113
  v46 := Try.zeroValue113
  t53 := Try.underlying48
  a53 := Try.isAgg48
  z53 := Try.sizeOf48
  v53 := Try.zeroValue48 }
theorem Try.bits_Len64 (x : Int) (w : World) (h0 : 0 ≤ x) (h1 : x ≤ 18446744073709551615) :
    Calls Try.prog 86 #[.int .u64 x] w fun e w' => e = .returned (.int .i64 (Lib.bitLen x.toNat)) ∧ w' = w := Any.bits_Len64 Try.lays129 x w h0 h1
def Try.lays264_ren : Go.Shelf.Ren := ⟨fun | 264 => 70 | n => n, fun | 53 => 48 | 46 => 113 | n => n, fun | n => n⟩
theorem Try.lays264 : Go.Proofs.Lays.n264 Try.prog Try.lays264_ren := {
  mixed := by kernel_rfl
  f264 := Try.func70.trans (congrArg some (by kernel_rfl))
  t46 := Try.underlying113
  a46 := Try.isAgg113
  z46 := Try.sizeOf113
  v46 := Try.zeroValue113
  t53 := Try.underlying48
  a53 := Try.isAgg48
  z53 := Try.sizeOf48
  v53 := Try.zeroValue48 }
open Go.RowKit Go.Lib in
theorem Try.bits_Mul64 (x y : Nat) (hx : x < 18446744073709551616) (hy : y < 18446744073709551616) (w : World) :
    Calls Try.prog 70 #[.int .u64 x, .int .u64 y] w fun e w' => e = .returned (.tuple #[.int .u64 ((x * y / 18446744073709551616 : Nat) : Int), .int .u64 ((x * y % 18446744073709551616 : Nat) : Int)]) ∧ w' = w := Any.bits_Mul64 Try.lays264 x y hx hy w
namespace Ytchfbblpflcniaa
open Go.RowKit

/-- bits.Add64 and bits.Sub64, as a walk meets them. -/
theorem add64 (x y c : Int) (hx : 0 ≤ x) (hx' : x < 18446744073709551616) (hy : 0 ≤ y) (hy' : y < 18446744073709551616) (hc0 : 0 ≤ c) (hc : c ≤ 1) (w : World) : (callFunc 71 #[.int .u64 x, .int .u64 y, .int .u64 c]).run Try.prog w =
    .ok (.value (.tuple #[.int .u64 ((x + y + c) % 18446744073709551616), .int .u64 ((x + y + c) / 18446744073709551616)])) w := by
  obtain ⟨x, rfl⟩ := Int.eq_ofNat_of_zero_le hx
  obtain ⟨y, rfl⟩ := Int.eq_ofNat_of_zero_le hy
  obtain ⟨c, rfl⟩ := Int.eq_ofNat_of_zero_le hc0
  rw [run_callFunc_extern Try.func71 (by kernel_rfl) (by kernel_rfl) (by kernel_rfl) (e := add64Entry) (by kernel_rfl), run_add64 x y c (by omega) (by omega) (by omega) (by omega)]
  simp only [Result.andThen]
end Ytchfbblpflcniaa
end Go.Proofs


/-
  The walks of parts, bits, cmp: how many digits, how many bits, which is greater.
-/
set_option linter.unusedVariables false
namespace Go.Proofs.Ytchfbblpflcniaa
open Go.RowKit

/-- How many digits of the first n there are up to the last one that is not 0. -/
def ndTo (v : Nat) : Nat → Nat
  | 0 => 0
  | n + 1 => if dg v n = 0 then ndTo v n else n + 1
def nd (v : Nat) : Nat := ndTo v 16
theorem ndTo_le (v n : Nat) : ndTo v n ≤ n := by
  induction n with
  | zero => exact Nat.le_refl _
  | succ n ih => unfold ndTo; split <;> omega
theorem nd_le (v : Nat) : nd v ≤ 16 := ndTo_le v 16

theorem parts_any (g o v : Nat) (w : World) (hd : Digs w g o v) :
    Calls Try.prog 69 #[.pointer (some ⟨g, o, none⟩)] w fun e w' => e = .returned (.int .i64 (nd v)) ∧ w = w' := by
  have HD := Lib.hid hd
  clear hd
  have hle := nd_le v
  go_enter Try.func69, Try.ntmps69
  go_wp2
  go_loopw [3] (fun i wr => wr = w ∧ ∃ n : Nat, n ≤ 16 ∧ i = .int .i64 n ∧ ndTo v n = nd v) (fun i _ => (intOf i).toNat)
  case atStart => exact ⟨rfl, 16, Nat.le_refl _, rfl, rfl⟩
  case round =>
    obtain ⟨rfl, n, hn, rfl, hq⟩ := hrel
    match n, hn, hq with
    | 0, hn, hq =>
      have hq' : nd v = 0 := hq.symm
      go_wp2_with fail
      go_ret
      exact ⟨by rw [hq']; rfl, rfl⟩
    | n + 1, hn, hq =>
      have hc := HD.out n (by omega)
      have e1 : ((n + 1 : Nat) : Int) - 1 = n := by omega
      by_cases hz : dg v n = 0
      · have hq2 : ndTo v n = nd v := by rw [← hq]; rw [ndTo, if_pos hz]
        rw [hz] at hc
        go_wp2_with fail
        go_roundw
        case rel => exact ⟨by first | trivial | rfl, n, by omega, by go_num, hq2⟩
        case measure => simp [intOf]
      · have hq2 : nd v = n + 1 := by rw [← hq]; rw [ndTo, if_neg hz]
        go_wp2_with fail
        go_ret
        exact ⟨by rw [hq2]; rfl, rfl⟩

/-- The bits of a digit. -/
def lb (n : Nat) : Nat := Lib.bitLen n
theorem lb_le (n : Nat) (h : n < 18446744073709551616) : lb n ≤ 64 := Lib.bitLen_le n 64 (Nat.le_refl _) h

/-- bits.Len64, as a walk meets it. -/
theorem len64_any (n : Nat) (hn : n < 18446744073709551616) (w : World) : Calls Try.prog 86 #[.int .u64 n] w fun e w' => e = .returned (.int .i64 (lb n)) ∧ w = w' :=
  (Try.bits_Len64 n w (by omega) (by omega)).mono fun e w' h => ⟨h.1, h.2.symm⟩

/-- How many bits. -/
def bl (v : Nat) : Nat := if nd v = 0 then 0 else 64 * (nd v - 1) + lb (dg v (nd v - 1))

theorem bits_any (g o v : Nat) (w : World) (hd : Digs w g o v) :
    Calls Try.prog 62 #[.pointer (some ⟨g, o, none⟩)] w fun e w' => e = .returned (.int .i64 (bl v)) ∧ w = w' := by
  have HD := Lib.hid hd
  clear hd
  have hle := nd_le v
  go_enter Try.func62, Try.ntmps62
  go_wp2_with fail
  refine (parts_any g o v _ HD.out).mono ?_
  rintro e w' ⟨rfl, rfl⟩
  by_cases hz : nd v = 0
  · have hb : bl v = 0 := by unfold bl; rw [if_pos hz]
    rw [hz]
    go_wp2_with fail
    go_ret
    exact ⟨by rw [hb]; rfl, rfl⟩
  · obtain ⟨n, hn⟩ : ∃ n, nd v = n + 1 := ⟨nd v - 1, by omega⟩
    have hb : bl v = 64 * n + lb (dg v n) := by unfold bl; rw [if_neg hz, hn]; rfl
    rw [hn]
    have e1 : ((n + 1 : Nat) : Int) - 1 = n := by omega
    have hc := HD.out n (by omega)
    have hlt := dg_lt v n
    have hlb := lb_le _ hlt
    have hw : wrap64 (64 * (n : Int) + (lb (dg v n) : Int)) = ((64 * n + lb (dg v n) : Nat) : Int) := by unfold wrap64; omega
    go_wp2_with fail
    refine (len64_any _ hlt _).mono ?_
    rintro e w' ⟨rfl, rfl⟩
    go_wp2_with fail
    go_ret
    exact ⟨by rw [hb]; exact ret_int (by omega), rfl⟩

/-- Which is greater. -/
def cm (a b : Nat) : Int := if a < b then -1 else if b < a then 1 else 0

theorem cmp_any (g o a h p b : Nat) (w : World) (hd : Digs w g o a) (he : Digs w h p b) (ha : a < Bs ^ 16) (hb : b < Bs ^ 16) :
    Calls Try.prog 66 #[.pointer (some ⟨g, o, none⟩), .pointer (some ⟨h, p, none⟩)] w fun e w' => e = .returned (.int .i64 (cm a b)) ∧ Below w.heap.size w w' ∧ w.heap.size = w'.heap.size := by
  have HD := Lib.hid hd
  have HE := Lib.hid he
  clear hd he
  go_enter Try.func66, Try.ntmps66
  go_wp2
  go_loopw [5] (fun i wr => (∃ n : Nat, n ≤ 16 ∧ i = .int .i64 (n - 1) ∧ a / Bs ^ n = b / Bs ^ n) ∧ Below w.heap.size w wr ∧ w.heap.size = wr.heap.size) (fun i _ => (intOf i + 1).toNat)
  case atStart => exact ⟨⟨16, by omega, rfl, by rw [Nat.div_eq_of_lt ha, Nat.div_eq_of_lt hb]⟩, Below.refl _ _, rfl⟩
  case round =>
    obtain ⟨⟨n, hn, rfl, hq⟩, hbel, hsz⟩ := hrel
    match n, hn, hq with
    | 0, hn, hq =>
      simp only [Nat.pow_zero, Nat.div_one] at hq
      have hc : cm a b = 0 := by unfold cm; rw [if_neg (by omega), if_neg (by omega)]
      go_wp2_with fail
      go_ret
      exact ⟨by rw [hc]; rfl, hbel, hsz⟩
    | n + 1, hn, hq =>
      have e1 : ((n + 1 : Nat) : Int) - 1 = n := by omega
      rw [e1]
      have c1 : wr.cell? ⟨g, o + n, none⟩ = some (.int .u64 ((dg a n : Nat) : Int)) := (hbel.cell (p := ⟨g, o + n, none⟩) HD.out.lt).trans (HD.out n (by omega))
      have c2 : wr.cell? ⟨h, p + n, none⟩ = some (.int .u64 ((dg b n : Nat) : Int)) := (hbel.cell (p := ⟨h, p + n, none⟩) HE.out.lt).trans (HE.out n (by omega))
      have s1 := dg_step a n
      have s2 := dg_step b n
      rw [hq] at s1
      have hbel1 : Below w.heap.size w wr.drew := hbel.drew
      by_cases hlt : dg a n < dg b n
      · have hcm : cm a b = -1 := by
          unfold cm
          have key : a < b := Nat.lt_of_div_lt_div (c := Bs ^ n) (by omega)
          rw [if_pos key]
        clear s1 s2 hq
        have hlt' : ((dg a n : Nat) : Int) < ((dg b n : Nat) : Int) := by omega
        go_wp2_with fail
        go_region
        go_wp2_with fail
        go_ret
        exact ⟨by rw [hcm]; rfl, by repeat (first | with_reducible exact hbel | with_reducible apply Below.drew | with_reducible apply below_drewN), hsz⟩
      · have hlt' : decide (((dg a n : Nat) : Int) < ((dg b n : Nat) : Int)) = false := decide_eq_false (by omega)
        by_cases hgt : dg b n < dg a n
        · have hcm : cm a b = 1 := by
            unfold cm
            have key : b < a := Nat.lt_of_div_lt_div (c := Bs ^ n) (by omega)
            rw [if_neg (by omega), if_pos key]
          clear s1 s2 hq
          have hgt' : ((dg b n : Nat) : Int) < ((dg a n : Nat) : Int) := by omega
          go_wp2_with fail
          go_region
          go_wp2_with fail
          go_region
          go_wp2_with fail
          go_ret
          exact ⟨by rw [hcm]; rfl, by repeat (first | with_reducible exact hbel | with_reducible apply Below.drew | with_reducible apply below_drewN), hsz⟩
        · have hgt' : decide (((dg b n : Nat) : Int) < ((dg a n : Nat) : Int)) = false := decide_eq_false (by omega)
          have hqq : a / Bs ^ n = b / Bs ^ n := by omega
          clear s1 s2 hq
          go_wp2_with fail
          go_region
          go_wp2_with fail
          go_region
          go_wp2_with fail
          go_roundw
          case rel => exact ⟨⟨n, by omega, by go_num, hqq⟩, by repeat (first | with_reducible exact hbel | with_reducible apply Below.drew | with_reducible apply below_drewN), hsz⟩
          case measure => simp [intOf]
end Go.Proofs.Ytchfbblpflcniaa


/-
  The walk of add: two numbers of sixteen digits together.
-/
set_option linter.unusedVariables false
namespace Go.Proofs.Ytchfbblpflcniaa
open Go.RowKit

/-- The digits of a sum, as far as they are reckoned. -/
def addTo (a b i : Nat) : Nat → Nat := fun j => if j < i then dg (a + b) j else 0

set_option maxHeartbeats 1000000 in
theorem add_any (g o a h p b : Nat) (w : World) (hd : Digs w g o a) (he : Digs w h p b) :
    Calls Try.prog 64 #[.pointer (some ⟨g, o, none⟩), .pointer (some ⟨h, p, none⟩)] w fun e w' => e = .returned (.tuple #[.agg (sz (a + b)), .int .u64 (cry a b 16)]) ∧ Below w.heap.size w w' := by
  have HD := Lib.hid hd
  have HE := Lib.hid he
  clear hd he
  go_enter Try.func64, Try.ntmps64
  go_wp2
  go_loopw [7, 9] (fun c i wr => ∃ k : Nat, k ≤ 16 ∧ i = .int .i64 k ∧ c = .int .u64 (cry a b k) ∧ IsRow wr (w.heap.size + 1) 50 (lim 16 (addTo a b k)) ∧ IsRow wr w.heap.size 50 (sz 0) ∧ Below w.heap.size w wr) (fun _ i _ => 16 - (intOf i).toNat)
  case atStart =>
    refine ⟨0, by omega, rfl, by rw [cry_zero]; rfl, ?_, ?_, by repeat (first | with_reducible exact Below.refl _ _ | with_reducible refine Below.alloc ?_ (by first | (simp; done) | (simp; omega) | omega) _)⟩
    · rw [lim_same 16 (addTo a b 0) (dg 0) (fun j _ => by rw [dg_zero]; unfold addTo; rw [if_neg (by omega)])]
      rw [← sz_zero]
      have := IsRow.new (w.alloc (.cells (sz 0) 50)) (sz 0) 50
      rw [show (w.alloc (.cells (sz 0) 50)).heap.size = w.heap.size + 1 from by simp] at this
      exact this
    · rw [← sz_zero]
      exact (IsRow.new _ _ _).alloc _
  case round =>
    obtain ⟨k, hk, rfl, rfl, hrow, hres, hbel⟩ := hrel
    by_cases hlt : k < 16
    · have c1 : wr.cell? ⟨g, o + k, none⟩ = some (.int .u64 ((dg a k : Nat) : Int)) := (hbel.cell (p := ⟨g, o + k, none⟩) HD.out.lt).trans (HD.out k hlt)
      have c2 : wr.cell? ⟨h, p + k, none⟩ = some (.int .u64 ((dg b k : Nat) : Int)) := (hbel.cell (p := ⟨h, p + k, none⟩) HE.out.lt).trans (HE.out k hlt)
      have c3 := hrow.cell (lim_get 16 (addTo a b k) k hlt)
      have f3 := hrow.frozen k
      have hz := hbel.size
      have q1 := dg_lt a k
      have q2 := dg_lt b k
      have q3 := cry_le a b k
      have ha : ∀ w : World, (callFunc 71 #[.int .u64 (dg a k : Nat), .int .u64 (dg b k : Nat), .int .u64 (cry a b k : Nat)]).run Try.prog w =
        .ok (.value (.tuple #[.int .u64 (dg (a + b) k : Nat), .int .u64 (cry a b (k + 1) : Nat)])) w := fun w => by
        rw [add64 _ _ _ (by omega) (by omega) (by omega) (by omega) (by omega) (by omega)]
        have e1 := cry_dig a b k
        have e2 := cry_next a b k
        rw [show ((dg a k : Nat) : Int) + (dg b k : Nat) + (cry a b k : Nat) = ((dg a k + dg b k + cry a b k : Nat) : Int) from by omega]
        rw [show (((dg a k + dg b k + cry a b k : Nat) : Int) % 18446744073709551616) = ((dg (a + b) k : Nat) : Int) from by omega]
        rw [show (((dg a k + dg b k + cry a b k : Nat) : Int) / 18446744073709551616) = ((cry a b (k + 1) : Nat) : Int) from by omega]
      go_wp2_with fail
      go_region
      go_wp2_with fail
      go_roundw
      case rel =>
        refine ⟨k + 1, by omega, by go_num, rfl, ?_, ?_, by repeat (first | with_reducible exact hbel | with_reducible apply Below.drew | with_reducible apply below_drewN | with_reducible refine Below.setCell ?_ (by first | (simp; done) | (simp; omega) | omega) _)⟩
        · have := hrow.drew.set k (.int .u64 (dg (a + b) k : Nat))
          rw [lim_set 16 (addTo a b k) (addTo a b (k + 1)) k _ hlt (by unfold addTo; rw [if_pos (by omega)]) (fun j hj hne => by unfold addTo; by_cases hjk : j < k <;> simp [hjk, show j < k + 1 ↔ j < k by omega])] at this
          exact this
        · exact hres.drew.setOther _ _ (by simp)
      case measure => simp [intOf]; omega
    · obtain rfl : k = 16 := by omega
      rw [lim_same 16 (addTo a b 16) (dg (a + b)) (fun j hj => by unfold addTo; rw [if_pos hj])] at hrow
      have hrow' : IsRow wr (w.heap.size + 1) 50 (sz (a + b)) := hrow
      clear hrow
      go_wp2_with (first | (refine wpList_load_row rfl 50 _ rfl (w.heap.size + 1) rfl _ (sz (a + b)) _ _ hrow' Try.underlying50 rfl (by rw [sz_size]; kernel_rfl) ?_) | (refine wpList_store_row rfl 50 _ _ rfl w.heap.size (sz (a + b)) rfl rfl _ (sz 0) hres (by rw [sz_size]; kernel_rfl) (by simp) (sz_one _) ?_))
      have hrow2 := hres.row (sz (a + b))
      have hl := run_loadVar_row (P := Try.prog) (wr.setRow w.heap.size (sz (a + b))) w.heap.size _ 50 (sz (a + b)) _ _ hrow2 Try.underlying50 rfl (by rw [sz_size]; kernel_rfl)
      refine bodyPost_ret (v := .tuple #[.agg (sz (a + b)), .int .u64 (cry a b 16 : Nat)]) (by simp [results, Try.results64, asAddr, hl]) rfl ⟨rfl, below_setRow hbel (Nat.le_refl _) _⟩
end Go.Proofs.Ytchfbblpflcniaa


/-
  The walks of tooGreat, made, Of: numbers with their signs.
-/
set_option linter.unusedVariables false
namespace Go.Proofs.Ytchfbblpflcniaa
open Go.RowKit

theorem Try.info_u64 : (Try.prog.info? 48).isSome = true := by kernel_rfl
theorem Try.cells_u64 : Try.prog.cellsOf 48 = 1 := by kernel_rfl

theorem run_part_u64 (w : World) {xs : Array Value} {off : Nat} {v : Value} (hx : xs[off]? = some v) : (part 48 xs off).run Try.prog w = .ok v w := by
  have ha : (isAgg 48).run Try.prog w = .ok false w := by
    unfold isAgg
    rw [Sem.run_bind, run_underlying Try.underlying48 w]
    rfl
  simp [part, Sem.run_bind, ha, hx]

theorem eqItems_lim (d n : Nat) (f g : Nat → Nat) (w : World) : ∀ is : List Nat, (∀ i ∈ is, i < n) → (Op.eqItems (d + 1) 48 1 (lim n f) (lim n g) is).run Try.prog w = .ok (is.all fun i => f i == g i) w
  | [], _ => by simp [Op.eqItems]
  | i :: is, h => by
    have ih := eqItems_lim d n f g w is (fun j hj => h j (by simp [hj]))
    have hi := h i (by simp)
    have e1 := run_part_u64 w (lim_get n f i hi)
    have e2 := run_part_u64 w (lim_get n g i hi)
    have e3 := run_equalIn_int (P := Try.prog) w d 48 .u64 .u64 (f i) (g i) Try.underlying48
    simp only [Op.eqItems, Sem.run_bind, Nat.mul_one, e1, e2, e3, Result.andThen_ok]
    by_cases hfg : f i = g i
    · simp [hfg, ih]
    · have : ((f i : Nat) : Int) ≠ (g i : Nat) := by omega
      simp [hfg, this]

set_option maxRecDepth 100000 in
theorem equal_sz (u v : Nat) (hu : u < Bs ^ 16) (hv : v < Bs ^ 16) (w : World) : (Op.equalIn 10000 50 (.agg (sz u)) (.agg (sz v))).run Try.prog w = .ok (decide (u = v)) w := by
  obtain ⟨i, hi⟩ := Option.isSome_iff_exists.1 Try.info_u64
  rw [run_equalIn_array (P := Try.prog) w 9999 (sz u) (sz v) Try.underlying50 hi, Try.cells_u64]
  unfold sz
  rw [eqItems_lim 9998 16 _ _ w (List.range 16) (fun i hi => by simpa using hi)]
  congr 1
  by_cases h : u = v
  · subst h; simp
  · simp only [h, decide_false]
    rw [← Bool.not_eq_true, List.all_eq_true]
    intro hall
    exact h (eq_of_dg 16 u v hu hv fun j hj => by simpa using hall j (by simpa using hj))

theorem equal_zero (u : Nat) (hu : u < Bs ^ 16) (w : World) : (Op.equalIn 10000 50 (.agg (sz u)) (.agg #[.int .u64 0, .int .u64 0, .int .u64 0, .int .u64 0, .int .u64 0, .int .u64 0, .int .u64 0, .int .u64 0, .int .u64 0, .int .u64 0, .int .u64 0, .int .u64 0, .int .u64 0, .int .u64 0, .int .u64 0, .int .u64 0])).run Try.prog w = .ok (decide (u = 0)) w := by
  rw [← sz_zero]
  exact equal_sz u 0 hu (bsp_pos 16) w

theorem lim_lit (f : Nat → Nat) : lim 16 f = #[.int .u64 (f 0 : Nat), .int .u64 (f 1 : Nat), .int .u64 (f 2 : Nat), .int .u64 (f 3 : Nat), .int .u64 (f 4 : Nat), .int .u64 (f 5 : Nat), .int .u64 (f 6 : Nat), .int .u64 (f 7 : Nat), .int .u64 (f 8 : Nat), .int .u64 (f 9 : Nat), .int .u64 (f 10 : Nat), .int .u64 (f 11 : Nat), .int .u64 (f 12 : Nat), .int .u64 (f 13 : Nat), .int .u64 (f 14 : Nat), .int .u64 (f 15 : Nat)] := by
  unfold lim
  rw [show List.range 16 = [0, 1, 2, 3, 4, 5, 6, 7, 8, 9, 10, 11, 12, 13, 14, 15] from rfl]
  rfl
theorem sz_lit (v : Nat) : sz v = #[.int .u64 (dg v 0 : Nat), .int .u64 (dg v 1 : Nat), .int .u64 (dg v 2 : Nat), .int .u64 (dg v 3 : Nat), .int .u64 (dg v 4 : Nat), .int .u64 (dg v 5 : Nat), .int .u64 (dg v 6 : Nat), .int .u64 (dg v 7 : Nat), .int .u64 (dg v 8 : Nat), .int .u64 (dg v 9 : Nat), .int .u64 (dg v 10 : Nat), .int .u64 (dg v 11 : Nat), .int .u64 (dg v 12 : Nat), .int .u64 (dg v 13 : Nat), .int .u64 (dg v 14 : Nat), .int .u64 (dg v 15 : Nat)] := lim_lit (dg v)
theorem wi_of (neg over : Bool) (f : Nat → Nat) : #[Value.bool neg, Value.bool over] ++ lim 16 f = #[.bool neg, .bool over, .int .u64 (f 0 : Nat), .int .u64 (f 1 : Nat), .int .u64 (f 2 : Nat), .int .u64 (f 3 : Nat), .int .u64 (f 4 : Nat), .int .u64 (f 5 : Nat), .int .u64 (f 6 : Nat), .int .u64 (f 7 : Nat), .int .u64 (f 8 : Nat), .int .u64 (f 9 : Nat), .int .u64 (f 10 : Nat), .int .u64 (f 11 : Nat), .int .u64 (f 12 : Nat), .int .u64 (f 13 : Nat), .int .u64 (f 14 : Nat), .int .u64 (f 15 : Nat)] := by
  rw [lim_lit]; simp
theorem wi_lit (neg over : Bool) (v : Nat) : wi neg over v = #[.bool neg, .bool over, .int .u64 (dg v 0 : Nat), .int .u64 (dg v 1 : Nat), .int .u64 (dg v 2 : Nat), .int .u64 (dg v 3 : Nat), .int .u64 (dg v 4 : Nat), .int .u64 (dg v 5 : Nat), .int .u64 (dg v 6 : Nat), .int .u64 (dg v 7 : Nat), .int .u64 (dg v 8 : Nat), .int .u64 (dg v 9 : Nat), .int .u64 (dg v 10 : Nat), .int .u64 (dg v 11 : Nat), .int .u64 (dg v 12 : Nat), .int .u64 (dg v 13 : Nat), .int .u64 (dg v 14 : Nat), .int .u64 (dg v 15 : Nat)] := wi_of neg over (dg v)
theorem wi_zero (neg over : Bool) : wi neg over 0 = #[.bool neg, .bool over, .int .u64 0, .int .u64 0, .int .u64 0, .int .u64 0, .int .u64 0, .int .u64 0, .int .u64 0, .int .u64 0, .int .u64 0, .int .u64 0, .int .u64 0, .int .u64 0, .int .u64 0, .int .u64 0, .int .u64 0, .int .u64 0] := by
  unfold wi; rw [sz_zero]; rfl

/-- What may be: less than 2^1023. -/
def TopBits : Nat := 1023
def Top : Nat := 2 ^ TopBits
theorem bs_two (n : Nat) : Bs ^ n = 2 ^ (64 * n) := by
  rw [Nat.pow_mul]
theorem pow_up (a b : Nat) (h : a < b) : 2 ^ a < 2 ^ b := Nat.pow_lt_pow_right (by decide) h
theorem top_of (n : Nat) (h : TopBits < 64 * n) : Top < Bs ^ n := by
  rw [bs_two]; exact pow_up _ _ h
theorem top_lt : Top < Bs ^ 16 := top_of 16 (by decide)

theorem ndTo_lt (v : Nat) : ∀ n, v < Bs ^ n → v < Bs ^ ndTo v n
  | 0, h => h
  | n + 1, h => by
    rw [ndTo]
    split
    · rename_i hz
      refine ndTo_lt v n ?_
      have s := dg_step v n
      rw [hz, Nat.div_eq_of_lt h] at s
      exact (Nat.div_eq_zero_iff_lt (bsp_pos n)).1 (by omega)
    · exact h
theorem ndTo_top (v : Nat) : ∀ n, ndTo v n = 0 ∨ dg v (ndTo v n - 1) ≠ 0
  | 0 => .inl rfl
  | n + 1 => by
    rw [ndTo]
    split
    · exact ndTo_top v n
    · rename_i h; exact .inr h

theorem bitLenAux_spec : ∀ (f x : Nat), x < 2 ^ f → x < 2 ^ Lib.bitLenAux f x ∧ (x ≠ 0 → 2 ^ (Lib.bitLenAux f x - 1) ≤ x ∧ 0 < Lib.bitLenAux f x)
  | 0, x, h => by
    have : x = 0 := by simpa using h
    subst this
    exact ⟨by simp [Lib.bitLenAux], fun h => absurd rfl h⟩
  | f + 1, x, h => by
    rw [Lib.bitLenAux]
    split
    · rename_i hz; subst hz; exact ⟨by decide, fun h => absurd rfl h⟩
    · rename_i hz
      obtain ⟨h1, h2⟩ := bitLenAux_spec f (x / 2) (by rw [Nat.pow_succ] at h; omega)
      refine ⟨by rw [Nat.add_comm, Nat.pow_succ]; omega, fun _ => ⟨?_, by omega⟩⟩
      rw [show 1 + Lib.bitLenAux f (x / 2) - 1 = Lib.bitLenAux f (x / 2) from by omega]
      by_cases hh : x / 2 = 0
      · have : Lib.bitLenAux f (x / 2) = 0 := by rw [hh]; cases f <;> simp [Lib.bitLenAux]
        rw [this]; simp; omega
      · obtain ⟨h3, h4⟩ := h2 hh
        obtain ⟨m, hm⟩ : ∃ m, Lib.bitLenAux f (x / 2) = m + 1 := ⟨_, (Nat.succ_pred_eq_of_pos h4).symm⟩
        rw [hm] at h3 ⊢
        rw [Nat.pow_succ]
        simp at h3
        omega

/-- The bits of a number. -/
theorem bl_spec (v : Nat) (hv : v < Bs ^ 16) : v < 2 ^ bl v ∧ (v ≠ 0 → 2 ^ (bl v - 1) ≤ v ∧ 0 < bl v) := by
  have hlt := ndTo_lt v 16 hv
  have htop := ndTo_top v 16
  have e0 : ndTo v 16 = nd v := rfl
  rw [e0] at hlt htop
  rcases htop with h0 | h0
  · have hb : bl v = 0 := by unfold bl; rw [if_pos h0]
    rw [h0] at hlt
    have : v = 0 := by simpa using hlt
    subst this
    exact ⟨by rw [hb]; decide, fun h => absurd rfl h⟩
  · by_cases hz : nd v = 0
    · rw [hz] at hlt
      have : v = 0 := by simpa using hlt
      subst this
      exact absurd (dg_zero _) h0
    obtain ⟨n, hn⟩ : ∃ n, nd v = n + 1 := ⟨nd v - 1, by omega⟩
    have hb : bl v = 64 * n + lb (dg v n) := by unfold bl; rw [if_neg hz, hn]; rfl
    rw [hn] at hlt h0
    have h0' : dg v n ≠ 0 := h0
    have hd : v / Bs ^ n = dg v n := by
      have s := dg_step v n
      rw [Nat.div_eq_of_lt hlt] at s
      omega
    obtain ⟨b1, b2⟩ := bitLenAux_spec 64 (dg v n) (dg_lt v n)
    obtain ⟨b3, b4⟩ := b2 h0'
    have e1 : Lib.bitLenAux 64 (dg v n) = lb (dg v n) := rfl
    rw [e1] at b1 b3 b4
    have eB := bs_two n
    rw [hb]
    refine ⟨?_, fun _ => ⟨?_, by omega⟩⟩
    · rw [Nat.pow_add, ← eB, Nat.mul_comm, ← Nat.div_lt_iff_lt_mul (bsp_pos n), hd]; exact b1
    · rw [show 64 * n + lb (dg v n) - 1 = 64 * n + (lb (dg v n) - 1) from by omega, Nat.pow_add, ← eB, Nat.mul_comm, ← Nat.le_div_iff_mul_le (bsp_pos n), hd]
      exact b3
theorem bl_small (v k : Nat) (hv : v < Bs ^ 16) (h : v < 2 ^ k) : bl v ≤ k := by
  obtain ⟨h1, h2⟩ := bl_spec v hv
  by_cases hz : v = 0
  · subst hz
    have : bl 0 = 0 := by decide
    omega
  · obtain ⟨h3, h4⟩ := h2 hz
    have : bl v - 1 < k := (Nat.pow_lt_pow_iff_right (by decide)).1 (Nat.lt_of_le_of_lt h3 h)
    omega

end Go.Proofs.Ytchfbblpflcniaa


/-
  The root of a number, down; Newton's steps come to it from above.
-/
set_option linter.unusedVariables false
namespace Go.Proofs.Ytchfbblpflcniaa

def isqTo (v : Nat) : Nat → Nat
  | 0 => 0
  | n + 1 => if (n + 1) * (n + 1) ≤ v then n + 1 else isqTo v n
/-- The root, down. -/
def isq (v : Nat) : Nat := isqTo v v
theorem isqTo_le (v : Nat) : ∀ n, isqTo v n * isqTo v n ≤ v
  | 0 => Nat.zero_le _
  | n + 1 => by
    rw [isqTo]; split
    · assumption
    · exact isqTo_le v n
theorem isqTo_lt (v : Nat) : ∀ n, v < (n + 1) * (n + 1) → v < (isqTo v n + 1) * (isqTo v n + 1)
  | 0, h => h
  | n + 1, h => by
    rw [isqTo]; split
    · exact h
    · rename_i hn; exact isqTo_lt v n (by omega)
theorem isq_le (v : Nat) : isq v * isq v ≤ v := isqTo_le v v
theorem isq_lt (v : Nat) : v < (isq v + 1) * (isq v + 1) := isqTo_lt v v (by
  have : v + 1 ≤ (v + 1) * (v + 1) := Nat.le_mul_of_pos_left _ (by omega)
  omega)
theorem sq_mono {a b : Nat} (h : a * a < b * b) : a < b := by
  rcases Nat.lt_or_ge a b with h1 | h1
  · exact h1
  · have := Nat.mul_le_mul h1 h1; omega
theorem isq_ge {v x : Nat} (h : x * x ≤ v) : x ≤ isq v := by
  have := isq_lt v
  have := sq_mono (Nat.lt_of_le_of_lt h this)
  omega
theorem isq_pos {v : Nat} (h : 0 < v) : 0 < isq v := isq_ge (x := 1) (by omega)
theorem isq_below {v n : Nat} (h : v < n * n) : isq v < n := sq_mono (Nat.lt_of_le_of_lt (isq_le v) h)

/-- A step of Newton's does not go below the root. -/
theorem newton_ge (v x : Nat) (hx : 0 < x) : isq v ≤ (x + v / x) / 2 := by
  have hr := isq_le v
  rcases Nat.lt_or_ge ((x + v / x) / 2) (isq v) with h | h
  · exfalso
    generalize isq v = r at *
    have hq := Nat.lt_div_mul_add (a := v) hx
    generalize hqq : v / x = q at *
    have h1 : x + q + 1 ≤ 2 * r := by omega
    obtain ⟨d, hd⟩ : ∃ d, q + 1 + x + d = 2 * r := ⟨2 * r - (x + q + 1), by omega⟩
    -- v < (q + 1) * x
    have h2 : v < (q + 1) * x := by rw [Nat.add_mul]; omega
    rcases Nat.le_total r x with hxr | hxr
    · obtain ⟨e, rfl⟩ : ∃ e, x = r + e := ⟨x - r, by omega⟩
      have h3 : q + 1 + e ≤ r := by omega
      have h4 : (q + 1) * (r + e) ≤ r * r := by
        obtain ⟨f, rfl⟩ : ∃ f, r = q + 1 + e + f := ⟨r - (q + 1 + e), by omega⟩
        simp only [Nat.add_mul, Nat.mul_add]
        have c1 : q * e = e * q := Nat.mul_comm _ _
        have c2 : q * f = f * q := Nat.mul_comm _ _
        have c3 : e * f = f * e := Nat.mul_comm _ _
        generalize q * q = t1 at *
        generalize e * q = t2 at *
        generalize f * q = t3 at *
        generalize e * e = t4 at *
        generalize f * e = t5 at *
        generalize f * f = t6 at *
        omega
      omega
    · obtain ⟨e, rfl⟩ : ∃ e, r = x + e := ⟨r - x, by omega⟩
      have h3 : q + 1 ≤ x + 2 * e := by omega
      have h4 : (q + 1) * x ≤ (x + 2 * e) * x := Nat.mul_le_mul_right _ h3
      have h5 : (x + 2 * e) * x ≤ (x + e) * (x + e) := by
        simp only [Nat.add_mul, Nat.mul_add, Nat.mul_assoc]
        have c1 : e * x = x * e := Nat.mul_comm _ _
        generalize x * x = t1 at *
        generalize x * e = t2 at *
        generalize e * e = t3 at *
        omega
      omega
  · exact h
theorem newton_end (v x : Nat) (hx : 0 < x) (h0 : isq v ≤ x) (h : x ≤ (x + v / x) / 2) : x = isq v := by
  have h1 : x ≤ v / x := by omega
  have h2 : x * x ≤ v := (Nat.le_div_iff_mul_le hx).1 h1
  have := isq_ge h2
  omega
theorem newton_start (v : Nat) (hv : v < Bs ^ 16) : isq v < 2 ^ ((bl v + 1) / 2) := by
  apply isq_below
  refine Nat.lt_of_lt_of_le (bl_spec v hv).1 ?_
  rw [← Nat.pow_add]
  exact Nat.pow_le_pow_right (by decide) (by omega)
end Go.Proofs.Ytchfbblpflcniaa


/-
  The walks of the document's roots: Sqrt, Isqrt.
-/
set_option linter.unusedVariables false
set_option linter.unusedSimpArgs false
namespace Go.Proofs.Ytchfbblpflcniaa
open Go Go.RowKit Sx

theorem bitn48 {a : Nat} (ha : a < 281474976710656) : bitn a ≤ 48 := by
  unfold bitn
  split
  · omega
  · rename_i h
    have h2 := (two_words (n := a) (by omega)).2
    have h0 : nl a ≠ 0 := fun e => h (nl_zero_iff.1 e)
    rcases (show nl a = 1 ∨ nl a = 2 by omega) with e | e
    · rw [e]
      have := bn_le 32 (lm a 0) (lm_lt a 0)
      show 32 * 0 + bn (lm a 0) ≤ 48
      omega
    · rw [e]
      have h3 : lm a 1 < 2 ^ 16 := by
        have h4 := up_word a 1
        have h5 : a < bw 2 := by rw [← e]; exact nl_self a
        rw [Nat.div_eq_of_lt h5, Nat.zero_mul, Nat.zero_add, bw_one] at h4
        omega
      have := bn_le 16 (lm a 1) h3
      show 32 * 1 + bn (lm a 1) ≤ 48
      omega
theorem cLeftE (n i K : Nat) (z : Int) (hz : z = (n : Int)) (o : Chunk) (h : List (Option Chunk)) (hi : h[i]? = some (some o)) (hin : IsNum o 1 1) (hn : n < 32) (h0 : h[K]? = some none) :
    CallOK Try.prog 74 [.slice (some ⟨i, 0, some 0⟩) 1 1, .int .i64 z] h (.slice (some ⟨K, 0, some 0⟩) (nl (2 ^ n)) 2) [(K, numC true 2 (2 ^ n))] [i] := by
  subst hz; exact cLeft n i K o h hi hin hn h0
theorem nl_wd {b : Nat} (h0 : 1 ≤ b) (h1 : b < 4294967296) : nl b = 1 := nl_eq (by rw [bw_one]; exact h1) (by rw [bw_zero]; exact h0)
theorem big_ren {ix : List (Nat × Nat)} {o a b : Bool} {k l c : Nat} (h : ixK ix k = some k) : ChunkReLe ix ⟨o, 3, [(0, 3, .agg #[.bool a, .bool b, .slice (some ⟨k, 0, some 0⟩) l c])]⟩ ⟨o, 3, [(0, 3, .agg #[.bool a, .bool b, .slice (some ⟨k, 0, some 0⟩) l c])]⟩ := ⟨id, Nat.le_refl _, fun j hj => by
  match j, hj with
  | 0, _ => exact Re1.plain rfl
  | 1, _ => exact Re1.plain rfl
  | 2, _ => exact Re1.slice h⟩
theorem num_ren {ix : List (Nat × Nat)} {o : Bool} {m m' v : Nat} (h : m ≤ m') : ChunkReLe ix (numC o m v) (numC o m' v) := ⟨id, h, fun j hj => by
  have hj : j < m := hj
  rw [seg_cell hj, seg_cell (Nat.lt_of_lt_of_le hj h)]; exact .plain rfl⟩
theorem re_slc {ix : List (Nat × Nat)} {i k l c c' : Nat} (h : ixK ix k = some i) (e : c = c') : Re ix (.slice (some ⟨i, 0, some 0⟩) l c) (.slice (some ⟨k, 0, some 0⟩) l c') := by subst e; exact .one (.slice h)
/-- Ahead of a loop some slots are forgotten. -/
theorem N.loopD {P : Program} {G : Tys} {n0 : Nat} {c : Code} {A : (Exit → St → Prop) → St → Prop} {Q : Exit → St → Prop} {t : List (Option Value)} {h : List (Option Chunk)} (mk : Nat) (hw : updK mk [] t 0 fun t' => wkK n0 ⟨t, h⟩ ⟨t', h⟩ (N True)) (k : updK mk [] t 0 fun t' => N (LoopN P G n0 c A Q ⟨t', h⟩)) : N (LoopN P G n0 c A Q ⟨t, h⟩) := by
  have h1 := (wk_out (updK_iff.1 hw)).1
  obtain ⟨α, mk', inv, μ, nx, p1, ⟨x, p2, p3⟩, p4⟩ := (updK_iff.1 k).out
  exact N.mk ⟨α, mk', inv, μ, nx, p1, ⟨x, p2, fun X ρ a w hn R => p3 X ρ a w hn (by subst hn; exact h1.rel R)⟩, p4⟩
structure SqS where
  X : Nat
  m : Nat
def sqOK (a : Nat) (q : SqS) : Prop := 1 ≤ q.X ∧ q.X ≤ 33554432 ∧ isq a ≤ q.X ∧ (q.m = 1 ∨ (q.m = 2 ∧ a < q.X * q.X))
set_option maxRecDepth 100000 in
set_option maxHeartbeats 2000000 in
theorem cRSqrt (a m i K : Nat) (o : Chunk) (h : List (Option Chunk)) (hi : h[i]? = some (some o)) (hin : IsNum o m a) (hl : nl a ≤ m) (hm : m ≤ 20) (ha : 1 ≤ a ∧ a < 281474976710656) (h0 : h[K]? = some none) :
    CallOK Try.prog 48 [.agg #[.bool false, .bool false, .slice (some ⟨i, 0, some 0⟩) (nl a) m]] h (.tuple #[.agg #[.bool false, .bool false, .slice (some ⟨K, 0, some 0⟩) (nl (isq a)) 1], .int .i64 0]) [(K, numC true 1 (isq a))] [i] := by
  have hna : nl a ≠ 0 := fun e => by have := nl_zero_iff.1 e; omega
  have hb48 := bitn48 ha.2
  have hn : IntKind.i64.wrap (IntKind.i64.wrap (((bitn a : Nat) : Int).tdiv 2) + 1) = ((bitn a / 2 + 1 : Nat) : Int) := by
    rw [Int.tdiv_eq_ediv_of_nonneg (by omega), i64n (_ / 2) (by omega) (by omega), i64n _ (by omega) (by omega)]; omega
  have hx0 : 2 ^ (bitn a / 2 + 1) ≤ 33554432 := Nat.pow_le_pow_right (n := 2) (by decide) (show bitn a / 2 + 1 ≤ 25 by omega)
  have hx1 : 1 ≤ 2 ^ (bitn a / 2 + 1) := Nat.pow_pos (by decide)
  have hx2 : a < 2 ^ (bitn a / 2 + 1) * 2 ^ (bitn a / 2 + 1) := by
    rw [← Nat.pow_add]
    exact Nat.lt_of_lt_of_le (bitn_self a) (Nat.pow_le_pow_right (by decide) (by omega))
  have hx3 : isq a ≤ 2 ^ (bitn a / 2 + 1) := Nat.le_of_lt (isq_below hx2)
  refine call_sub (G := tys) [⟨i, _, numC false m a, ⟨false, 0, []⟩⟩] [⟨K, 8, numC true 1 (isq a)⟩] [.agg #[.bool false, .bool false, .slice (some ⟨0, 0, some 0⟩) (nl a) m]] tysOK mixed Try.func48 (by rfl) (Try.call48) ⟨hi, trivial⟩ ⟨⟨fun h => (by cases h), Nat.le_of_eq hin.1.symm, num_re hin⟩, trivial⟩ (by simp [Apart]) ⟨⟨h0, rfl, by show 0 < 1; decide, by simp⟩, trivial⟩ ⟨.agg ⟨.plain rfl, .plain rfl, .slice rfl, trivial⟩, trivial⟩ ?_
  repeat' (refine N.go ?_; first | with_reducible (first | refine N.obl (by decide) ?_ | refine N.eq ?_ | refine N.obl rfl ?_ | refine N.obl ⟨by kernel_rfl, by kernel_rfl⟩ ?_ | refine N.alt ?_ | refine N.forkT ?_ | refine N.forkF ?_) | refine N.call (cBits32 a m _ _ _ (by rfl) (isNum _ _ _) hl (by omega)) ?_ | refine N.call (cLeftE (bitn a / 2 + 1) _ 8 _ hn _ _ (by rfl) (isNum1 (by decide)) (by omega) (by rfl)) ?_ | refine N.forkNo (by rw [beq_eq_false_iff_ne]; omega) ?_ | refine N.forkNo (by decide) ?_ | refine N.forkYes (by decide) ?_ | fail)
  refine N.go ?_
  refine N.loopD 67108864 ?_ ?_
  · repeat (refine N.go ?_; first | exact N.true | with_reducible (first | refine N.obl rfl ?_ | refine N.obl (ChunkLe.refl _) ?_) | refine N.obl (int_i64 (by rw [IntWalk.i64_in _ (by omega)]; rfl)) ?_ |  fail_if_success skip)
  refine N.go ?_
  refine N.loopR (α := SqS) (sqOK a) (fun q => q.X) (fun q => [(4, .slice (some ⟨8, 0, some 0⟩) (nl q.X) q.m)]) (fun q => [(8, numC true q.m q.X)]) ⟨2 ^ (bitn a / 2 + 1), 2⟩ [(0, 0), (1, 1), (2, 2), (3, 3), (8, 8)] ⟨hx1, hx0, hx3, .inr ⟨rfl, hx2⟩⟩ ?_ ?_
  · repeat' (refine N.go ?_; first | exact N.true | refine N.obl (.plain (by rfl)) ?_ | refine N.obl (.one (.ptr rfl)) ?_ | refine N.obl (.one (.slice rfl)) ?_ | refine N.obl (.one (.agg ⟨.plain rfl, .plain rfl, .slice rfl, trivial⟩)) ?_ | refine N.obl (ChunkReLe.same (agg_plain (by rfl) (by rfl))) ?_ | refine N.obl (big_ren rfl) ?_ | refine N.obl (num_ren (Nat.le_refl _)) ?_ | refine N.obl (num_ren (Nat.le_of_eq nX.symm)) ?_ | refine N.obl (num_ren (Nat.le_of_eq nS.symm)) ?_ | fail)
  · intro q hq
    obtain ⟨X, mx⟩ := q
    obtain ⟨q1, q2, q3, q4⟩ := hq
    have q1 : 1 ≤ X := q1
    have q2 : X ≤ 33554432 := q2
    have q3 : isq a ≤ X := q3
    have q4 : mx = 1 ∨ (mx = 2 ∧ a < X * X) := q4
    have hmx : 1 ≤ mx ∧ mx ≤ 2 := by omega
    have nX : nl X = 1 := nl_wd q1 (by omega)
    have hg := newton_ge a X q1
    have he := newton_end a X q1 q3
    rcases Nat.lt_or_ge a X with hlt | hge
    · have hz : a / X = 0 := Nat.div_eq_of_lt hlt
      rw [hz, Nat.add_zero] at hg he
      have hy0 : 0 < isq a := isq_pos ha.1
      have nY : nl (X / 2) = 1 := nl_wd (by omega) (by omega)
      by_cases hc : X ≤ X / 2
      · omega
      · have hcm : cmpN (X / 2) X = -1 := by unfold cmpN; rw [if_pos (by omega)]
        repeat' (refine N.go ?_; first | with_reducible (first | refine N.obl (by decide) ?_ | refine N.eq ?_ | refine N.obl rfl ?_ | refine N.obl ⟨by kernel_rfl, by kernel_rfl⟩ ?_ | refine N.alt ?_ | refine N.forkT ?_ | refine N.forkF ?_) | refine N.call (cQuoLt a X m mx _ _ _ _ _ (by rfl) (isNum _ _ _) (by rfl) (isNum _ _ _) hl (by omega) (by omega) (by omega) hlt) ?_ | refine N.call (cPlusX X mx _ 9 _ _ (by rfl) (isNum _ _ _) (by omega) (by omega) (by rfl)) ?_ | refine N.call (cRight X (nl X + 1) _ 13 _ _ (by rfl) (isNum _ _ _) (by omega) (by omega) (by omega) (by rfl)) ?_ | refine N.call (cCmp (X / 2) X (nl X) mx _ _ _ _ _ (by rfl) (isNum _ _ _) (by rfl) (isNum _ _ _) (by omega) (by omega) (by omega) (by omega)) ?_ | refine N.forkNo (by rw [hcm]; decide) ?_ | refine N.forkNo (by decide) ?_ | refine N.forkYes (by decide) ?_ | fail)
        refine N.go ?_
        refine N.nextR (α := SqS) ⟨X / 2, 1⟩ [(0, 0), (1, 1), (2, 2), (3, 3), (13, 8)] ⟨⟨by show 1 ≤ X / 2; omega, by show X / 2 ≤ 33554432; omega, hg, .inl rfl⟩, by show X / 2 < X; omega⟩ ?_
        repeat' (refine N.go ?_; first | exact N.true | refine N.obl (.plain (by rfl)) ?_ | refine N.obl (.one (.ptr rfl)) ?_ | refine N.obl (re_slc rfl (by first | exact nX.symm | exact nS.symm)) ?_ | refine N.obl (.one (.slice rfl)) ?_ | refine N.obl (.one (.agg ⟨.plain rfl, .plain rfl, .slice rfl, trivial⟩)) ?_ | refine N.obl (ChunkReLe.same (agg_plain (by rfl) (by rfl))) ?_ | refine N.obl (big_ren rfl) ?_ | refine N.obl (num_ren (Nat.le_refl _)) ?_ | refine N.obl (num_ren (Nat.le_of_eq nX.symm)) ?_ | refine N.obl (num_ren (Nat.le_of_eq nS.symm)) ?_ | fail)
    · have hq : a / X ≤ isq a + 2 := by
        have h1 := isq_lt a
        have h2 : a < (isq a + 3) * X := by
          refine Nat.lt_of_lt_of_le h1 ?_
          rcases Nat.eq_or_lt_of_le q3 with e | e
          · rw [← e]
            generalize isq a = r at *
            have e3 : (r + 1) * (r + 1) = r * r + r + r + 1 := by rw [Nat.add_mul, Nat.mul_add]; omega
            have e4 : (r + 3) * r = r * r + 3 * r := Nat.add_mul _ _ _
            omega
          · exact Nat.mul_le_mul (by omega) (by omega)
        have := (Nat.div_lt_iff_lt_mul (by omega : 0 < X)).2 h2
        omega
      have hS : X + a / X < 4294967296 := by omega
      have hq1 : 1 ≤ a / X := Nat.div_pos hge (by omega)
      have nQ : nl (a / X) = 1 := nl_wd hq1 (by omega)
      have nS : nl (X + a / X) = 1 := nl_wd (by omega) hS
      have hy0 : 0 < isq a := isq_pos ha.1
      have nY : nl ((X + a / X) / 2) = 1 := nl_wd (by omega) (by omega)
      by_cases hc : X ≤ (X + a / X) / 2
      · have hX := he hc
        have hm1 : mx = 1 := by
          rcases q4 with e | ⟨_, e⟩
          · exact e
          · exfalso
            have := (Nat.div_lt_iff_lt_mul (by omega : 0 < X)).2 e
            omega
        subst hm1
        have hcm : (0 : Int) ≤ cmpN ((X + a / X) / 2) X := by unfold cmpN; rw [if_neg (by omega)]; split <;> decide
        repeat' (refine N.go ?_; first | with_reducible (first | refine N.obl (by decide) ?_ | refine N.eq ?_ | refine N.obl rfl ?_ | refine N.obl ⟨by kernel_rfl, by kernel_rfl⟩ ?_ | refine N.alt ?_ | refine N.forkT ?_ | refine N.forkF ?_) | refine N.call (cQuo a X m 1 _ _ 12 13 _ _ _ (by rfl) (isNum _ _ _) (by rfl) (isNum _ _ _) hl (by omega) nX (by omega) hge (by rfl) (by rfl) (by decide)) ?_ | refine N.call (cPlus X (a / X) 1 (nl a) _ _ 14 _ _ _ (by rfl) (isNum _ _ _) (by rfl) (isNum _ _ _) (by omega) (by omega) (by omega) ⟨by omega, by omega⟩ (by rfl)) ?_ | refine N.call (cRight (X + a / X) (nl X + 1) _ 18 _ _ (by rfl) (isNum _ _ _) (by omega) (by omega) (by omega) (by rfl)) ?_ | refine N.call (cCmp ((X + a / X) / 2) X (nl (X + a / X)) 1 _ _ _ _ _ (by rfl) (isNum _ _ _) (by rfl) (isNum _ _ _) (by omega) (by omega) (by omega) (by omega)) ?_ | refine N.forkYes (by rw [decide_eq_true_eq]; omega) ?_ | refine N.call (cMade32 X 1 (nl X) _ false false rfl _ _ (by rfl) (isNum _ _ _) (by omega) (by omega) (nl_self _)) ?_ | refine N.obl (by rw [hX]; exact .tuple ⟨.agg ⟨.plain (by rfl), .plain rfl, .slice (by rfl), trivial⟩, .plain rfl, trivial⟩) ?_ | refine N.obl ⟨⟨by show 1 ≤ 8; decide, post_num (by rfl) rfl (by rw [hX]; exact isNum _ _ _)⟩, trivial⟩ ?_ | refine N.forkNo (by decide) ?_ | refine N.forkYes (by decide) ?_ | refine N.obl trivial ?_ | exact N.true | fail)
      · have hcm : cmpN ((X + a / X) / 2) X = -1 := by unfold cmpN; rw [if_pos (by omega)]
        repeat' (refine N.go ?_; first | with_reducible (first | refine N.obl (by decide) ?_ | refine N.eq ?_ | refine N.obl rfl ?_ | refine N.obl ⟨by kernel_rfl, by kernel_rfl⟩ ?_ | refine N.alt ?_ | refine N.forkT ?_ | refine N.forkF ?_) | refine N.call (cQuo a X m mx _ _ 12 13 _ _ _ (by rfl) (isNum _ _ _) (by rfl) (isNum _ _ _) hl (by omega) nX (by omega) hge (by rfl) (by rfl) (by decide)) ?_ | refine N.call (cPlus X (a / X) mx (nl a) _ _ 14 _ _ _ (by rfl) (isNum _ _ _) (by rfl) (isNum _ _ _) (by omega) (by omega) (by omega) ⟨by omega, by omega⟩ (by rfl)) ?_ | refine N.call (cRight (X + a / X) (nl X + 1) _ 18 _ _ (by rfl) (isNum _ _ _) (by omega) (by omega) (by omega) (by rfl)) ?_ | refine N.call (cCmp ((X + a / X) / 2) X (nl (X + a / X)) mx _ _ _ _ _ (by rfl) (isNum _ _ _) (by rfl) (isNum _ _ _) (by omega) (by omega) (by omega) (by omega)) ?_ | refine N.forkNo (by rw [hcm]; decide) ?_ | refine N.forkNo (by decide) ?_ | refine N.forkYes (by decide) ?_ | fail)
        refine N.go ?_
        refine N.nextR (α := SqS) ⟨(X + a / X) / 2, 1⟩ [(0, 0), (1, 1), (2, 2), (3, 3), (18, 8)] ⟨⟨by show 1 ≤ (X + a / X) / 2; omega, by show (X + a / X) / 2 ≤ 33554432; omega, hg, .inl rfl⟩, by show (X + a / X) / 2 < X; omega⟩ ?_
        repeat' (refine N.go ?_; first | exact N.true | refine N.obl (.plain (by rfl)) ?_ | refine N.obl (.one (.ptr rfl)) ?_ | refine N.obl (re_slc rfl (by first | exact nX.symm | exact nS.symm)) ?_ | refine N.obl (.one (.slice rfl)) ?_ | refine N.obl (.one (.agg ⟨.plain rfl, .plain rfl, .slice rfl, trivial⟩)) ?_ | refine N.obl (ChunkReLe.same (agg_plain (by rfl) (by rfl))) ?_ | refine N.obl (big_ren rfl) ?_ | refine N.obl (num_ren (Nat.le_refl _)) ?_ | refine N.obl (num_ren (Nat.le_of_eq nX.symm)) ?_ | refine N.obl (num_ren (Nat.le_of_eq nS.symm)) ?_ | fail)
set_option maxRecDepth 100000 in
set_option maxHeartbeats 2000000 in
theorem isqrt_x (n : Nat) (hn : 1 ≤ n ∧ n < 281474976710656) (w : World) : Calls Try.prog 41 #[.int .i64 (n : Int)] w fun e w' => e = .returned (.int .i64 ((isq n : Nat) : Int)) ∧ Below w.heap.size w w' := by
  have h1 : isq n < 16777217 := isq_below (by omega)
  have h2 := (two_words (n := n) (by omega)).2
  have h3 : nl (isq n) = 1 := nl_wd (isq_pos hn.1) (by omega)
  refine calls_pure (G := tys) w tysOK mixed Try.func41 (by rfl) (by rfl) (by rfl) ?_
  repeat' (refine N.go ?_; first | with_reducible (first | refine N.obl (by decide) ?_ | refine N.eq ?_ | refine N.obl rfl ?_ | refine N.obl ⟨by kernel_rfl, by kernel_rfl⟩ ?_ | refine N.alt ?_ | refine N.forkT ?_ | refine N.forkF ?_) | refine N.call (cROf n 0 _ (by rfl) (by omega)) ?_ | refine N.call (cRSqrt n 2 _ 4 _ _ (by rfl) (isNum _ _ _) h2 (by omega) hn (by rfl)) ?_ | refine N.call (cRI64 (isq n) 1 _ _ _ (by rfl) (isNum _ _ _) (by omega) (by omega) (by omega)) ?_ | refine N.forkNo (by decide) ?_ | refine N.forkYes (by decide) ?_ | refine N.forkYes (by rw [decide_eq_true_eq]; omega) ?_ | refine N.forkNo (by rw [decide_eq_false_iff_not]; omega) ?_ | fail)
  all_goals rfl
set_option maxRecDepth 100000 in
theorem isqrt0_x (w : World) : Calls Try.prog 41 #[.int .i64 ((0 : Nat) : Int)] w fun e w' => e = .returned (.int .i64 ((isq 0 : Nat) : Int)) ∧ Below w.heap.size w w' := by
  refine calls_pure (G := tys) w tysOK mixed Try.func41 (by rfl) (by rfl) (by rfl) ?_
  repeat' (refine N.go ?_; first | with_reducible (first | refine N.obl (by decide) ?_ | refine N.eq ?_ | refine N.obl rfl ?_ | refine N.obl ⟨by kernel_rfl, by kernel_rfl⟩ ?_ | refine N.alt ?_ | refine N.forkT ?_ | refine N.forkF ?_) | refine N.forkNo (by decide) ?_ | refine N.forkYes (by decide) ?_ | fail)
  all_goals rfl
theorem cIsqrt (n : Int) (h : List (Option Chunk)) (hn : 0 ≤ n ∧ n < 281474976710656) : CallOK Try.prog 41 [.int .i64 n] h (.int .i64 ((isq n.toNat : Nat) : Int)) [] [] := by
  obtain ⟨k, rfl⟩ := Int.eq_ofNat_of_zero_le hn.1
  rw [Int.toNat_natCast]
  rcases Nat.eq_zero_or_pos k with rfl | hp
  · exact call_pure (by rfl) (by rfl) (Try.call41 _) (fun w => isqrt0_x w)
  · exact call_pure (by rfl) (by rfl) (Try.call41 _) (fun w => isqrt_x k ⟨hp, by omega⟩ w)
end Go.Proofs.Ytchfbblpflcniaa


/-
  Stretches that bear blocks of their own: how they are opened and closed; contracts of callees that take or make such.
-/
set_option linter.unusedVariables false
set_option linter.unusedSimpArgs false
namespace Go.Proofs.Ytchfbblpflcniaa.Sx
open Go Go.RowKit

/-! ### Another description of the same blocks -/
structure NewC (X : Ctx) (ρ' : Nat → Nat × Nat) (h' : List (Option Chunk)) (w : World) (F : Nat → Prop) (T : Nat → Nat → Prop) (k : Nat) (d : Chunk) : Prop where
  blk : F (ρ' k).1
  cell : ∀ j, j < d.n → ∃ x, w.cell? ⟨(ρ' k).1, (ρ' k).2 + j, none⟩ = some x ∧ Den1 (Fil h') ρ' (d.f j) x
  own : d.own = true → ∀ j, j < d.n → w.frozen? ⟨(ρ' k).1, (ρ' k).2 + j, none⟩ = false
  inv : d.x.inv (ρ' k) (T k) w
  foot : ∀ b, T k b → F b ∧ (d.n = 0 ∨ b ≠ (ρ' k).1)

/-! ### What a callee may count on -/
structure Tidy (X : Ctx) (ss : List Piece) : Prop where
  n0 : X.n0 = ss.length
  m : ∀ b j, X.M ⟨b, j, none⟩ → (∃ k, k < X.n0 ∧ b = (X.ρ0 k).1) ∨ May X b
  x : ∀ (k : Nat) (s : Piece), ss[k]? = some s → s.e.x ≠ Ext.none → Selfish s.e.x → May X (X.ρ0 k).1
theorem Tidy.may {X : Ctx} {ss : List Piece} {ρ : Nat → Nat × Nat} {h : List (Option Chunk)} {w : World} (T : Tidy X ss) (H : HOK X ρ h w) {j : Nat} {c : Chunk} (hj : h[j]? = some (some c)) (ho : c.own = true) (hn : 0 < c.n) (hl : ss.length ≤ j) : May X (ρ j).1 := by
  rcases (H.own j c hj ho 0 hn).2 with h1 | h1
  · exact .inl h1
  · rcases T.m _ _ h1 with ⟨k, hk, hb⟩ | h2
    · obtain ⟨⟨d, hd⟩, hρ⟩ := H.base k hk
      have := H.sep j c k d hj ho hd (by have := T.n0; omega)
      rw [hρ] at this
      exact absurd hb this
    · exact h2
theorem Tidy.mayX {X : Ctx} {ss : List Piece} {ρ : Nat → Nat × Nat} {h : List (Option Chunk)} {w : World} (T : Tidy X ss) (H : HOK X ρ h w) {k : Nat} {s : Piece} (hk : ss[k]? = some s) (hx : s.e.x ≠ Ext.none) (hs : Selfish s.e.x) : May X (ρ k).1 := by
  have hl := (List.getElem?_eq_some_iff.1 hk).1
  rw [(H.base k (by rw [T.n0]; exact hl)).2]
  exact T.x k s hk hx hs

/-- The end of a callee, told anew. -/
def EndN (ss : List Piece) (h : List (Option Chunk)) (v : Value) (K : Value → List (Option Chunk) → Prop) : Prop :=
  ∀ X ρ w x, Tidy X ss → HOK X ρ h w → Den (Fil h) ρ v x → ∃ v' h' ρ', HOK X ρ' h' w ∧ Den (Fil h') ρ' v' x ∧ K v' h'
theorem N.endSame {ss : List Piece} {h : List (Option Chunk)} {v : Value} {K : Value → List (Option Chunk) → Prop} (k : K v h) : N (EndN ss h v K) := N.mk fun X ρ w x _ H hd => ⟨v, h, ρ, H, hd, k⟩
/-- What a callee begins with, told anew. -/
def Opens (ss : List Piece) {B : Type} (okB : B → Prop) (h1 : B → List (Option Chunk)) : Prop :=
  ∀ X ρ w, Tidy X ss → HOK X ρ (partH ss) w → ∃ β, okB β ∧ ∃ ρ', AgreeOn (Fil (partH ss)) ρ ρ' ∧ (∀ i, Fil (partH ss) i → Fil (h1 β) i) ∧ HOK X ρ' (h1 β) w
theorem Opens.same {ss : List Piece} : Opens ss (fun _ : Unit => True) (fun _ => partH ss) := fun X ρ w _ H => ⟨(), trivial, ρ, AgreeOn.refl _ _, fun _ h => h, H⟩
def PartsX : List Piece → Prop
  | [] => True
  | s :: r => (s.e.x = Ext.none ∨ (s.e.own = true ∧ s.e.x = s.c.x)) ∧ PartsX r
theorem PartsX.at : ∀ {ss : List Piece}, PartsX ss → ∀ s ∈ ss, PieceX s
  | t :: r, hp, s, hs => by
    rcases List.mem_cons.1 hs with rfl | hs
    · exact hp.1
    · exact PartsX.at hp.2 s hs
def PostX (h : List (Option Chunk)) : List Piece → Nat → Prop
  | [], _ => True
  | s :: r, k => (s.d.x = Ext.none ∨ ∃ c, h[k]? = some (some c) ∧ s.d.x = c.x) ∧ PostX h r (k + 1)
theorem PostX.at {h : List (Option Chunk)} : ∀ {ss : List Piece} {k0 : Nat}, PostX h ss k0 → ∀ (l : Nat) (s : Piece), ss[l]? = some s → s.d.x = Ext.none ∨ ∃ c, h[k0 + l]? = some (some c) ∧ s.d.x = c.x
  | a :: r, k0, hp, 0, s, hl => by simp at hl; subst hl; exact hp.1
  | a :: r, k0, hp, l + 1, s, hl => by
    rw [show k0 + (l + 1) = k0 + 1 + l from by omega]
    exact PostX.at hp.2 l s (by simpa using hl)
def MadeX (h : List (Option Chunk)) : List Fresh → Prop
  | [] => True
  | n :: r => (h[n.i]? = some none ∧ n.d.own = true ∧ (0 < n.d.n ∨ Selfish n.d.x) ∧ ∀ m ∈ r, n.i ≠ m.i ∧ n.k ≠ m.k) ∧ MadeX h r
theorem MadeX.at {h : List (Option Chunk)} : ∀ {ns : List Fresh}, MadeX h ns → ∀ n ∈ ns, h[n.i]? = some none ∧ n.d.own = true ∧ (0 < n.d.n ∨ Selfish n.d.x)
  | t :: r, hp, s, hs => by
    rcases List.mem_cons.1 hs with rfl | hs
    · exact ⟨hp.1.1, hp.1.2.1, hp.1.2.2.1⟩
    · exact MadeX.at hp.2 s hs
theorem MadeX.ne {h : List (Option Chunk)} : ∀ {ns : List Fresh}, MadeX h ns → ∀ n ∈ ns, ∀ m ∈ ns, (n.i = m.i ∨ n.k = m.k) → n = m
  | t :: r, hp, n, hn, m, hm, he => by
    rcases List.mem_cons.1 hn with h1 | h1 <;> rcases List.mem_cons.1 hm with h2 | h2
    · rw [h1, h2]
    · have := hp.1.2.2.2 m h2; rw [h1] at he; omega
    · have := hp.1.2.2.2 n h1; rw [h2] at he; omega
    · exact MadeX.ne hp.2 n h1 m h2 he
def MadeP (h : List (Option Chunk)) : List Fresh → Prop
  | [] => True
  | n :: r => (n.d.x = Ext.none ∨ ∃ c, h[n.k]? = some (some c) ∧ n.d.x = c.x) ∧ MadeP h r
theorem MadeP.at {h : List (Option Chunk)} : ∀ {ns : List Fresh}, MadeP h ns → ∀ n ∈ ns, n.d.x = Ext.none ∨ ∃ c, h[n.k]? = some (some c) ∧ n.d.x = c.x
  | t :: r, hp, s, hs => by
    rcases List.mem_cons.1 hs with rfl | hs
    · exact hp.1
    · exact MadeP.at hp.2 s hs

theorem all2_up {F F' : Nat → Prop} {ρ ρ' : Nat → Nat × Nat} (ha : AgreeOn F ρ ρ') (hF : ∀ i, F i → F' i) : ∀ {vs xs : List Value}, All2 (Den F ρ) vs xs → All2 (Den F' ρ') vs xs
  | [], [], _ => trivial
  | [], _ :: _, h => h.elim
  | _ :: _, [], h => h.elim
  | _ :: _, _ :: _, h => ⟨h.1.more ha hF, all2_up ha hF h.2⟩
section
variable {P : Program} {G : Tys}
theorem sub_tidy {ss : List Piece} {ρ : Nat → Nat × Nat} {w : World} {S : Nat → Nat → Prop} {h : List (Option Chunk)} {X : Ctx} (hI : ∀ s ∈ ss, h[s.i]? = some (some s.c)) (hex : PartsX ss) (E : ExtOK X ρ h w S) : Tidy ⟨w, subM ρ S ss, ss.length, fun k => ρ (subσ ss k)⟩ ss := by
  have hσ : ∀ k s, ss[k]? = some s → subσ ss k = s.i := fun k s hk => by show (match ss[k]? with | some s => s.i | none => 0) = s.i; rw [hk]
  refine ⟨rfl, fun b j hm => ?_, fun k s hk hx hs => ?_⟩
  · rcases hm with ⟨_, s, hs, _, hb, _⟩ | ⟨s, hs, ho, hb⟩
    · obtain ⟨l, hl, hlt⟩ := List.getElem_of_mem hs
      have hl' : ss[l]? = some s := by rw [List.getElem?_eq_getElem hl, hlt]
      exact .inl ⟨l, hl, by show b = (ρ (subσ ss l)).1; rw [hσ l s hl']; exact hb⟩
    · exact .inr (.inr ⟨.inr ⟨s, hs, ho, hb⟩, fun j => .inr ⟨s, hs, ho, hb⟩⟩)
  · have hmem := List.mem_of_getElem? hk
    rcases hex.at s hmem with e | ⟨ho, e⟩
    · exact absurd e hx
    · have hb : S s.i (ρ s.i).1 := by
        rw [e] at hs
        exact hs _ _ _ (E.inv _ _ (hI s hmem))
      show May _ (ρ (subσ ss k)).1
      rw [hσ k s hk]
      exact .inr ⟨.inr ⟨s, hmem, ho, hb⟩, fun j => .inr ⟨s, hmem, ho, hb⟩⟩
/-- A callee's contract, one outcome. -/
theorem call_res {g : FuncId} {fn : Func} {cd : Code} {h : List (Option Chunk)} {vs : List Value} {V : Value} {B : Type} (okB : B → Prop) (h1 : B → List (Option Chunk)) (ss : List Piece) (ns : List Fresh) (vs' : List Value)
    (hG : TysOK P G) (hm : P.follows .mixedOrders = true) (hf : P.funcs[g]? = some fn) (hb : fn.body = some cd) (hr : ∀ xs w, (callFunc g xs).run P w = .ok (.enter g xs) w)
    (hin : PartsIn h ss) (hre : PartsRe (partX ss 0) ss) (hap : Apart ss) (hex : PartsX ss) (hmi : MadeX h ns) (hvs : All2 (Re2 (partX ss 0)) vs vs') (hop : Opens ss okB h1)
    (hwp : ∀ β, okB β → initK vs' fn.ntmps fun t => wpC P G ss.length cd (bodyQ P G fn fun v st => N (EndN ss st.h v fun v' h' => N (Obl (Re (partX ss 0 ++ madeX ns) V v') (N (Obl (PostS (partX ss 0 ++ madeX ns) h' ss 0) (N (Obl (PostN (partX ss 0 ++ madeX ns) h' ss.length ns) (N (Obl (PostX h' ss 0 ∧ MadeP h' ns) (N True)))))))))) ⟨t, h1 β⟩) :
    CallOK P g vs h V (partM ss ++ madeM ns) (partR ss) := fun h₂ hrd hms X ρ w xs H hx => by
  have hI : ∀ s ∈ ss, h₂[s.i]? = some (some s.c) := fun s hs => by
    cases e : s.e.own with
    | true => exact (hms (s.i, s.d) (List.mem_append_left _ (partM_mem.2 ⟨s, hs, e, rfl⟩))).trans (hin.at s hs)
    | false => exact (hrd s.i (partR_mem ⟨s, hs, e, rfl⟩)).trans (hin.at s hs)
  have hNw : ∀ n ∈ ns, h₂[n.i]? = some none := fun n hn => (hms (n.i, n.d) (List.mem_append_right _ (madeM_mem.2 ⟨n, hn, rfl⟩))).trans (hmi.at n hn).1
  obtain ⟨S, E⟩ := H.ext
  have T := sub_tidy hI hex E
  obtain ⟨H0, hargs⟩ := sub_start ss vs' hI hre hap hex.at hvs H E hx
  obtain ⟨β, hβ, ρ', hag, hfil, H1⟩ := hop _ _ w T H0
  have hargs' : All2 (Den (Fil (h1 β)) ρ') vs' xs := all2_up hag hfil hargs
  refine .inr ⟨hr _ w, ?_⟩
  refine (calls_sx (X := ⟨w, subM ρ S ss, ss.length, fun k => ρ (subσ ss k)⟩) (args := ⟨xs⟩) hG hm hf hb H1 hargs' (hwp β hβ)).mono ?_
  rintro e w' ⟨ρ1, v, st, x, rfl, H2, hdx, hq⟩
  obtain ⟨v', h', ρ2, H3, hd3, hq⟩ := N.out hq _ _ _ _ T H2 hdx
  have q1 : Re (partX ss 0 ++ madeX ns) V v' ∧ N _ := N.out hq
  have q2 : PostS (partX ss 0 ++ madeX ns) h' ss 0 ∧ N _ := N.out q1.2
  have q3 : PostN (partX ss 0 ++ madeX ns) h' ss.length ns ∧ N _ := N.out q2.2
  have q4 : (PostX h' ss 0 ∧ MadeP h' ns) ∧ N True := N.out q3.2
  exact ⟨x, rfl, sub_glue ss ns hI hNw hre hap (fun n hn => (hmi.at n hn).2) (fun n hn m hm => hmi.ne n hn m hm) H E H3 hd3 q1.1 q2.1 q3.1 (fun l s hl _ => by have := q4.1.1.at l s hl; rwa [Nat.zero_add] at this) q4.1.2.at⟩
end
end Go.Proofs.Ytchfbblpflcniaa.Sx
